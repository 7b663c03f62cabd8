import Derived.Test.YtmgpbchacndndaaD8
set_option linter.unusedSimpArgs false
set_option linter.unusedVariables false
namespace Go.Proofs.Ytmgpbchacndndaa.AM
def memU (U : List (Nat × Nat)) (i k : Nat) : Bool := U.any fun q => Nat.beq q.1 i && Nat.beq q.2 k
theorem Wr_ {U : List (Nat × Nat)} {i k : Nat} (h : (i, k) ∈ U) : memU U i k = true := List.any_eq_true.2 ⟨_, h, by simp⟩
def disj (a b : List Nat) : Bool := allT (fun x => !(b.any fun y => Nat.beq x y)) a
theorem Wp_ {a b : List Nat} (h : disj a b = true) : ∀ x ∈ a, x ∉ b := by
  intro x hx hb
  have := Ca_.1 h x hx
  simp only [Bool.not_eq_true', List.any_eq_false] at this
  exact this x hb (by simp)
def regDD {α : Type} (T : TyT) (DO : DOr) (M : FuncId → Bool) (ops : List Oper) (U : List (Nat × Nat)) : Nat → List Oper → List DV → List DBlk → List (Nat × Nat × List Nat) → List (Nat × List Nat × List Nat) → (List DV → List DBlk → Tree α) → Tree α
  | _, [], e, L, _, _, K => K e L
  | i, o :: rest, e, L, past, pend, K =>
    let run (e1 : List DV) (yes : Bool) : Tree α :=
      match yes with
      | true => (opD T DO e1 L o).bind fun r =>
        match heavy o with
        | true =>
          (match allT (fun p => !memU U p.1 i || disj p.2.1 p.2.2) (pend.map fun p => (p.1, p.2.1, p.2.2 ++ touch M L e1 o)) with
          | true => regDD T DO M ops U (i + 1) rest (setD e1 o.dst r.1) r.2 ((past.map fun p => (p.1, p.2.1, p.2.2 ++ touch M L e1 o)) ++ [(i, L.length, touch M L e1 o)]) (pend.map fun p => (p.1, p.2.1, p.2.2 ++ touch M L e1 o)) K
          | false => .fail)
        | false =>
          (match allT (fun p => !memU U p.1 i || (allT (fun j => Nat.blt (j / 2) p.2.1) (foot e1 o) && disj (foot e1 o) p.2.2)) past, allT (fun j => Nat.blt (j / 2) L.length) (foot e1 o) with
          | true, true => regDD T DO M ops U (i + 1) rest (setD e1 o.dst r.1) r.2 past (pend ++ [(i, foot e1 o, [])]) K
          | _, _ => .fail)
      | false => regDD T DO M ops U (i + 1) rest (setD e1 o.dst .undef) L (match heavy o with | true => past ++ [(i, L.length, [])] | false => past) pend K
    match wantD ops e o with
    | .yes => run e true
    | .no => run e false
    | .ask d b w => .br b (run (e.set d (.lit true)) w) (run (e.set d (.lit false)) (!w))
    | .bad => .fail
theorem St.stable {F F' : Fr} {L L' : List DBlk} {H H' : Heap} (hs : St F L H) (hb : ∃ g, F' = F.wa g) (hs' : St F' L' H') : Bs_ H H' := by
  obtain ⟨g, rfl⟩ := hb
  intro j B hB
  by_cases hj : j < F.H0.length
  · by_cases hm : j ∈ F.ids
    · exact .inl (hs'.own j B hB (.inl hm))
    · exact .inr (by rw [hs.ag.2 j hj hm]; exact (hs'.ag.2 j hj hm).symm.trans hB)
  · exact .inl (hs'.own j B hB (.inr (by show F.H0.length ≤ j; omega)))
theorem FrLe.back {F F' : Fr} {L L' : List DBlk} (h : FrLe F F' L) (he : Ext L' L) : ∀ (x : DV), x.Ok F' L' → x.Ok F L' := by
  have hρ : F'.ρ = F.ρ := by obtain ⟨⟨g, rfl⟩, _⟩ := h; rfl
  have ha : ∀ K, F'.agree K ↔ F.agree K := fun K => by obtain ⟨⟨g, rfl⟩, _⟩ := h; exact Iff.rfl
  intro x
  induction x using DV.rec (motive_2 := fun xs => DVs.Ok F' L' xs → DVs.Ok F L' xs) with
  | fn f cs ih => exact ih
  | agg cs ih => exact ih
  | tup cs ih => exact ih
  | bptr p cs ih =>
    intro h1
    have h2 := ih h1.2
    refine ⟨fun K hK => ?_, h2⟩
    have := h1.1 K ((ha K).2 hK)
    rw [hρ, h.avs (DVs.ok_ext he h2)] at this
    exact this
  | nil => rename_i h1; trivial
  | cons c cs ih1 ih2 => rename_i h1; exact ⟨ih1 h1.1, ih2 h1.2⟩
  | bslc s r => intro h1 K hK; rw [← hρ]; exact h1 K ((ha K).2 hK)
  | hslc s n => intro h1 K hK; rw [← hρ]; exact h1 K ((ha K).2 hK)
  | rns n cols => intro h1 K hK; exact (h1 K ((ha K).2 hK)).congr hρ.symm
  | _ => exact fun h => h
theorem Wx_ (v : Value) : Cs_ (absC v) = true := by
  unfold absC
  split <;> rfl
theorem Aqu_ {P : Program} {O : A0_} {env : Env} {H H' : Heap} {o : Oper} {x : AV} {e : TypeId} (ho : o.op = .alloc e) (h : opA P O env H o = some (x, H')) : Jd_ P env H o x H' := by
  obtain ⟨dst, op, type, pos, after, guard⟩ := o
  simp only at ho; subst ho
  simp only [opA] at h
  cases hz : zeroA P e with
  | none => rw [hz] at h; cases h
  | some z =>
    rw [hz] at h
    simp only [Option.bind_some] at h
    cases hc : z.cellsA with
    | none => rw [hc] at h; cases h
    | some cs =>
      rw [hc] at h
      simp only [Option.bind_some] at h
      have hpl : ∀ c ∈ cs, Cs_ c = true := by
        unfold zeroA at hz
        obtain ⟨v, hv, rfl⟩ := Option.map_eq_some_iff.1 hz
        unfold absV at hc
        split at hc
        · simp only [AV.cellsA, Option.some.injEq] at hc
          subst hc
          intro c hcm
          obtain ⟨u, _, rfl⟩ := List.mem_map.1 hcm
          exact Wx_ u
        · have h1 := Wx_ v
          unfold AV.cellsA at hc
          split at hc
          · cases hc
          · cases hc
          · rename_i hv; rw [hv] at h1; cases h1
          · cases hc
          · simp only [Option.some.injEq] at hc
            subst hc
            intro c hcm
            rw [List.mem_singleton.1 hcm]; exact h1
      unfold newA at h
      split at h
      · rename_i hfl
        simp only [Option.map_some, Option.some.injEq, Prod.mk.injEq] at h
        obtain ⟨rfl, rfl⟩ := h
        refine ⟨_, rfl, rfl, hpl, fun hf => by simpa using hfl hf, .inl rfl, fun K O' => ?_⟩
        simp only [opA, hz, hc, Option.bind_some, newA, if_pos hfl, Option.map_some, setId]
      · cases h
theorem P5_ (H K : Heap) (place : Nat → Option (Nat × Nat)) : ∀ (parts : List (Nat × AV)) (cells : List AV), (∀ q ∈ parts, q.2.isFlat = true) → (∀ c ∈ cells, Cs_ c = true) →
    fillA H place cells parts = fillA K place cells parts ∧ ∀ cs, fillA H place cells parts = some cs → ∀ c ∈ cs, Cs_ c = true
  | [], cells, _, hc => ⟨rfl, fun cs h => by simp only [fillA, Option.some.injEq] at h; subst h; exact hc⟩
  | (i, v) :: rest, cells, hp, hc => by
    have hv := hp (i, v) (by simp)
    simp only at hv
    have h1 : v.cellsA = some [v] := by cases v <;> first | rfl | (simp [AV.isFlat] at hv)
    have h2 : ∀ G, A5_ G v = true := fun G => by cases v <;> first | rfl | (simp [AV.isFlat] at hv)
    have h3 : Cs_ v = true := by cases v <;> first | rfl | (simp [AV.isFlat] at hv)
    simp only [fillA, h1]
    cases hpl : place i with
    | none => exact ⟨rfl, fun cs h => by cases h⟩
    | some os =>
      obtain ⟨off, size⟩ := os
      simp only [List.all_cons, h2, List.all_nil, Bool.and_true, and_true]
      split
      · refine P5_ H K place rest _ (fun q hq => hp q (by simp [hq])) fun c hcm => ?_
        simp only [putAt] at hcm
        rcases List.mem_or_eq_of_mem_set hcm with h | h
        · exact hc c h
        · rw [h]; exact h3
      · exact ⟨rfl, fun cs h => by cases h⟩
theorem Aj2_ {P : Program} {O : A0_} {env : Env} {H H' : Heap} {o : Oper} {x : AV} {t : TypeId} {len : Nat} {ps : Array (Nat × Operand)} (ho : o.op = .buildSlice t len ps)
    (hp : ∀ q ∈ (ps.toList.map fun (i, x) => (i, evA env x)), q.2.isFlat = true) (h : opA P O env H o = some (x, H')) : Jd_ P env H o x H' := by
  obtain ⟨dst, op, type, pos, after, guard⟩ := o
  simp only at ho; subst ho
  simp only [opA] at h
  have hK : ∀ K, Bq_ P K t len (ps.toList.map fun (i, x) => (i, evA env x)) = Bq_ P H t len (ps.toList.map fun (i, x) => (i, evA env x)) := fun K => by
    unfold Bq_
    cases he : elemA P t with
    | none => rfl
    | some e =>
      simp only [Option.bind_some]
      cases hi : P.info? e with
      | none => rfl
      | some i =>
        simp only [Option.bind_some]
        cases hz : i.zero with
        | none => rfl
        | some z =>
          simp only [Option.bind_some]
          split
          · rw [(P5_ K H _ _ (List.replicate (len * i.size) .top) hp (fun c hc => by rw [List.eq_of_mem_replicate hc]; rfl)).1]
          · rfl
  cases hb : Bq_ P H t len (ps.toList.map fun (i, x) => (i, evA env x)) with
  | none => rw [hb] at h; cases h
  | some q =>
    obtain ⟨cs, sz, fl⟩ := q
    rw [hb] at h
    simp only [Option.bind_some] at h
    have hpl : ∀ c ∈ cs, Cs_ c = true := by
      unfold Bq_ at hb
      cases he : elemA P t with
      | none => rw [he] at hb; cases hb
      | some e =>
        rw [he] at hb
        simp only [Option.bind_some] at hb
        cases hi : P.info? e with
        | none => rw [hi] at hb; cases hb
        | some i =>
          rw [hi] at hb
          simp only [Option.bind_some] at hb
          cases hz : i.zero with
          | none => rw [hz] at hb; cases hb
          | some z =>
            rw [hz] at hb
            simp only [Option.bind_some] at hb
            split at hb
            · obtain ⟨cs', h1, h2⟩ := Option.map_eq_some_iff.1 hb
              simp only [Prod.mk.injEq] at h2
              obtain ⟨rfl, _⟩ := h2
              exact (P5_ H H _ _ (List.replicate (len * i.size) .top) hp (fun c hc => by rw [List.eq_of_mem_replicate hc]; rfl)).2 _ h1
            · cases hb
    unfold newA at h
    split at h
    · rename_i hfl
      simp only [Option.map_some, Option.some.injEq, Prod.mk.injEq] at h
      obtain ⟨rfl, rfl⟩ := h
      refine ⟨_, rfl, rfl, hpl, fun hf => by simpa using hfl hf, .inr ⟨_, rfl⟩, fun K O' => ?_⟩
      simp only [opA, hK K, hb, Option.bind_some, newA, if_pos hfl, Option.map_some, setId]
    · cases h
theorem Alt_ {P : Program} {T : TyT} {F : Fr} {DO : DOr} {O : A0_} {e : List DV} {L L' : List DBlk} {H H' : Heap} {o : Oper} {x : DV} (hk : B4_ o = true) (hD : (opD T DO e L o).run = some (x, L'))
    {z : AV} (h : opA P O (DVs.av F e) H o = some (z, H')) : Jd_ P (DVs.av F e) H o z H' := by
  obtain ⟨dst, op, type, pos, after, guard⟩ := o
  cases op <;> simp only [B4_, Bool.false_eq_true] at hk
  case alloc t => exact Aqu_ (e := t) rfl h
  case buildSlice t len ps =>
    refine Aj2_ (t := t) (len := len) (ps := ps) rfl ?_ h
    simp only [opD] at hD
    unfold Ky_ at hD
    split at hD
    case h_2 => cases hD
    split at hD
    case h_3 => cases hD
    case h_2 =>
      split at hD
      · rename_i hnt _ _
        rw [hnt] at hk; simp at hk
      · cases hD
    split at hD
    · rename_i vs c1 c2 hps
      obtain ⟨r, hr, hD⟩ := Aa_ hD
      obtain ⟨p1, p2⟩ := Ec_ _ 0 vs hps
      obtain ⟨m1, m2, m3⟩ := X9_ (F := F) hr
      intro q hq
      obtain ⟨⟨i, y⟩, hy, rfl⟩ := List.mem_map.1 hq
      simp only
      have : (i, evD e y) ∈ (ps.toList.map fun q => (q.1, evD e q.2)) := List.mem_map.2 ⟨(i, y), hy, rfl⟩
      rw [p1] at this
      have := (List.of_mem_zip this).2
      rw [Au_]
      exact Da_ F (m3 _ this)
    · cases hD
section
variable {P : Program} {T : TyT} {F : Fr} {DO : DOr} {M : FuncId → Bool}
theorem DV.Ok.refs {L L0 : List DBlk} : ∀ (x : DV), (∀ j ∈ x.refs, (L0[j]?).map DBlk.tag = (L[j]?).map DBlk.tag) → x.Ok F L → x.Ok F L0 := by
  intro x
  induction x using DV.rec (motive_2 := fun xs => (∀ j ∈ DVs.refs xs, (L0[j]?).map DBlk.tag = (L[j]?).map DBlk.tag) → DVs.Ok F L xs → DVs.Ok F L0 xs) with
  | ptr j off ver alen =>
    intro h ⟨b, h1, h2, h3⟩
    obtain ⟨b', k1, k2⟩ := Db_ (h j (by simp [DV.refs])) h1
    exact ⟨b', k1, by rw [(B5_ k2).1, (B5_ k2).2]; exact ⟨h2, h3⟩⟩
  | own j ver len =>
    intro h ⟨b, h1, h2, h3⟩
    obtain ⟨b', k1, k2⟩ := Db_ (h j (by simp [DV.refs])) h1
    exact ⟨b', k1, by rw [(B5_ k2).1, (B5_ k2).2]; exact ⟨h2, h3⟩⟩
  | slc j off ver alen len =>
    intro h ⟨b, h1, h2, h3⟩
    obtain ⟨b', k1, k2⟩ := Db_ (h j (by simp [DV.refs])) h1
    exact ⟨b', k1, by rw [(B5_ k2).1, (B5_ k2).2]; exact ⟨h2, h3⟩⟩
  | nest j ver es len =>
    intro h ⟨b, h1, h2, h3⟩
    obtain ⟨b', k1, k2⟩ := Db_ (h j (by simp [DV.refs])) h1
    exact ⟨b', k1, by rw [(B5_ k2).1, (B5_ k2).2]; exact ⟨h2, h3⟩⟩
  | ncell j ver es len i c =>
    intro h ⟨b, h1, h2, h3⟩
    obtain ⟨b', k1, k2⟩ := Db_ (h j (by simp [DV.refs])) h1
    exact ⟨b', k1, by rw [(B5_ k2).1, (B5_ k2).2]; exact ⟨h2, h3⟩⟩
  | nsb j ver es lo len alen =>
    intro h ⟨b, h1, h2, h3⟩
    obtain ⟨b', k1, k2⟩ := Db_ (h j (by simp [DV.refs])) h1
    exact ⟨b', k1, by rw [(B5_ k2).1, (B5_ k2).2]; exact ⟨h2, h3⟩⟩
  | inn j c k len => intro h hx; exact InnOk.tag (h j (by simp [DV.refs])) hx
  | icell j c k i len => intro h hx; exact ⟨InnOk.tag (h j (by simp [DV.refs])) hx.1, hx.2⟩
  | fn f cs ih => intro h hx; exact ih h hx
  | agg cs ih => intro h hx; exact ih h hx
  | tup cs ih => intro h hx; exact ih h hx
  | bptr p cs ih => intro h hx; exact ⟨hx.1, ih h hx.2⟩
  | bslc s r => intro h hx; exact hx
  | hslc s n => intro h hx; exact hx
  | rns n cols => intro h hx; exact hx
  | nil => rename_i h hx; trivial
  | cons c cs ih1 ih2 => rename_i h hx; exact ⟨ih1 (fun j hj => h j (by simp [DVs.refs, hj])) hx.1, ih2 (fun j hj => h j (by simp [DVs.refs, hj])) hx.2⟩
  | _ => intro _ _; trivial
theorem Wd_ (hT : TOk P T) {L0 L1 L2 : List DBlk} {H : Heap} (hs : St F L0 H) {e : List DV} {o : Oper} (hl : heavy o = false) {x : DV} (h : (opD T DO e L1 o).run = some (x, L1)) (he : DVs.Ok F L2 e)
    (h1 : ∀ k ∈ foot e o, EqAt L0 L1 k) (h2 : ∀ k ∈ foot e o, EqAt L0 L2 k) (O : A0_) : opA P O (DVs.av F e) H o = some (x.av F, H) := by
  have hx := (Qe_ hl h).2 L0 h1
  have hc : Fz_ o = false := by
    obtain ⟨dst, op, type, pos, after, guard⟩ := o
    unfold Fz_
    split
    · rename_i f args ts hop
      simp only at hop
      subst hop
      simp [heavy] at hl
    · rfl
  obtain ⟨F', H', k0, k1, _, k3, _⟩ := Va_ hT hs (fun y hy => DV.Ok.refs _ (fun j hj => W3_ h2 hy hj) (G8_ he y)) hc hx
  have := Ss_ hl (k1 O)
  rw [k1 O, this, k0.av x (k0.back (Ext.refl _) x k3)]
def PastR (F : Fr) (L : List DBlk) (pastA : List (Nat × Heap)) (pastD : List (Nat × Nat × List Nat)) : Prop :=
  ∀ p ∈ pastA, ∃ n acc, (p.1, n, acc) ∈ pastD ∧ ∃ L0, St F L0 p.2 ∧ Ext L0 L ∧ L0.length = n ∧ n ≤ L.length ∧ ∀ k, k / 2 < n → k ∉ acc → EqAt L L0 k
def PendR (T : TyT) (DO : DOr) (F : Fr) (L : List DBlk) (pendA : List (Nat × Env × Oper × AV)) (pendD : List (Nat × List Nat × List Nat)) : Prop :=
  ∀ p ∈ pendA, ∃ acc eD L0 x, (p.1, foot eD p.2.2.1, acc) ∈ pendD ∧ heavy p.2.2.1 = false ∧ p.2.1 = DVs.av F eD ∧ DVs.Ok F L eD ∧ (opD T DO eD L0 p.2.2.1).run = some (x, L0) ∧ (p.2.2.2 = x.av F ∧ x.Ok F L) ∧
    ∀ k ∈ foot eD p.2.2.1, k / 2 < L.length ∧ (k ∉ acc → EqAt L L0 k)
theorem Ly_ {α : Type} (hT : TOk P T) (hO : OrcOk P DO M) {ops : Array Oper} {U : List (Nat × Nat)} {K : List DV → List DBlk → Tree α} {out : α} :
    ∀ (l : List Oper) (i : Nat) (F : Fr) (e : List DV) (L : List DBlk) (H : Heap) (pastA : List (Nat × Heap)) (pendA : List (Nat × Env × Oper × AV)) (pastD : List (Nat × Nat × List Nat)) (pendD : List (Nat × List Nat × List Nat)),
    St F L H → DVs.Ok F L e → PastR F L pastA pastD → PendR T DO F L pendA pendD → (regDD T DO M ops.toList U i l e L pastD pendD K).run = some out →
    ∃ (F' : Fr) (Os : Nat → A0_) (e' : List DV) (L' : List DBlk) (H' : Heap), FrLe F F' L ∧ (K e' L').run = some out ∧ St F' L' H' ∧ DVs.Ok F' L' e' ∧ Ext L L' ∧ (∀ k, Eo_ P (Os k)) ∧
      ∀ Q : Env → Heap → Prop, Q (DVs.av F' e') H' → runD P Os ops U Q i l (DVs.av F e) H pastA pendA
  | [], i, F, e, L, H, pastA, pendA, pastD, pendD, hs, he, hpa, hpe, h => ⟨F, fun _ _ _ _ => none, e, L, H, FrLe.refl F L, h, hs, he, Ext.refl _, fun _ => X4_, fun Q hQ => hQ⟩
  | o :: rest, i, F, e, L, H, pastA, pendA, pastD, pendD, hs, he, hpa, hpe, h => by
    have addP : ∀ {p : Nat × Heap} {l : List (Nat × Heap)} {c : Bool} {q : Nat × Heap}, p ∈ (if c = true then l ++ [q] else l) → p ∈ l ∨ p = q := by
      intro p l c q hp
      split at hp
      · rcases List.mem_append.1 hp with h | h
        · exact .inl h
        · exact .inr (by simpa using h)
      · exact .inl hp
    have addE : ∀ {p : Nat × Env × Oper × AV} {l : List (Nat × Env × Oper × AV)} {c : Bool} {q : Nat × Env × Oper × AV}, p ∈ (if c = true then l ++ [q] else l) → p ∈ l ∨ p = q := by
      intro p l c q hp
      split at hp
      · rcases List.mem_append.1 hp with h | h
        · exact .inl h
        · exact .inr (by simpa using h)
      · exact .inl hp
    have go : ∀ (e1 : List DV) (yes : Bool), DVs.Ok F L e1 → DVs.av F e1 = DVs.av F e → wantA ops (DVs.av F e) o = some yes →
        (match yes with
        | true => (opD T DO e1 L o).bind fun r =>
          match heavy o with
          | true =>
            (match allT (fun p => !memU U p.1 i || disj p.2.1 p.2.2) (pendD.map fun p => (p.1, p.2.1, p.2.2 ++ touch M L e1 o)) with
            | true => regDD T DO M ops.toList U (i + 1) rest (setD e1 o.dst r.1) r.2 ((pastD.map fun p => (p.1, p.2.1, p.2.2 ++ touch M L e1 o)) ++ [(i, L.length, touch M L e1 o)]) (pendD.map fun p => (p.1, p.2.1, p.2.2 ++ touch M L e1 o)) K
            | false => .fail)
          | false =>
            (match allT (fun p => !memU U p.1 i || (allT (fun j => Nat.blt (j / 2) p.2.1) (foot e1 o) && disj (foot e1 o) p.2.2)) pastD, allT (fun j => Nat.blt (j / 2) L.length) (foot e1 o) with
            | true, true => regDD T DO M ops.toList U (i + 1) rest (setD e1 o.dst r.1) r.2 pastD (pendD ++ [(i, foot e1 o, [])]) K
            | _, _ => .fail)
        | false => regDD T DO M ops.toList U (i + 1) rest (setD e1 o.dst .undef) L (match heavy o with | true => pastD ++ [(i, L.length, [])] | false => pastD) pendD K : Tree α).run = some out →
        ∃ (F' : Fr) (Os : Nat → A0_) (e' : List DV) (L' : List DBlk) (H' : Heap), FrLe F F' L ∧ (K e' L').run = some out ∧ St F' L' H' ∧ DVs.Ok F' L' e' ∧ Ext L L' ∧ (∀ k, Eo_ P (Os k)) ∧
          ∀ Q : Env → Heap → Prop, Q (DVs.av F' e') H' → runD P Os ops U Q i (o :: rest) (DVs.av F e) H pastA pendA := by
      intro e1 yes he1 hav hw h
      cases yes with
      | true =>
        simp only at h
        obtain ⟨⟨x, L1⟩, h1, h2⟩ := Tree.run_bind_some h
        obtain ⟨F1, O, H1, o0, o1, o2, o3, o4, o5⟩ := Xf_ hT hO hs he1 h1
        have htch := Amd_ (M := M) hO hs he1 h1
        simp only at h2
        cases hh : heavy o with
        | true =>
          simp only [hh] at h2
          split at h2
          · rename_i hall
            have hpe' : PendR T DO F1 L1 pendA (pendD.map fun p => (p.1, p.2.1, p.2.2 ++ touch M L e1 o)) := fun p hp => by
              obtain ⟨acc, eD, L0, y, q1, q2, q3, q4, q5, ⟨q6, q8⟩, q7⟩ := hpe p hp
              refine ⟨acc ++ touch M L e1 o, eD, L0, y, List.mem_map.2 ⟨_, q1, rfl⟩, q2, by rw [o0.avs q4]; exact q3, o0.oks' o5 q4, q5, ⟨by rw [o0.av y q8]; exact q6, o0.ok y q8 (q8.ext o5)⟩, fun j hj => ?_⟩
              obtain ⟨r1, r2⟩ := q7 j hj
              refine ⟨Nat.lt_of_lt_of_le r1 o5.len, fun hn => ?_⟩
              simp only [List.mem_append, not_or] at hn
              exact (htch j r1 hn.2).trans (r2 hn.1)
            have hpa' : PastR F1 L1 (if (U.any fun q => q.1 == i) = true then pastA ++ [(i, H)] else pastA) ((pastD.map fun p => (p.1, p.2.1, p.2.2 ++ touch M L e1 o)) ++ [(i, L.length, touch M L e1 o)]) := fun p hp => by
              rcases addP hp with hp | rfl
              · obtain ⟨n, acc, q1, L0, q2, q0, q3, q4, q5⟩ := hpa p hp
                refine ⟨n, acc ++ touch M L e1 o, List.mem_append_left _ (List.mem_map.2 ⟨_, q1, rfl⟩), L0, q2.later ((FrLe.refl F L0).trans q0 o0), q0.trans o5, q3, Nat.le_trans q4 o5.len, fun j hj hn => ?_⟩
                simp only [List.mem_append, not_or] at hn
                exact (htch j (by omega) hn.2).trans (q5 j hj hn.1)
              · exact ⟨L.length, touch M L e1 o, by simp, L, hs.later o0, o5, rfl, o5.len, fun j hj hn => htch j hj hn⟩
            obtain ⟨F', Os, e', L', H', k0, k1, k2, k3, k4, k5, k6⟩ := Ly_ hT hO rest (i + 1) F1 _ L1 H1 _ pendA _ _ o3 (Ja_ (o0.oks' o5 he1) o.dst o4) hpa' hpe' h2
            refine ⟨F', fun k => if k = i then O else Os k, e', L', H', o0.trans o5 k0, k1, k2, k3, o5.trans k4, fun k => ?_, fun Q hQ => ?_⟩
            · by_cases hk : k = i
              · simp only [hk, if_true]; exact o1
              · simp only [hk, if_false]; exact k5 k
            · simp only [runD, hw]
              rw [hav] at o2
              simp only [if_true, o2, hh]
              refine ⟨fun p hp hU O' => ?_, ?_, ?_⟩
              · obtain ⟨acc, eD, L0, y, q1, q2, q3, q4, q5, ⟨q6, q8⟩, q7⟩ := hpe' p hp
                have hd := Ca_.1 hall _ q1
                simp only [Wr_ hU, Bool.not_true, Bool.false_or] at hd
                have hd := Wp_ hd
                rw [q3, q6]
                exact Wd_ hT o3 q2 q5 q4 (fun j hj => (q7 j hj).2 (hd j hj)) (fun _ _ => EqAt.refl _ _) O'
              · exact ⟨hs.stable o0.base o3, fun hk => by have := Alt_ (P := P) (F := F) hk h1 (hav ▸ o2); rw [hav] at this; exact this⟩
              · have := k6 Q hQ
                rw [Ko_, o0.avs he1, hav] at this
                exact Sz_ (O := Os) _ _ _ _ _ _ (fun k hk => by simp [show k ≠ i by omega]) this
          · cases h2
        | false =>
          simp only [hh] at h2
          split at h2
          · rename_i hall hlt
            obtain ⟨rfl, hft⟩ := Qe_ hh h1
            have hH := Ss_ hh o2
            subst hH
            have hxF : x.Ok F L1 := o0.back (Ext.refl _) x o4
            rw [o0.av x hxF] at o2
            have hpe' : PendR T DO F L1 (if (U.any fun q => q.1 == i) = true then pendA ++ [(i, DVs.av F e, o, x.av F)] else pendA) (pendD ++ [(i, foot e1 o, [])]) := fun p hp => by
              rcases addE hp with hp | rfl
              · obtain ⟨acc, eD, L0, y, q1, q2, q3, q4, q5, q6, q7⟩ := hpe p hp
                exact ⟨acc, eD, L0, y, List.mem_append_left _ q1, q2, q3, q4, q5, q6, q7⟩
              · refine ⟨[], e1, L1, x, by simp, hh, hav.symm, he1, h1, ⟨rfl, hxF⟩, fun j hj => ⟨?_, fun _ => EqAt.refl _ _⟩⟩
                have := Ca_.1 hlt j hj
                simpa [Nat.blt_eq] using this
            obtain ⟨F', Os, e', L', H', k0, k1, k2, k3, k4, k5, k6⟩ := Ly_ hT hO rest (i + 1) F _ L1 H1 pastA _ _ _ hs (Ja_ he1 o.dst hxF) hpa hpe' h2
            refine ⟨F', fun k => if k = i then O else Os k, e', L', H', k0, k1, k2, k3, k4, fun k => ?_, fun Q hQ => ?_⟩
            · by_cases hk : k = i
              · simp only [hk, if_true]; exact o1
              · simp only [hk, if_false]; exact k5 k
            · simp only [runD, hw]
              rw [hav] at o2
              simp only [if_true, o2, hh]
              refine ⟨fun p hp hU => ?_, ?_⟩
              · obtain ⟨n, acc, q1, L0, q2, q0, q3, q4, q5⟩ := hpa p hp
                have hd := Ca_.1 hall _ q1
                simp only [Wr_ hU, Bool.not_true, Bool.false_or, Bool.and_eq_true] at hd
                have hlt' := Ca_.1 hd.1
                have hdj := Wp_ hd.2
                have hq : ∀ k ∈ foot e1 o, EqAt L0 L1 k := fun j hj => (q5 j (by have := hlt' j hj; simpa [Nat.blt_eq] using this) (hdj j hj)).symm
                rw [← hav]
                exact Wd_ hT q2 hh h1 he1 hq hq O
              · have := k6 Q hQ
                rw [Ko_, hav] at this
                exact Sz_ (O := Os) _ _ _ _ _ _ (fun k hk => by simp [show k ≠ i by omega]) this
          · cases h2
      | false =>
        simp only at h
        have hpa' : PastR F L (if heavy o = true then (if (U.any fun q => q.1 == i) = true then pastA ++ [(i, H)] else pastA) else pastA) (match heavy o with | true => pastD ++ [(i, L.length, [])] | false => pastD) := fun p hp => by
          cases hh : heavy o with
          | false => simp only [hh] at hp; exact hpa p (by simpa using hp)
          | true =>
            simp only [hh, if_true] at hp
            rcases addP hp with hp | rfl
            · obtain ⟨n, acc, q1, q2⟩ := hpa p hp
              exact ⟨n, acc, List.mem_append_left _ q1, q2⟩
            · exact ⟨L.length, [], by simp, L, hs, Ext.refl _, rfl, Nat.le_refl _, fun _ _ _ => EqAt.refl _ _⟩
        obtain ⟨F', Os, e', L', H', k0, k1, k2, k3, k4, k5, k6⟩ := Ly_ hT hO rest (i + 1) F _ L H _ pendA _ _ hs (Ja_ he1 o.dst (x := .undef) trivial) hpa' hpe h
        refine ⟨F', Os, e', L', H', k0, k1, k2, k3, k4, k5, fun Q hQ => ?_⟩
        simp only [runD, hw]
        have := k6 Q hQ
        rw [Ko_, hav] at this
        exact this
    have hsp := Ue_ (F := F) (ops := ops) (env := e) (o := o)
    simp only [regDD] at h
    split at h
    · rename_i hw; rw [hw] at hsp; exact go e true he rfl hsp h
    · rename_i hw; rw [hw] at hsp; exact go e false he rfl hsp h
    · rename_i d b w hw
      rw [hw] at hsp
      obtain ⟨p1, p2⟩ := hsp
      simp only [Tree.run] at h
      cases b with
      | true =>
        simp only [if_true] at h
        exact go _ w (Hz_ he d true) (Ia_ p1) (by rw [p2]; cases w <;> rfl) h
      | false =>
        simp only [Bool.false_eq_true, if_false] at h
        exact go _ (!w) (Hz_ he d false) (Ia_ p1) (by rw [p2]; cases w <;> rfl) h
    · cases h
end
end Go.Proofs.Ytmgpbchacndndaa.AM
