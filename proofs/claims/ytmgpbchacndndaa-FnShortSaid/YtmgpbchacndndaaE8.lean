import Derived.Test.YtmgpbchacndndaaE7
set_option linter.unusedSimpArgs false
set_option linter.unusedVariables false
namespace Go.Proofs.Ytmgpbchacndndaa.AM
section
variable {P : Program} {O : Nat → A0_} {nb : Nat}
theorem V3_ {ops : Array Oper} {A : List (List Nat)} (hA : ancOk ops A = true) {L : Nat → Bool} (hcl : ∀ (j : Nat) (o : Oper), ops[j]? = some o → L j = true → ∀ i ∈ B9_ o, L i = true) :
    ∀ (j : Nat) (o : Oper), ops[j]? = some o → (∀ i ∈ B9_ o, L i = true) → ∀ i ∈ A.getD j [], L i = true := by
  intro j
  induction j using Nat.strongRecOn with
  | _ j ih =>
    intro o ho hd i hi
    have hj : j < ops.size := (Array.getElem?_eq_some_iff.1 ho).1
    have := List.all_eq_true.1 hA j (by simpa using hj)
    rw [ho] at this
    simp only [Bool.and_eq_true, List.all_eq_true, decide_eq_true_eq, Bool.or_eq_true, List.contains_iff_mem, List.any_eq_true] at this
    rcases this.2 i hi with h | ⟨k, hk, hik⟩
    · exact hd i h
    · have hkj := this.1 k hk
      obtain ⟨ok, hok⟩ : ∃ ok, ops[k]? = some ok := ⟨ops[k]'(by omega), Array.getElem?_eq_getElem _⟩
      exact ih k hkj ok hok (fun m hm => hcl k ok hok (hd k hk) m hm) i hik
theorem D9_ {ops : Array Oper} {A : List (List Nat)} {U : List (Nat × Nat)} {FL : List Nat} (h : Tu_ ops A U FL = true) {i j : Nat} {oi oj : Oper} (hij : i < j) (hi : ops[i]? = some oi) (hj : ops[j]? = some oj) :
    (∀ d, oi.dst = some d → oj.dst ≠ some d) ∧ (i ∈ A.getD j [] ∨ (oi.apart ops oj = true ∧ (heavy oi = true ∧ heavy oj = true → j ∈ FL) ∧ ((heavy oi = true ∨ heavy oj = true) → (i, j) ∈ U))) := by
  have hjs : j < ops.size := (Array.getElem?_eq_some_iff.1 hj).1
  have h1 := List.all_eq_true.1 h j (by simpa using hjs)
  have h2 := List.all_eq_true.1 h1 i (by simpa using hij)
  rw [hi, hj] at h2
  simp only [Bool.and_eq_true, Bool.or_eq_true, List.contains_iff_mem, Option.isNone_iff_eq_none, bne_iff_ne, ne_eq, Bool.not_eq_true', Bool.and_eq_false_iff, Bool.or_eq_false_iff] at h2
  refine ⟨fun d hd he => ?_, ?_⟩
  · rcases h2.1 with h | h
    · rw [hd] at h; cases h
    · exact h (by rw [hd, he])
  · rcases h2.2 with h | ⟨⟨h3, h4⟩, h5⟩
    · exact .inl h
    · refine .inr ⟨h3, fun ⟨a, b⟩ => ?_, fun hab => ?_⟩
      · rcases h4 with (h | h) | h
        · rw [a] at h; cases h
        · rw [b] at h; cases h
        · exact h
      · rcases h5 with ⟨a, b⟩ | h
        · rcases hab with h | h
          · rw [a] at h; cases h
          · rw [b] at h; cases h
        · exact h
structure Taint (ops : Array Oper) (A : List (List Nat)) (FL : List Nat) (R : Nat → Option Nat) : Prop where
  self : ∀ k o, ops[k]? = some o → R k = some k → B4_ o = true ∧ k ∈ FL
  all : ∀ k, k ∈ FL → k < ops.size → R k = some k
  down : ∀ k o i, ops[k]? = some o → R k = some i → k ≠ i → i < k ∧ o.guard = none ∧ ∃ s t f, o.op = .fieldAddr s (.tmp t) f ∧ ∃ j oj, j < k ∧ ops[j]? = some oj ∧ oj.dst = some t ∧ R j = some i
  look : ∀ k o, ops[k]? = some o → (R k = none ∨ R k = some k) → ∀ j oj d r, ops[j]? = some oj → oj.dst = some d → d ∈ o.looksAt ops → R j = some r →
    ∀ h oh, h < r → ops[h]? = some oh → heavy oh = true → h ∈ A.getD r [] ∨ h ∈ A.getD k []
theorem Aom_ {ops : Array Oper} {A : List (List Nat)} {FL : List Nat} (h : (match FL with | [] => true | _ => Wt_ ops A FL (rootL ops FL)) = true) : Taint ops A FL fun k => (rootL ops FL).getD k none := by
  cases FL with
  | nil =>
    have : ∀ k, (rootL ops []).getD k none = none := fun k => by simp [rootL]
    exact ⟨fun k o _ h => (by simp [rootL] at h), fun k h => (by cases h), fun k o i _ h => (by simp [rootL] at h), fun k o _ _ j oj d r _ _ _ h => (by simp [rootL] at h)⟩
  | cons f FL =>
    simp only at h
    generalize rootL ops (f :: FL) = R at h
    have key := fun (k : Nat) (o : Oper) (ho : ops[k]? = some o) => by
      have h1 := List.all_eq_true.1 h k (by simpa using (Array.getElem?_eq_some_iff.1 ho).1)
      rw [ho] at h1
      exact h1
    have plain : ∀ (k : Nat) (o : Oper), ((List.range ops.size).all fun j => match ops[j]?, R.getD j none with
        | some oj, some r => (match oj.dst with
          | some d => !(o.looksAt ops).contains d || (List.range r).all fun h => (match ops[h]? with | some oh => !heavy oh | none => true) || (A.getD r []).contains h || (A.getD k []).contains h
          | none => true)
        | _, _ => true) = true → ∀ j oj d r, ops[j]? = some oj → oj.dst = some d → d ∈ o.looksAt ops → R.getD j none = some r →
        ∀ h oh, h < r → ops[h]? = some oh → heavy oh = true → h ∈ A.getD r [] ∨ h ∈ A.getD k [] := by
      intro k o hp j oj d r hj hd hl hr g og hg hog hhv
      have h1 := List.all_eq_true.1 hp j (by simpa using (Array.getElem?_eq_some_iff.1 hj).1)
      rw [hj, hr] at h1
      simp only [hd, Bool.or_eq_true, Bool.not_eq_true'] at h1
      rcases h1 with h1 | h1
      · exact absurd hl (by simpa using h1)
      · have h2 := List.all_eq_true.1 h1 g (by simpa using hg)
        rw [hog] at h2
        simp only [Bool.or_eq_true, Bool.not_eq_true', List.contains_iff_mem] at h2
        rcases h2 with (h2 | h2) | h2
        · rw [hhv] at h2; cases h2
        · exact .inl h2
        · exact .inr h2
    refine ⟨fun k o ho hr => ?_, fun k hk hks => ?_, fun k o i ho hr hne => ?_, fun k o ho hr => ?_⟩
    · have h1 := key k o ho
      simp only at h1 hr
      rw [hr] at h1
      simp only [if_true, Bool.and_eq_true, List.contains_iff_mem] at h1
      exact ⟨h1.1.1, h1.1.2⟩
    · have h1 := key k ops[k] (Array.getElem?_eq_getElem hks)
      simp only at h1 ⊢
      cases hr : R.getD k none with
      | none =>
        rw [hr] at h1
        simp only [Bool.and_eq_true, Bool.not_eq_true'] at h1
        have : (f :: FL).contains k = true := List.contains_iff_mem.2 hk
        rw [this] at h1
        cases h1.1
      | some i =>
        rw [hr] at h1
        simp only at h1
        split at h1
        · rename_i e; rw [e]
        · rename_i hne
          exfalso
          simp only [Bool.and_eq_true, Bool.not_eq_true'] at h1
          have : (f :: FL).contains k = true := List.contains_iff_mem.2 hk
          rw [this] at h1
          cases h1.1.2
    · have h1 := key k o ho
      simp only at h1 hr
      rw [hr] at h1
      simp only at h1
      rw [if_neg (fun e => hne e.symm)] at h1
      simp only [Bool.and_eq_true, decide_eq_true_eq] at h1
      obtain ⟨⟨h2, _⟩, h3⟩ := h1
      split at h3
      · rename_i s t f' hop
        simp only [Bool.and_eq_true, Option.isNone_iff_eq_none, List.any_eq_true, List.mem_range, beq_iff_eq] at h3
        obtain ⟨h4, j, h5, h6, h7⟩ := h3
        refine ⟨h2, h4, s, t, f', hop, j, ?_⟩
        cases hj : ops[j]? with
        | none => rw [hj] at h6; cases h6
        | some oj => rw [hj] at h6; exact ⟨oj, h5, rfl, by simpa using h6, h7⟩
      · cases h3
    · have h1 := key k o ho
      simp only at h1 hr
      rcases hr with hr | hr
      · rw [hr] at h1
        simp only [Bool.and_eq_true] at h1
        exact plain k o h1.2
      · rw [hr] at h1
        simp only [if_true, Bool.and_eq_true] at h1
        exact plain k o h1.2
def EnvIs (ops : Array Oper) (V : Nat → AV) (env0 : Env) (L : Nat → Bool) (e : Env) : Prop :=
  e.length = env0.length ∧ ∀ t, t < env0.length →
    (∀ (i : Nat) (o : Oper), ops[i]? = some o → o.dst = some t → L i = true → e[t]? = some (V i)) ∧
    ((∀ (i : Nat) (o : Oper), ops[i]? = some o → o.dst = some t → L i = false) → e[t]? = env0[t]?)
theorem EnvIs.put {ops : Array Oper} {V : Nat → AV} {env0 e : Env} {L : Nat → Bool} (h : EnvIs ops V env0 L e) {i : Nat} {o : Oper} (ho : ops[i]? = some o)
    (hd : ∀ (j : Nat) (oj : Oper), ops[j]? = some oj → j ≠ i → ∀ d, o.dst = some d → oj.dst ≠ some d) : EnvIs ops V env0 (fun j => if j = i then true else L j) (putA e o.dst (V i)) := by
  obtain ⟨h1, h2⟩ := h
  cases hdst : o.dst with
  | none =>
    refine ⟨h1, fun t ht => ⟨fun j oj hj hjd hl => ?_, fun hall => ?_⟩⟩
    · have hji : j ≠ i := fun e => by subst e; rw [ho] at hj; cases hj; rw [hdst] at hjd; cases hjd
      simp only [hji, if_false] at hl
      exact (h2 t ht).1 j oj hj hjd hl
    · refine (h2 t ht).2 fun j oj hj hjd => ?_
      have := hall j oj hj hjd
      simp only at this
      split at this
      · cases this
      · exact this
  | some d =>
    refine ⟨by simp [putA, h1], fun t ht => ⟨fun j oj hj hjd hl => ?_, fun hall => ?_⟩⟩
    · simp only [putA, List.getElem?_set]
      by_cases hji : j = i
      · subst hji
        rw [ho] at hj; cases hj
        rw [hdst] at hjd; cases hjd
        rw [if_pos rfl, if_pos (by omega)]
      · simp only [hji, if_false] at hl
        have : d ≠ t := fun e => hd j oj hj hji d hdst (e ▸ hjd)
        rw [if_neg this]
        exact (h2 t ht).1 j oj hj hjd hl
    · simp only [putA, List.getElem?_set]
      have : d ≠ t := fun e => by
        have := hall i o ho (e ▸ hdst)
        simp at this
      rw [if_neg this]
      refine (h2 t ht).2 fun j oj hj hjd => ?_
      have := hall j oj hj hjd
      simp only at this
      split at this
      · cases this
      · exact this
theorem EnvIs.congr {ops : Array Oper} {V : Nat → AV} {env0 e : Env} {L L' : Nat → Bool} (hL : ∀ i, i < ops.size → L i = L' i) (h : EnvIs ops V env0 L e) : EnvIs ops V env0 L' e := by
  refine ⟨h.1, fun t ht => ⟨fun i o hi hd hl => (h.2 t ht).1 i o hi hd ?_, fun hall => (h.2 t ht).2 fun i o hi hd => ?_⟩⟩
  · rw [hL i (Array.getElem?_eq_some_iff.1 hi).1]; exact hl
  · rw [hL i (Array.getElem?_eq_some_iff.1 hi).1]; exact hall i o hi hd
theorem EnvIs.same {ops : Array Oper} {V : Nat → AV} {env0 e e' : Env} {L : Nat → Bool} (h : EnvIs ops V env0 L e) (h' : EnvIs ops V env0 L e') : e = e' := by
  refine List.ext_getElem? fun t => ?_
  by_cases ht : t < env0.length
  · by_cases hx : ∃ (i : Nat) (o : Oper), ops[i]? = some o ∧ o.dst = some t ∧ L i = true
    · obtain ⟨i, o, h1, h2, h3⟩ := hx
      rw [(h.2 t ht).1 i o h1 h2 h3, (h'.2 t ht).1 i o h1 h2 h3]
    · have hn : ∀ (i : Nat) (o : Oper), ops[i]? = some o → o.dst = some t → L i = false := fun i o h1 h2 => by
        cases hl : L i with
        | false => rfl
        | true => exact absurd ⟨i, o, h1, h2, hl⟩ hx
      rw [(h.2 t ht).2 hn, (h'.2 t ht).2 hn]
  · rw [List.getElem?_eq_none (by rw [h.1]; omega), List.getElem?_eq_none (by rw [h'.1]; omega)]
theorem Amk_ {ops : Array Oper} {env env' : Env} {o : Oper} (h : ∀ g w d, o.guard = some (g, w) → (ops[g]?).bind (·.dst) = some d → env[d]? = env'[d]?) : wantA ops env o = wantA ops env' o := by
  unfold wantA
  cases hg : o.guard with
  | none => rfl
  | some gw =>
    obtain ⟨g, w⟩ := gw
    simp only
    cases hd : (ops[g]?).bind (·.dst) with
    | none => rfl
    | some d => simp only [h g w d hg hd]
theorem Vc_ {p q : Nat → Bool} (h : ∀ x, q x = true → p x = true) : ∀ l : List Nat, (l.filter q).length ≤ (l.filter p).length
  | [] => by simp
  | x :: l => by
    have ih := Vc_ h l
    simp only [List.filter_cons]
    cases hq : q x with
    | true => rw [h x hq]; simpa using ih
    | false => cases hp : p x <;> simp <;> omega
theorem Vi_ {p q : Nat → Bool} (h : ∀ x, q x = true → p x = true) {i : Nat} (hp : p i = true) (hq : q i = false) : ∀ l : List Nat, i ∈ l → (l.filter q).length < (l.filter p).length
  | [], hi => by cases hi
  | x :: l, hi => by
    simp only [List.filter_cons]
    rcases List.mem_cons.1 hi with rfl | hi
    · rw [hp, hq]
      have := Vc_ h l
      simp; omega
    · have ih := Vi_ h hp hq l hi
      cases hqx : q x with
      | true => rw [h x hqx]; simpa using ih
      | false => cases hpx : p x <;> simp <;> omega
theorem Ajm_ {ops : Array Oper} {Hp : Nat → Heap} {W : Nat → Bool} (hl : ∀ (k : Nat) (o : Oper), k < ops.size → ops[k]? = some o → heavy o = false → Hp (k + 1) = Hp k)
    (hu : ∀ (k : Nat) (o : Oper), k < ops.size → ops[k]? = some o → W k = false → Hp (k + 1) = Hp k) (i : Nat) (hi : ∀ o, ops[i]? = some o → heavy o = false) :
    ∀ c, i < c → c ≤ ops.size → (∃ (j : Nat) (o : Oper), i < j ∧ j < c ∧ ops[j]? = some o ∧ heavy o = true ∧ W j = true ∧ Hp c = Hp (j + 1)) ∨ Hp c = Hp i := by
  intro c
  induction c with
  | zero => intro h; omega
  | succ c ih =>
    intro h1 h2
    have hc : c < ops.size := by omega
    by_cases hci : c = i
    · subst hci
      exact .inr (hl c _ hc (Array.getElem?_eq_getElem hc) (hi _ (Array.getElem?_eq_getElem hc)))
    · have := ih (by omega) (by omega)
      have carry : Hp (c + 1) = Hp c → (∃ (j : Nat) (o : Oper), i < j ∧ j < c + 1 ∧ ops[j]? = some o ∧ heavy o = true ∧ W j = true ∧ Hp (c + 1) = Hp (j + 1)) ∨ Hp (c + 1) = Hp i := fun he => by
        rcases this with ⟨j, o, k1, k2, k3, k4, k5, k6⟩ | h
        · exact .inl ⟨j, o, k1, by omega, k3, k4, k5, he.trans k6⟩
        · exact .inr (he.trans h)
      cases hh : heavy ops[c] with
      | false => exact carry (hl c _ hc (Array.getElem?_eq_getElem hc) hh)
      | true =>
        cases hw : W c with
        | false => exact carry (hu c _ hc (Array.getElem?_eq_getElem hc) hw)
        | true => exact .inl ⟨c, _, by omega, by omega, Array.getElem?_eq_getElem hc, hh, hw, rfl⟩
theorem Aqc_ {c : AV} (h : Cs_ c = true) {H : Heap} {μ : Mem} {v : Value} (hv : VR H μ c v) : ∀ (K : Heap) (ν : Mem), VR K ν c v := by
  intro K ν
  cases c <;> first | exact .top v | exact VR.of_flat h hv
theorem Ek_ {H : Heap} {B : Blk} {j : Nat} {Bj : Blk} (hj : (H ++ [B])[j]? = some Bj) : (H[j]? = some Bj ∧ j ≠ H.length) ∨ (j = H.length ∧ Bj = B) := by
  rw [List.getElem?_append] at hj
  split at hj
  · rename_i hlt; exact .inl ⟨hj, by omega⟩
  · rename_i hge
    by_cases he : j = H.length
    · subst he; simp at hj; exact .inr ⟨rfl, hj.symm⟩
    · rw [List.getElem?_eq_none (by simp; omega)] at hj; cases hj
theorem Pl_ (w : World) (H : Heap) (μ : Mem) (B : Blk) (b p : Nat) : Adv H μ { w with heap := #[] } (H ++ [B]) (μ.at H.length b p) { w with heap := #[] } :=
  ⟨Nat.le_refl _, rfl, rfl, rfl, fun _ _ _ => rfl, fun id B _ _ => .inl (Nat.zero_le _), fun id B' hB => by
    have hlt := (List.getElem?_eq_some_iff.1 hB).1
    have hne : id ≠ H.length := by omega
    exact ⟨B', by rw [List.getElem?_append_left hlt]; exact hB, rfl, rfl, Nat.le_refl _, fun _ => by simp [Mem.at, hne]⟩⟩
theorem HR.adopt {H : Heap} {μ : Mem} {w : World} (h : HR H μ w) {B : Blk} {b p : Nat} {cs : Array Value} {e : TypeId} {fr : Nat × Nat} (hfr : Fz fr cs.size) (hne : ∀ (id : Nat) (B' : Blk), H[id]? = some B' → μ.blk id ≠ b)
    (hw : w.heap[b]? = some (.cells cs e fr)) (hcs : cs.size = p) (hlen : B.cells.length ≤ p) (hc : ∀ (m : Nat) (c : AV), B.cells[m]? = some c → ∃ v, cs[m]? = some v ∧ ∀ K ν, VR K ν c v)
    (hfl : B.flat = true → ∀ c ∈ B.cells, c.isFlat = true) : HR (H ++ [B]) (μ.at H.length b p) w := by
  refine ⟨fun j Bj hj => ?_, fun i j Bi Bj hi hj hoi hij => ?_, fun j Bj hj hf => ?_⟩
  · rcases Ek_ hj with ⟨h1, h2⟩ | ⟨rfl, rfl⟩
    · obtain ⟨cs', e', fr, k1, k2, k3, k4, k5⟩ := h.cells j Bj h1
      simp only [Mem.at, h2, if_false]
      refine ⟨cs', e', fr, k1, k2, k3, fun i c hcc => ?_, k5⟩
      obtain ⟨v, g1, g2⟩ := k4 i c hcc
      exact ⟨v, g1, g2.adv (Pl_ w H μ B b p)⟩
    · simp only [Mem.at, if_true]
      refine ⟨cs, e, fr, hw, by omega, hlen, fun i c hcc => ?_, fun _ => ⟨by simp, hfr⟩⟩
      obtain ⟨v, g1, g2⟩ := hc i c hcc
      exact ⟨v, by rw [Nat.zero_add]; exact g1, g2 _ _⟩
  · rcases Ek_ hi with ⟨h1, h2⟩ | ⟨rfl, rfl⟩
    · rcases Ek_ hj with ⟨g1, g2⟩ | ⟨rfl, rfl⟩
      · simp only [Mem.at, h2, g2, if_false]; exact h.apart i j Bi Bj h1 g1 hoi hij
      · simp only [Mem.at, h2, if_false, if_true]; exact hne i Bi h1
    · rcases Ek_ hj with ⟨g1, g2⟩ | ⟨rfl, rfl⟩
      · simp only [Mem.at, g2, if_false, if_true]; exact fun e => hne j Bj g1 e.symm
      · exact absurd rfl hij
  · rcases Ek_ hj with ⟨h1, h2⟩ | ⟨rfl, rfl⟩
    · exact h.flat j Bj h1 hf
    · exact hfl hf
theorem Adv.adopt {H0 : Heap} {μ0 : Mem} {w0 : World} {H : Heap} {μ : Mem} {w : World} (ha : Adv H0 μ0 w0 H μ w) (B : Blk) (b p : Nat) (hb : w0.heap.size ≤ b) : Adv H0 μ0 w0 (H ++ [B]) (μ.at H.length b p) w where
  size := ha.size
  os := ha.os
  tape := ha.tape
  output := ha.output
  block := ha.block
  own := fun id B' hB ho => by
    rcases Ek_ hB with ⟨h1, h2⟩ | ⟨rfl, rfl⟩
    · have := ha.own id B' h1 ho
      simp only [Mem.at, h2, if_false]; exact this
    · exact .inl (by simp only [Mem.at, if_true]; exact hb)
  evo := fun id B' hB => by
    obtain ⟨B1, h1, h2, h3, h4, h5⟩ := ha.evo id B' hB
    have hlt := (List.getElem?_eq_some_iff.1 h1).1
    have hne : id ≠ H.length := by omega
    refine ⟨B1, by rw [List.getElem?_append_left hlt]; exact h1, h2, h3, h4, fun he => ?_⟩
    have := h5 he
    simp only [Mem.at, hne, if_false]; exact this
def envOf (ops : Array Oper) (V : Nat → AV) (e : Env) (L : Nat → Bool) : Env :=
  (List.range e.length).map fun t => match (List.range ops.size).find? (fun k => (match ops[k]? with | some o => o.dst == some t | none => false) && L k) with | some k => V k | none => (e[t]?).getD .top
abbrev DistD (ops : Array Oper) : Prop := ∀ (i j : Nat) (oi oj : Oper), ops[i]? = some oi → ops[j]? = some oj → j ≠ i → ∀ d, oi.dst = some d → oj.dst ≠ some d
theorem Alo_ {ops : Array Oper} {V : Nat → AV} {e : Env} {L : Nat → Bool} (hd : DistD ops) : EnvIs ops V e L (envOf ops V e L) := by
  refine ⟨by simp [envOf], fun t ht => ⟨fun i o ho hdst hl => ?_, fun hall => ?_⟩⟩
  · simp only [envOf, List.getElem?_map, List.getElem?_range ht, Option.map_some]
    split
    · rename_i k hf
      have hk := List.find?_some hf
      simp only [Bool.and_eq_true] at hk
      cases hok : ops[k]? with
      | none => rw [hok] at hk; simp at hk
      | some ok =>
        rw [hok] at hk
        by_cases hki : k = i
        · rw [hki]
        · exact absurd (by simpa using hk.1) (hd i k o ok ho hok hki t hdst)
    · rename_i hf
      have := List.find?_eq_none.1 hf i (by simpa using (Array.getElem?_eq_some_iff.1 ho).1)
      rw [ho] at this
      simp [hdst, hl] at this
  · simp only [envOf, List.getElem?_map, List.getElem?_range ht, Option.map_some]
    split
    · rename_i k hf
      have hk := List.find?_some hf
      simp only [Bool.and_eq_true] at hk
      cases hok : ops[k]? with
      | none => rw [hok] at hk; simp at hk
      | some ok =>
        rw [hok] at hk
        have := hall k ok hok (by simpa using hk.1)
        rw [this] at hk
        cases hk.2
    · simp [List.getElem?_eq_getElem ht]
theorem EnvIs.congrV {ops : Array Oper} {V V' : Nat → AV} {env0 e : Env} {L : Nat → Bool} (hV : ∀ k o, ops[k]? = some o → L k = true → V k = V' k) (h : EnvIs ops V env0 L e) : EnvIs ops V' env0 L e :=
  ⟨h.1, fun t ht => ⟨fun i o hi hd hl => by rw [← hV i o hi hl]; exact (h.2 t ht).1 i o hi hd hl, (h.2 t ht).2⟩⟩
def pendK (R : Nat → Option Nat) (p k : Nat) : Bool := match R k with | some i => decide (p ≤ i) | none => false
def Vp (R : Nat → Option Nat) (V : Nat → AV) (p k : Nat) : AV := if pendK R p k = true then .top else V k
theorem Bw_ {R : Nat → Option Nat} {p k : Nat} : pendK R p k = true ↔ ∃ i, R k = some i ∧ p ≤ i := by
  unfold pendK
  cases R k <;> simp
structure FlS (ops : Array Oper) (V : Nat → AV) (Hp : Nat → Heap) (FL : List Nat) (R : Nat → Option Nat) (Bf : Nat → Blk) : Prop where
  dist : DistD ops
  light : ∀ (k : Nat) (o : Oper), k < ops.size → ops[k]? = some o → heavy o = false → Hp (k + 1) = Hp k
  lt : ∀ i ∈ FL, i < ops.size
  hv : ∀ i ∈ FL, ∀ o, ops[i]? = some o → heavy o = true
  push : ∀ i ∈ FL, Hp (i + 1) = Hp i ++ [Bf i]
  own : ∀ i ∈ FL, (Bf i).own = true
  plain : ∀ i ∈ FL, ∀ c ∈ (Bf i).cells, Cs_ c = true
  flat : ∀ i ∈ FL, (Bf i).flat = true → ∀ c ∈ (Bf i).cells, c.isFlat = true
  root : ∀ k o i, ops[k]? = some o → R k = some i → i ∈ FL ∧ i ≤ k
  seat : ∀ k o i, ops[k]? = some o → R k = some i → (∃ off, V k = .ptr ⟨(Hp i).length, off, (Bf i).cells.length⟩) ∨ ∃ m, V k = .slc ⟨(Hp i).length, 0, (Bf i).cells.length⟩ m
def Leads (n : Nat) (B : Blk) (b p : Nat) (x : AV) (v : Value) : Prop := ∀ (K : Heap) (ν : Mem), K[n]? = some B → ν.blk n = b → ν.off n = 0 → ν.phys n = p → VR K ν x v
def J0_ (B : Blk) (H : Heap) (μ : Mem) (w0 w : World) (b p : Nat) : Prop :=
  b < w.heap.size ∧ w0.heap.size ≤ b ∧ (∀ (id : Nat) (B' : Blk), H[id]? = some B' → μ.blk id ≠ b) ∧
  ∃ (cs : Array Value) (e : TypeId) (fr : Nat × Nat), w.heap[b]? = some (.cells cs e fr) ∧ Fz fr cs.size ∧ cs.size = p ∧ B.cells.length ≤ p ∧ ∀ (m : Nat) (c : AV), B.cells[m]? = some c → ∃ v, cs[m]? = some v ∧ ∀ K ν, VR K ν c v
theorem J0_.step {B : Blk} {H H' : Heap} {μ μ' : Mem} {w0 w w' : World} {b p : Nat} (h : J0_ B H μ w0 w b p) (ha : Adv H μ w H' μ' w') (hs : Bs_ H H') : J0_ B H' μ' w0 w' b p := by
  obtain ⟨h1, h2, h3, cs, e, fr, h4, h5⟩ := h
  refine ⟨Nat.lt_of_lt_of_le h1 ha.size, h2, fun id B' hB => ?_, cs, e, fr, ?_, h5⟩
  · rcases hs id B' hB with ho | hold
    · rcases ha.own id B' hB ho with h | ⟨i0, B0, k1, k2, k3⟩
      · omega
      · rw [← k3]; exact h3 i0 B0 k1
    · obtain ⟨B1, k1, k2, k3, k4, k5⟩ := ha.evo id B' hold
      rw [hB] at k1; cases k1
      rw [(k5 rfl).1]
      exact h3 id B' hold
  · rw [ha.block b h1 fun id B' hB _ => h3 id B' hB]; exact h4
structure Fl (ops : Array Oper) (V : Nat → AV) (Hp : Nat → Heap) (FL : List Nat) (R : Nat → Option Nat) (Bf : Nat → Blk) (e : Env) (H0 : Heap) (μ0 : Mem) (w0 : World)
    (p : Nat) (L : Nat → Bool) (a : Act) (w : World) (e1 : Env) (μ1 : Mem) (β ph : Nat → Nat) : Prop where
  env : EnvIs ops (Vp R V p) e L e1
  le : p ≤ ops.size
  low : ∀ (j : Nat) (o : Oper), ops[j]? = some o → heavy o = true → j < p → L j = true
  high : ∀ (j : Nat) (o : Oper), ops[j]? = some o → heavy o = true → L j = true → j < p ∨ j ∈ FL
  er : ER (Hp p) μ1 e1 a
  hr : HR (Hp p) μ1 w
  adv : Adv H0 μ0 w0 (Hp p) μ1 w
  rt : ∀ (k : Nat) (o : Oper) (i : Nat), ops[k]? = some o → L k = true → R k = some i → L i = true
  blk : ∀ i ∈ FL, L i = true → p ≤ i → J0_ (Bf i) (Hp p) μ1 w0 w (β i) (ph i)
  dst : ∀ i ∈ FL, ∀ j ∈ FL, L i = true → L j = true → p ≤ i → p ≤ j → i ≠ j → β i ≠ β j
  tmp : ∀ (k : Nat) (o : Oper) (d i : Nat) (v : Value), ops[k]? = some o → o.dst = some d → L k = true → R k = some i → p ≤ i → a.tmps[d]? = some v → Leads (Hp i).length (Bf i) (β i) (ph i) (V k) v
section
variable {ops : Array Oper} {V : Nat → AV} {Hp : Nat → Heap} {FL : List Nat} {R : Nat → Option Nat} {Bf : Nat → Blk} {e : Env} {H0 : Heap} {μ0 : Mem} {w0 : World}
theorem Fl.pass (S : FlS ops V Hp FL R Bf) {p : Nat} {L : Nat → Bool} {a : Act} {w : World} {e1 : Env} {μ1 : Mem} {β ph : Nat → Nat} (F : Fl ops V Hp FL R Bf e H0 μ0 w0 p L a w e1 μ1 β ph)
    (hp : p ∈ FL) (hl : L p = true) : ∃ e2 μ2, Fl ops V Hp FL R Bf e H0 μ0 w0 (p + 1) L a w e2 μ2 β ph := by
  have hH := S.push p hp
  have hps := S.lt p hp
  obtain ⟨b1, b2, b3, cs, et, fr, b4, bf, b5, b6, b7⟩ := F.blk p hp hl (Nat.le_refl _)
  have hE := Alo_ (V := Vp R V (p + 1)) (e := e) (L := L) S.dist
  refine ⟨envOf ops (Vp R V (p + 1)) e L, μ1.at (Hp p).length (β p) (ph p), hE, hps, fun j o ho hh hj => ?_, fun j o ho hh hL => ?_, ?_, ?_, ?_, F.rt, fun i hi hli hpi => ?_, fun i hi j hj h1 h2 h3 h4 hne => ?_, fun k o d i v h1 h2 h3 h4 h5 h6 => ?_⟩
  · rcases Nat.lt_or_ge j p with h | h
    · exact F.low j o ho hh h
    · have : j = p := by omega
      rw [this]; exact hl
  · rcases F.high j o ho hh hL with h | h
    · exact .inl (by omega)
    · exact .inr h
  · rw [hH]
    refine ⟨F.er.1, hE.1.trans (F.env.1.symm.trans F.er.2.1), fun t x v hx hv => ?_⟩
    have ht : t < e.length := by rw [← hE.1]; exact (List.getElem?_eq_some_iff.1 hx).1
    by_cases hk : ∃ (k : Nat) (o : Oper), ops[k]? = some o ∧ o.dst = some t ∧ L k = true
    · obtain ⟨k, o, k1, k2, k3⟩ := hk
      rw [(hE.2 t ht).1 k o k1 k2 k3] at hx
      cases hx
      by_cases hnp : pendK R (p + 1) k = true
      · simp only [Vp, hnp, if_true]; exact .top v
      · have e1k := (F.env.2 t ht).1 k o k1 k2 k3
        simp only [Vp, hnp]
        by_cases hpk : pendK R p k = true
        · obtain ⟨i, r1, r2⟩ := Bw_.1 hpk
          have hip : i = p := by
            rcases Nat.lt_or_ge p i with h | h
            · exact absurd (Bw_.2 ⟨i, r1, h⟩) hnp
            · omega
          subst hip
          exact F.tmp k o t i v k1 k2 k3 r1 (Nat.le_refl _) hv _ _ (by simp) (by simp [Mem.at]) (by simp [Mem.at]) (by simp [Mem.at])
        · simp only [Vp, hpk] at e1k
          exact (F.er.2.2 t (V k) v (by simpa using e1k) hv).adv (Pl_ w _ _ _ _ _)
    · have hall : ∀ (i : Nat) (o : Oper), ops[i]? = some o → o.dst = some t → L i = false := fun i o h1 h2 => by
        cases hl : L i with
        | false => rfl
        | true => exact absurd ⟨i, o, h1, h2, hl⟩ hk
      rw [(hE.2 t ht).2 hall, ← (F.env.2 t ht).2 hall] at hx
      exact (F.er.2.2 t x v hx hv).adv (Pl_ w _ _ _ _ _)
  · rw [hH]; exact F.hr.adopt bf b3 b4 b5 b6 b7 (S.flat p hp)
  · rw [hH]; exact F.adv.adopt _ _ _ b2
  · obtain ⟨c1, c2, c3, c4⟩ := F.blk i hi hli (by omega)
    refine ⟨c1, c2, fun id B' hB => ?_, c4⟩
    rw [hH] at hB
    rcases Ek_ hB with ⟨g1, g2⟩ | ⟨rfl, rfl⟩
    · simp only [Mem.at, g2, if_false]; exact c3 id B' g1
    · simp only [Mem.at, if_true]
      exact F.dst p hp i hi hl hli (Nat.le_refl _) (by omega) (by omega)
  · exact F.dst i hi j hj h1 h2 (by omega) (by omega) hne
  · exact F.tmp k o d i v h1 h2 h3 h4 (by omega) h6
theorem Fl.skip (S : FlS ops V Hp FL R Bf) {p : Nat} {L : Nat → Bool} {a : Act} {w : World} {e1 : Env} {μ1 : Mem} {β ph : Nat → Nat} (F : Fl ops V Hp FL R Bf e H0 μ0 w0 p L a w e1 μ1 β ph)
    (hps : p < ops.size) (hh : ∀ o, ops[p]? = some o → heavy o = false) : Fl ops V Hp FL R Bf e H0 μ0 w0 (p + 1) L a w e1 μ1 β ph := by
  have ho : ops[p]? = some ops[p] := Array.getElem?_eq_getElem hps
  have hH := S.light p _ hps ho (hh _ ho)
  have hne : ∀ i ∈ FL, i ≠ p := fun i hi e => by
    subst e
    have := S.hv i hi _ ho
    rw [hh _ ho] at this; cases this
  refine ⟨F.env.congrV fun k o hk _ => ?_, hps, fun j o hj hhv hjp => ?_, fun j o hj hhv hL => ?_, by rw [hH]; exact F.er, by rw [hH]; exact F.hr, by rw [hH]; exact F.adv, F.rt, fun i hi hli hpi => ?_, fun i hi j hj h1 h2 h3 h4 => F.dst i hi j hj h1 h2 (by omega) (by omega), fun k o d i v h1 h2 h3 h4 h5 h6 => F.tmp k o d i v h1 h2 h3 h4 (by omega) h6⟩
  · unfold Vp
    have : pendK R p k = pendK R (p + 1) k := by
      rw [Bool.eq_iff_iff, Bw_, Bw_]
      constructor
      · rintro ⟨i, r1, r2⟩
        have := hne i (S.root k o i hk r1).1
        exact ⟨i, r1, by omega⟩
      · rintro ⟨i, r1, r2⟩
        exact ⟨i, r1, by omega⟩
    rw [this]
  · rcases Nat.lt_or_ge j p with h | h
    · exact F.low j o hj hhv h
    · have : j = p := by omega
      subst this
      rw [hh o hj] at hhv; cases hhv
  · rcases F.high j o hj hhv hL with h | h
    · exact .inl (by omega)
    · exact .inr h
  · rw [hH]; exact F.blk i hi hli (by omega)
theorem Fl.advance (S : FlS ops V Hp FL R Bf) {L : Nat → Bool} {a : Act} {w : World} {β ph : Nat → Nat} : ∀ (d p : Nat) (e1 : Env) (μ1 : Mem), ops.size - p = d → Fl ops V Hp FL R Bf e H0 μ0 w0 p L a w e1 μ1 β ph →
    ∃ c e2 μ2, Fl ops V Hp FL R Bf e H0 μ0 w0 c L a w e2 μ2 β ph ∧ (c < ops.size → ∃ o, ops[c]? = some o ∧ heavy o = true ∧ L c = false)
  | 0, p, e1, μ1, hd, F => ⟨p, e1, μ1, F, fun h => by have := F.le; omega⟩
  | d + 1, p, e1, μ1, hd, F => by
    have hps : p < ops.size := by omega
    have ho : ops[p]? = some ops[p] := Array.getElem?_eq_getElem hps
    cases hh : heavy ops[p] with
    | false => exact Fl.advance S d (p + 1) e1 μ1 (by omega) (F.skip S hps fun o h => by rw [ho] at h; cases h; exact hh)
    | true =>
      cases hl : L p with
      | false => exact ⟨p, e1, μ1, F, fun _ => ⟨_, ho, hh, hl⟩⟩
      | true =>
        have hp : p ∈ FL := by
          rcases F.high p _ ho hh hl with h | h
          · omega
          · exact h
        obtain ⟨e2, μ2, F2⟩ := F.pass S hp hl
        exact Fl.advance S d (p + 1) e2 μ2 (by omega) F2
theorem Ad4_ (a : Act) (v : Value) {o : Oper} {d : Nat} (h : o.dst ≠ some d) : (a.put o.dst v).tmps[d]? = a.tmps[d]? := by
  cases hd : o.dst with
  | none => rfl
  | some t =>
    have : t ≠ d := fun e => h (by rw [hd, e])
    simp [Act.put, Array.getElem?_setIfInBounds_ne this]
theorem An7_ (a : Act) (v u : Value) {o : Oper} {d : Nat} (h : o.dst = some d) (hu : (a.put o.dst v).tmps[d]? = some u) : u = v := by
  rw [h] at hu
  simp only [Act.put, Array.getElem?_setIfInBounds] at hu
  split at hu
  · split at hu
    · cases hu; rfl
    · cases hu
  · rename_i hne; exact absurd trivial hne
theorem Fl.put (S : FlS ops V Hp FL R Bf) {p q : Nat} {L : Nat → Bool} {a : Act} {w w' : World} {e1 : Env} {μ1 μ' : Mem} {β ph β' ph' : Nat → Nat} (F : Fl ops V Hp FL R Bf e H0 μ0 w0 p L a w e1 μ1 β ph)
    {i : Nat} {o : Oper} (ho : ops[i]? = some o) (hun : L i = false) (hpq : p ≤ q) (hqs : q ≤ ops.size) {v : Value} (hvr : VR (Hp q) μ' (Vp R V q i) v) (hr' : HR (Hp q) μ' w') (ha : Adv (Hp p) μ1 w (Hp q) μ' w') (hst : Bs_ (Hp p) (Hp q))
    (hβ : ∀ j, j ≠ i → β' j = β j ∧ ph' j = ph j) (hlow : ∀ (j : Nat) (oj : Oper), ops[j]? = some oj → heavy oj = true → j < q → j = i ∨ j < p) (hhigh : heavy o = true → i < q ∨ i ∈ FL) (hmid : ∀ j ∈ FL, L j = true → p ≤ j → q ≤ j)
    (hroot : ∀ r, R i = some r → r ≠ i → L r = true)
    (hblk : i ∈ FL → q ≤ i → J0_ (Bf i) (Hp q) μ' w0 w' (β' i) (ph' i) ∧ w.heap.size ≤ β' i)
    (htmp : ∀ r, R i = some r → q ≤ r → Leads (Hp r).length (Bf r) (β' r) (ph' r) (V i) v) :
    Fl ops V Hp FL R Bf e H0 μ0 w0 q (fun j => if j = i then true else L j) (a.put o.dst v) w' (putA e1 o.dst (Vp R V q i)) μ' β' ph' := by
  refine ⟨?_, hqs, fun j oj hj hh hjq => ?_, fun j oj hj hh hL => ?_, (F.er.adv ha).put o.dst hvr, hr', F.adv.trans ha, fun k ok j hk hL hr => ?_, fun j hj hL hqj => ?_, fun j hj k hk h1 h2 h3 h4 hne => ?_, fun k ok d j u h1 h2 h3 h4 h5 h6 => ?_⟩
  · refine EnvIs.put (F.env.congrV fun k ok hk hL => ?_) ho fun j oj hj hne d hd => S.dist i j o oj ho hj hne d hd
    unfold Vp
    have : pendK R p k = pendK R q k := by
      rw [Bool.eq_iff_iff, Bw_, Bw_]
      constructor
      · rintro ⟨j, r1, r2⟩
        exact ⟨j, r1, hmid j (S.root k ok j hk r1).1 (F.rt k ok j hk hL r1) r2⟩
      · rintro ⟨j, r1, r2⟩
        exact ⟨j, r1, by omega⟩
    rw [this]
  · by_cases hji : j = i
    · simp [hji]
    · simp only [hji, if_false]
      rcases hlow j oj hj hh hjq with h | h
      · exact absurd h hji
      · exact F.low j oj hj hh h
  · by_cases hji : j = i
    · subst hji; rw [ho] at hj; cases hj; exact hhigh hh
    · simp only [hji, if_false] at hL
      rcases F.high j oj hj hh hL with h | h
      · exact .inl (by omega)
      · exact .inr h
  · by_cases hji : j = i
    · simp [hji]
    · simp only [hji, if_false]
      by_cases hki : k = i
      · subst hki; exact hroot j hr hji
      · simp only [hki, if_false] at hL
        exact F.rt k ok j hk hL hr
  · by_cases hji : j = i
    · subst hji; exact (hblk hj hqj).1
    · simp only [hji, if_false] at hL
      rw [(hβ j hji).1, (hβ j hji).2]
      exact (F.blk j hj hL (by omega)).step ha hst
  · have one : ∀ k, k ∈ FL → L k = true → p ≤ k → q ≤ i → i ∈ FL → k ≠ i → β' i ≠ β' k := fun k hk hL hpk hqi hi hki => by
      rw [(hβ k hki).1]
      have h1 := (F.blk k hk hL hpk).1
      have h2 := (hblk hi hqi).2
      omega
    by_cases hji : j = i
    · subst hji
      have hkj : k ≠ j := fun e => hne e.symm
      simp only [hkj, if_false] at h2
      exact one k hk h2 (by omega) h3 hj hkj
    · simp only [hji, if_false] at h1
      by_cases hki : k = i
      · subst hki
        exact (one j hj h1 (by omega) h4 hk hji).symm
      · simp only [hki, if_false] at h2
        rw [(hβ j hji).1, (hβ k hki).1]
        exact F.dst j hj k hk h1 h2 (by omega) (by omega) hne
  · by_cases hki : k = i
    · subst hki
      rw [ho] at h1; cases h1
      rw [An7_ a v u h2 h6]
      exact htmp j h4 h5
    · simp only [hki, if_false] at h3
      rw [Ad4_ a v (S.dist k i ok o h1 ho (fun e => hki e.symm) d h2)] at h6
      have hji : j ≠ i := fun e => by
        subst e
        have := F.rt k ok j h1 h3 h4
        rw [hun] at this; cases this
      rw [(hβ j hji).1, (hβ j hji).2]
      exact F.tmp k ok d j u h1 h2 h3 h4 (by omega) h6
end
theorem Adc_ {s f o : Nat} {ft : TypeId} {n : Nat} (w : World) (hf : B3_ P s f = some (o, ft)) (hs : szA P ft = some n) (hn : n ≠ 0) (b off : Nat) :
    (Instr.fieldAt s (.pointer (some ⟨b, off, none⟩)) f).run P w = .ok (.pointer (some ⟨b, off + o, none⟩)) w := by
  obtain ⟨fields, fd, hu, hfd, rfl, rfl⟩ := Td_ hf
  simp [Instr.fieldAt, run_underlying hu, hfd, Instr.sureAddr, fieldPlace, Bj_ hs, hn, Id_]
theorem Aqq_ (hm : P.follows .mixedOrders = true) (hO : ∀ i, Eo_ P (O i)) {id : Nat} {ops : Array Oper} (U : List (Nat × Nat)) {Q : QA} {e : Env} {H : Heap} (hB : Sp_ ops U = true)
    (h : runD P O ops U (Q .normal) 0 ops.toList e H [] []) : TW P nb (.region id ops true) Q e H := by
  simp only [Sp_, Bool.and_eq_true] at hB
  obtain ⟨⟨⟨hsel, hA⟩, hS⟩, hT⟩ := hB
  have hTt := Aom_ hT
  obtain ⟨FL, hFL⟩ : ∃ FL, FL = Wy_ ops (ancs ops.toList []) := ⟨_, rfl⟩
  obtain ⟨R, hR⟩ : ∃ R, R = fun k => (rootL ops FL).getD k none := ⟨_, rfl⟩
  rw [← hFL] at hS hTt
  rw [← hR] at hTt
  have hFlt : ∀ i ∈ FL, i < ops.size := fun i hi => by
    rw [hFL] at hi
    simpa using (List.mem_filter.1 hi).1
  obtain ⟨V, W, En, Hp, eE, eH, hQ, T, _, _⟩ := U7_ ops.toList 0 e H [] [] (by simp) h
  simp only [Nat.zero_add, Array.length_toList] at hQ T
  intro H0 μ0 w0 μ a w hn he hr ha
  -- distinct places
  have hdist : DistD ops := fun i j oi oj hi hj hne d hd hjd => by
    rcases Nat.lt_or_gt_of_ne hne with h | h
    · exact (D9_ hS (show j < i by omega) hj hi).1 d hjd hd
    · exact (D9_ hS (show i < j by omega) hi hj).1 d hd hjd
  -- the frames of the text
  have hEn : ∀ i, i ≤ ops.size → EnvIs ops V e (fun j => decide (j < i)) (En i) := by
    intro i
    induction i with
    | zero => intro _; rw [eE]; exact ⟨rfl, fun t ht => ⟨fun i o _ _ hl => by simp at hl, fun _ => rfl⟩⟩
    | succ i ih =>
      intro hi
      obtain ⟨o, ho⟩ : ∃ o, ops[i]? = some o := ⟨ops[i]'(by omega), Array.getElem?_eq_getElem _⟩
      have := (ih (by omega)).put ho (fun j oj hj hne d hd => hdist i j o oj ho hj hne d hd)
      rw [(T.step i o (Nat.zero_le _) (by omega) ho).2.2.2.1]
      refine this.congr fun j _ => ?_
      by_cases hj : j = i
      · subst hj; simp
      · simp [hj]; omega
  -- no guard: it is wanted
  have hWn : ∀ (k : Nat) (o : Oper), ops[k]? = some o → o.guard = none → W k = true := fun k o ho hg => by
    have := (T.step k o (Nat.zero_le _) (Array.getElem?_eq_some_iff.1 ho).1 ho).1
    unfold wantA at this
    rw [hg] at this
    simpa using this.symm
  -- what floats
  obtain ⟨Bf, hBf⟩ : ∃ Bf : Nat → Blk, Bf = fun i => ((Hp (i + 1))[(Hp i).length]?).getD ⟨[], true, 1, true⟩ := ⟨_, rfl⟩
  have hfl : ∀ i ∈ FL, ∃ o, ops[i]? = some o ∧ B4_ o = true ∧ Hp (i + 1) = Hp i ++ [Bf i] ∧ (Bf i).own = true ∧ (∀ c ∈ (Bf i).cells, Cs_ c = true) ∧ ((Bf i).flat = true → ∀ c ∈ (Bf i).cells, c.isFlat = true) ∧
      (V i = .ptr ⟨(Hp i).length, 0, (Bf i).cells.length⟩ ∨ ∃ n, V i = .slc ⟨(Hp i).length, 0, (Bf i).cells.length⟩ n) ∧ ∀ (K : Heap) (O : A0_), opA P O (En i) K o = some (setId K.length (V i), K ++ [Bf i]) := fun i hi => by
    have his := hFlt i hi
    have ho : ops[i]? = some ops[i] := Array.getElem?_eq_getElem his
    have hk := (hTt.self i _ ho (hTt.all i hi his)).1
    obtain ⟨B, k1, k2, k3, k4, k5, k6⟩ := (T.st i _ (Nat.zero_le _) his ho).2 hk (hWn i _ ho (Wl_ hk))
    have hb : Bf i = B := by rw [hBf]; simp only; rw [k1]; simp
    rw [hb]
    exact ⟨_, ho, hk, k1, k2, k3, k4, k5, k6⟩
  have hroot : ∀ k o i, ops[k]? = some o → R k = some i → i ∈ FL ∧ i ≤ k := by
    intro k
    induction k using Nat.strongRecOn with
    | _ k ih =>
      intro o i ho hr
      by_cases hki : k = i
      · subst hki; exact ⟨(hTt.self k o ho hr).2, Nat.le_refl _⟩
      · obtain ⟨h1, h2, s, t, f, h3, j, oj, h4, h5, h6, h7⟩ := hTt.down k o i ho hr hki
        exact ⟨(ih j h4 oj i h5 h7).1, by omega⟩
  have hgetEn : ∀ (k j t : Nat) (oj : Oper), k ≤ ops.size → j < k → ops[j]? = some oj → oj.dst = some t → (t < e.length → (En k)[t]? = some (V j)) ∧ (En k).length = e.length := fun k j t oj hk hjk hj hd =>
    ⟨fun ht => ((hEn k hk).2 t ht).1 j oj hj hd (by simpa using hjk), (hEn k hk).1⟩
  -- a part of a floating variable
  have hpart : ∀ (k : Nat) (o : Oper) (i : Nat), ops[k]? = some o → R k = some i → k ≠ i → ∃ s t f j oj off o' ft n, o.op = .fieldAddr s (.tmp t) f ∧ j < k ∧ ops[j]? = some oj ∧ oj.dst = some t ∧ R j = some i ∧ t < e.length ∧
      V j = .ptr ⟨(Hp i).length, off, (Bf i).cells.length⟩ ∧ B3_ P s f = some (o', ft) ∧ szA P ft = some n ∧ n ≠ 0 ∧ V k = .ptr ⟨(Hp i).length, off + o', (Bf i).cells.length⟩ := by
    intro k
    induction k using Nat.strongRecOn with
    | _ k ih =>
      intro o i ho hr hki
      have hks := (Array.getElem?_eq_some_iff.1 ho).1
      obtain ⟨h1, h2, s, t, f, h3, j, oj, h4, h5, h6, h7⟩ := hTt.down k o i ho hr hki
      have hop := (T.step k o (Nat.zero_le _) hks ho).2.1 (hWn k o ho h2)
      obtain ⟨dst, op, type, pos, after, guard⟩ := o
      simp only at h3; subst h3
      simp only [opA, Option.map_eq_some_iff] at hop
      obtain ⟨z, hz, hz2⟩ := hop
      simp only [Prod.mk.injEq] at hz2
      obtain ⟨rfl, _⟩ := hz2
      obtain ⟨g1, g2⟩ := hgetEn k j t oj (by omega) h4 h5 h6
      have ht : t < e.length := by
        rcases Nat.lt_or_ge t e.length with h | h
        · exact h
        · exfalso
          have : (En k)[t]? = none := List.getElem?_eq_none (by omega)
          simp [evA, this, Ck_] at hz
      have hev : evA (En k) (.tmp t) = V j := by simp [evA, g1 ht]
      rw [hev] at hz
      have hVj : ∃ off, V j = .ptr ⟨(Hp i).length, off, (Bf i).cells.length⟩ := by
        by_cases hji : j = i
        · subst hji
          obtain ⟨_, _, _, _, _, _, _, hv, _⟩ := hfl j (hroot j oj j h5 h7).1
          rcases hv with hv | ⟨n, hv⟩
          · exact ⟨0, hv⟩
          · rw [hv] at hz; simp [Ck_] at hz
        · obtain ⟨_, _, _, _, _, off, o', _, _, _, _, _, _, _, _, _, _, _, _, hv⟩ := ih j h4 oj i h5 h7 hji
          exact ⟨_, hv⟩
      obtain ⟨off, hVj⟩ := hVj
      rw [hVj] at hz
      simp only [Ck_] at hz
      cases hf : B3_ P s f with
      | none => rw [hf] at hz; cases hz
      | some ot =>
        obtain ⟨o', ft⟩ := ot
        rw [hf] at hz
        simp only [Option.bind_some] at hz
        cases hs : szA P ft with
        | none => rw [hs] at hz; cases hz
        | some n =>
          rw [hs] at hz
          simp only [Option.bind_some] at hz
          split at hz
          · cases hz
          · rename_i hn0
            split at hz
            · exact ⟨s, t, f, j, oj, off, o', ft, n, rfl, h4, h5, h6, h7, ht, hVj, hf, hs, hn0, (Option.some.inj hz).symm⟩
            · cases hz
  have tl : ∀ (k : Nat) (ok : Oper), k < ops.size → ops[k]? = some ok → heavy ok = false → Hp (k + 1) = Hp k := fun k ok hk hok => (T.step k ok (Nat.zero_le _) hk hok).2.2.2.2
  have tu : ∀ (k : Nat) (ok : Oper), k < ops.size → ops[k]? = some ok → W k = false → Hp (k + 1) = Hp k := fun k ok hk hok hw => ((T.step k ok (Nat.zero_le _) hk hok).2.2.1 hw).2
  have S : FlS ops V Hp FL R Bf := by
    refine ⟨hdist, tl, hFlt, fun i hi o ho => ?_, fun i hi => ?_, fun i hi => ?_, fun i hi => ?_, fun i hi => ?_, hroot, fun k o i ho hr => ?_⟩
    · obtain ⟨o', h1, h2, _⟩ := hfl i hi
      rw [ho] at h1; cases h1
      exact T1_ h2
    · obtain ⟨_, _, _, h, _⟩ := hfl i hi; exact h
    · obtain ⟨_, _, _, _, h, _⟩ := hfl i hi; exact h
    · obtain ⟨_, _, _, _, _, h, _⟩ := hfl i hi; exact h
    · obtain ⟨_, _, _, _, _, _, h, _⟩ := hfl i hi; exact h
    · by_cases hki : k = i
      · subst hki
        obtain ⟨_, _, _, _, _, _, _, h, _⟩ := hfl k (hroot k o k ho hr).1
        rcases h with h | h
        · exact .inl ⟨0, h⟩
        · exact .inr h
      · obtain ⟨_, _, _, _, _, off, o', _, _, _, _, _, _, _, _, _, _, _, _, hv⟩ := hpart k o i ho hr hki
        exact .inl ⟨_, hv⟩
  have main : ∀ (fuel : Nat) (listed : Array Bool) (a : Act) (w : World) (e1 : Env) (c : Nat) (μ1 : Mem) (β ph : Nat → Nat), listed.size = ops.size →
      (∀ (j : Nat) (o : Oper), ops[j]? = some o → listed.getD j false = true → ∀ i ∈ B9_ o, listed.getD i false = true) →
      Fl ops V Hp FL R Bf e H0 μ0 w0 c (fun j => listed.getD j false) a w e1 μ1 β ph →
      (c < ops.size → ∃ o, ops[c]? = some o ∧ heavy o = true ∧ listed.getD c false = false) → ((List.range ops.size).filter fun j => !listed.getD j false).length ≤ fuel →
      wpAny P .any ops (Conc Q H0 μ0 w0) fuel listed a w := by
    intro fuel
    -- the end
    have fin : ∀ (listed : Array Bool) (a : Act) (w : World) (e1 : Env) (c : Nat) (μ1 : Mem) (β ph : Nat → Nat), Fl ops V Hp FL R Bf e H0 μ0 w0 c (fun j => listed.getD j false) a w e1 μ1 β ph →
        (c < ops.size → ∃ o, ops[c]? = some o ∧ heavy o = true ∧ listed.getD c false = false) → (∀ j, j < ops.size → listed.getD j false = true) → Conc Q H0 μ0 w0 .normal a w := by
      intro listed a w e1 c μ1 β ph F hch hall
      have hcn : c = ops.size := by
        rcases Nat.lt_or_ge c ops.size with h | h
        · obtain ⟨o, ho, hh, hl⟩ := hch h
          rw [hall c h] at hl; cases hl
        · have := F.le; omega
      subst hcn
      have hE : EnvIs ops V e (fun j => listed.getD j false) e1 := F.env.congrV fun k o hk _ => by
        unfold Vp
        have : ¬ pendK R ops.size k = true := fun h => by
          obtain ⟨i, r1, r2⟩ := Bw_.1 h
          have := hFlt i (hroot k o i hk r1).1
          omega
        simp [this]
      have : e1 = En ops.size := hE.same ((hEn _ (Nat.le_refl _)).congr fun j hj => by rw [hall j hj]; simpa using hj)
      subst this
      exact ⟨_, _, μ1, hQ, F.er, F.hr, F.adv⟩
    -- nothing ready: all has come up
    have done : ∀ (listed : Array Bool), listed.size = ops.size → Region.ready .any ops listed = [] → ∀ j, j < ops.size → listed.getD j false = true := by
      intro listed hls hready j
      induction j using Nat.strongRecOn with
      | _ j ih =>
        intro hj
        cases hl : listed.getD j false with
        | true => rfl
        | false =>
          exfalso
          have hmem : j ∈ Region.ready .any ops listed := by
            refine mem_ready.2 ⟨by simpa [hls, hj] using hl, ops[j], Array.getElem?_eq_getElem hj, fun ed hed hb => ?_⟩
            have h1 := List.all_eq_true.1 hA j (by simpa using hj)
            rw [Array.getElem?_eq_getElem hj] at h1
            simp only [Bool.and_eq_true, List.all_eq_true, decide_eq_true_eq] at h1
            have hin : ed.on ∈ B9_ ops[j] := by
              unfold B9_
              refine List.mem_filterMap.2 ⟨ed, by simpa using hed, by rw [if_pos hb]⟩
            have := h1.1 _ hin
            exact ih _ this (by omega)
          rw [hready] at hmem
          cases hmem
    induction fuel with
    | zero =>
      intro listed a w e1 c μ1 β ph hls hcl F hch h0
      have hall : ∀ j, j < ops.size → listed.getD j false = true := fun j hj => by
        have h1 : ((List.range ops.size).filter fun j => !listed.getD j false) = [] := List.eq_nil_of_length_eq_zero (by omega)
        rw [List.filter_eq_nil_iff] at h1
        have := h1 j (by simpa using hj)
        simpa using this
      refine ⟨?_, fin listed a w e1 c μ1 β ph F hch hall⟩
      rw [List.eq_nil_iff_forall_not_mem]
      intro j hj
      obtain ⟨h1, o, h2, _⟩ := mem_ready.1 hj
      have hjs : j < ops.size := (Array.getElem?_eq_some_iff.1 h2).1
      have := hall j hjs
      simp [hls, hjs] at h1 this
      rw [h1] at this; cases this
    | succ fuel ih =>
      intro listed a w e1 c μ1 β ph hls hcl F hch hcount
      refine ⟨fun hready => fin listed a w e1 c μ1 β ph F hch (done listed hls hready), fun i hi => ?_⟩
      obtain ⟨hi1, o, ho, hi3⟩ := mem_ready.1 hi
      have his : i < ops.size := (Array.getElem?_eq_some_iff.1 ho).1
      have hun : listed.getD i false = false := by simpa [hls, his] using hi1
      have hdir : ∀ k ∈ B9_ o, listed.getD k false = true := fun k hk => by
        unfold B9_ at hk
        obtain ⟨ed, hed, hk⟩ := List.mem_filterMap.1 hk
        split at hk
        · rename_i hb; cases hk; exact hi3 ed (by simpa using hed) hb
        · cases hk
      have hanc : ∀ k ∈ (ancs ops.toList []).getD i [], listed.getD k false = true := V3_ hA (L := fun j => listed.getD j false) hcl i o ho hdir
      have hanc' : ∀ (j : Nat) (oj : Oper), ops[j]? = some oj → listed.getD j false = true → ∀ k ∈ (ancs ops.toList []).getD j [], listed.getD k false = true := fun j oj hj hl =>
        V3_ hA (L := fun j => listed.getD j false) hcl j oj hj (hcl j oj hj hl)
      have hEi := hEn i (by omega)
      -- of two places one looks at the other's: the first has come up just where the text stands
      have seen : ∀ (j : Nat) (oj : Oper) (t : Nat), ops[j]? = some oj → oj.dst = some t → t ∈ o.looksAt ops → listed.getD j false = decide (j < i) := fun j oj t hj hd ht => by
        rcases Nat.lt_trichotomy j i with h | h | h
        · rcases (D9_ hS h hj ho).2 with h1 | ⟨h1, _, _⟩
          · rw [hanc j h1]; simp [h]
          · exact absurd ht ((Oper.apart_spec h1).1 t hd)
        · subst h; rw [hun]; simp
        · rcases (D9_ hS h ho hj).2 with h1 | ⟨h1, _, _⟩
          · cases hlj : listed.getD j false with
            | true => have := hanc' j oj hj hlj i h1; rw [hun] at this; cases this
            | false => simp; omega
          · exact absurd ht ((Oper.apart_spec h1).2.2 t hd)
      -- a heavy one ahead of a floating one that has come up, not bound to it
      have cutr : ∀ (r : Nat), r ∈ FL → listed.getD r false = true → c ≤ r → ∃ oc, c < r ∧ ops[c]? = some oc ∧ heavy oc = true ∧ listed.getD c false = false ∧ c ∉ (ancs ops.toList []).getD r [] := fun r hr hl hcr => by
        have hrs := hFlt r hr
        obtain ⟨oc, c1, c2, c3⟩ := hch (by omega)
        refine ⟨oc, ?_, c1, c2, c3, fun h => ?_⟩
        · rcases Nat.lt_or_eq_of_le hcr with h | h
          · exact h
          · subst h; rw [hl] at c3; cases c3
        · have := hanc' r _ (Array.getElem?_eq_getElem hrs) hl c h
          rw [c3] at this; cases this
      -- what the operation looks at is as in the text
      have slot : (R i = none ∨ R i = some i ∨ ∃ r, R i = some r ∧ r < c) → ∀ t, t ∈ o.looksAt ops → e1[t]? = (En i)[t]? := by
        intro hRi t ht
        by_cases htl : t < e.length
        · by_cases hx : ∃ (j : Nat) (oj : Oper), ops[j]? = some oj ∧ oj.dst = some t
          · obtain ⟨j, oj, hj, hd⟩ := hx
            have hl := seen j oj t hj hd ht
            cases hlj : listed.getD j false with
            | true =>
              rw [(F.env.2 t htl).1 j oj hj hd hlj, (hEi.2 t htl).1 j oj hj hd (by show decide (j < i) = true; rw [← hl]; exact hlj)]
              unfold Vp
              have : ¬ pendK R c j = true := fun hp => by
                obtain ⟨r, r1, r2⟩ := Bw_.1 hp
                have hr := (hroot j oj r hj r1).1
                have hlr := F.rt j oj r hj hlj r1
                obtain ⟨oc, c1, c2, c3, c4, c5⟩ := cutr r hr hlr r2
                have plain : (R i = none ∨ R i = some i) → False := fun hp => by
                  rcases hTt.look i o ho hp j oj t r hj hd ht r1 c oc c1 c2 c3 with h | h
                  · exact c5 h
                  · have := hanc c h; rw [c4] at this; cases this
                rcases hRi with h | h | ⟨r', h, hr'⟩
                · exact plain (.inl h)
                · exact plain (.inr h)
                · by_cases hri : i = r'
                  · exact plain (.inr (by rw [hri]; rw [hri] at h; exact h))
                  · obtain ⟨g1, g2, s, u, f, g3, j', oj', g4, g5, g6, g7⟩ := hTt.down i o r' ho h hri
                    have htu : t = u := by
                      simp only [Oper.looksAt, g3, g2, Op.operands] at ht
                      simpa using ht
                    subst htu
                    have hjj : j = j' := by
                      by_cases hjj : j = j'
                      · exact hjj
                      · exact absurd hd (hdist j' j oj' oj g5 hj hjj t g6)
                    subst hjj
                    rw [r1] at g7; cases g7
                    omega
              simp [this]
            | false =>
              have uniq : ∀ (k : Nat) (ok : Oper), ops[k]? = some ok → ok.dst = some t → k = j := fun k ok hk hkd => by
                by_cases hkj : k = j
                · exact hkj
                · exact absurd hkd (hdist j k oj ok hj hk hkj t hd)
              rw [(F.env.2 t htl).2 (fun k ok hk hkd => by rw [uniq k ok hk hkd]; exact hlj), (hEi.2 t htl).2 (fun k ok hk hkd => by show decide (k < i) = false; rw [uniq k ok hk hkd, ← hl]; exact hlj)]
          · have hn : ∀ (j : Nat) (oj : Oper), ops[j]? = some oj → oj.dst ≠ some t := fun j oj hj hd => hx ⟨j, oj, hj, hd⟩
            rw [(F.env.2 t htl).2 (fun j oj hj hd => absurd hd (hn j oj hj)), (hEi.2 t htl).2 (fun j oj hj hd => absurd hd (hn j oj hj))]
        · rw [List.getElem?_eq_none (Nat.le_of_not_lt (by rw [F.env.1]; exact htl)), List.getElem?_eq_none (Nat.le_of_not_lt (by rw [hEi.1]; exact htl))]
      have hopc : (R i = none ∨ R i = some i ∨ ∃ r, R i = some r ∧ r < c) → ∀ K : Heap, opA P (O i) e1 K o = opA P (O i) (En i) K o := fun hRi K => Aqh_ K o (fun cs b => Region.noSelect_spec hsel i o cs b ho) fun x hx => by
        cases x with
        | tmp t =>
          have := slot hRi t (List.mem_append_left _ (List.mem_filterMap.2 ⟨.tmp t, by simpa using hx, rfl⟩))
          simp only [evA, this]
        | _ => rfl
      obtain ⟨t1, t2, t3, t4, t5⟩ := T.step i o (Nat.zero_le _) his ho
      -- a heavy one comes up where the text stands, or floats
      have hcut_i : heavy o = true → c = i ∨ (c < i ∧ i ∈ FL) := fun hh => by
        have h1 : ¬ i < c := fun h => by have := F.low i o ho hh h; rw [hun] at this; cases this
        rcases Nat.lt_or_ge c i with h | h
        · obtain ⟨oc, hoc, hhc, hlc⟩ := hch (by omega)
          rcases (D9_ hS h hoc ho).2 with h2 | ⟨_, h2, _⟩
          · have := hanc c h2; rw [hlc] at this; cases this
          · exact .inr ⟨h, h2 ⟨hhc, hh⟩⟩
        · exact .inl (by omega)
      have hL : ∀ j, (listed.setIfInBounds i true).getD j false = if j = i then true else listed.getD j false := fun j => by
        by_cases hj : j = i
        · subst hj; simp [hls, his]
        · simp only [hj, if_false]; exact getD_set_ne false (Ne.symm hj)
      -- on it goes
      have go : ∀ (q : Nat) (a' : Act) (w' : World) (e2 : Env) (μ2 : Mem) (β' ph' : Nat → Nat), Fl ops V Hp FL R Bf e H0 μ0 w0 q (fun j => if j = i then true else listed.getD j false) a' w' e2 μ2 β' ph' →
          wpAny P .any ops (Conc Q H0 μ0 w0) fuel (listed.setIfInBounds i true) a' w' := by
        intro q a' w' e2 μ2 β' ph' F2
        have F3 : Fl ops V Hp FL R Bf e H0 μ0 w0 q (fun j => (listed.setIfInBounds i true).getD j false) a' w' e2 μ2 β' ph' := by
          have : (fun j => (listed.setIfInBounds i true).getD j false) = fun j => if j = i then true else listed.getD j false := funext hL
          rw [this]; exact F2
        obtain ⟨c', e3, μ3, F4, h4⟩ := F3.advance S _ _ _ _ rfl
        refine ih (listed.setIfInBounds i true) a' w' e3 c' μ3 β' ph' (by simpa using hls) (fun j oj hj hl k hk => ?_) F4 h4 ?_
        · rw [hL] at hl ⊢
          by_cases hki : k = i
          · simp [hki]
          · simp only [hki, if_false]
            by_cases hji : j = i
            · subst hji; rw [ho] at hj; cases hj; exact hdir k hk
            · simp only [hji, if_false] at hl; exact hcl j oj hj hl k hk
        · have := Vi_ (p := fun j => !listed.getD j false) (q := fun j => !(listed.setIfInBounds i true).getD j false) (fun x hx => by
            rw [hL] at hx
            split at hx
            · simp at hx
            · exact hx) (i := i) (by rw [hun]; rfl) (by rw [hL]; simp) (List.range ops.size) (by simpa using his)
          omega
      -- the plain step
      have next : (∀ r, R i = some r → r < c ∨ r = i ∧ c = i) → ∀ (v : Value) (w' : World) (Hx : Heap) (μ' : Mem), (heavy o = false → Hx = Hp c) → (heavy o = true → c = i ∧ Hx = Hp (i + 1)) → VR Hx μ' (V i) v → HR Hx μ' w' → Adv (Hp c) μ1 w Hx μ' w' → Bs_ (Hp c) Hx →
          wpAny P .any ops (Conc Q H0 μ0 w0) fuel (listed.setIfInBounds i true) (a.put o.dst v) w' := by
        intro hRi v w' Hx μ' hx1 hx2 hv hr' ha' hst
        have hrt : ∀ r, R i = some r → r ≠ i → listed.getD r false = true := fun r hr hne => by
          have h1 := hroot i o r ho hr
          have h2 := S.hv r h1.1 _ (Array.getElem?_eq_getElem (hFlt r h1.1))
          rcases hRi r hr with h | ⟨h, _⟩
          · exact F.low r _ (Array.getElem?_eq_getElem (hFlt r h1.1)) h2 h
          · exact absurd h hne
        cases hh : heavy o with
        | false =>
          have := hx1 hh
          subst this
          have hnp : ¬ pendK R c i = true := fun h => by
            obtain ⟨r, r1, r2⟩ := Bw_.1 h
            rcases hRi r r1 with h | ⟨h, _⟩
            · omega
            · subst h
              have := S.hv r (hroot r o r ho r1).1 o ho
              rw [hh] at this; cases this
          have F2 := F.put S ho hun (Nat.le_refl _) F.le (v := v) (by simp only [Vp, hnp]; exact hv) hr' ha' hst (β' := β) (ph' := ph) (fun j _ => ⟨rfl, rfl⟩) (fun j oj _ _ hj => .inr hj) (fun h => by rw [hh] at h; cases h) (fun j _ _ h => h) hrt
            (fun hi _ => by have := S.hv i hi o ho; rw [hh] at this; cases this) (fun r hr hcr => absurd (Bw_.2 ⟨r, hr, hcr⟩) hnp)
          exact go _ _ _ _ _ _ _ F2
        | true =>
          obtain ⟨hci, hx⟩ := hx2 hh
          subst hci
          subst hx
          have hnp : ¬ pendK R (c + 1) c = true := fun h => by
            obtain ⟨r, r1, r2⟩ := Bw_.1 h
            have := (hroot c o r ho r1).2
            omega
          have F2 := F.put S ho hun (Nat.le_succ _) his (v := v) (by simp only [Vp, hnp]; exact hv) hr' ha' hst (β' := β) (ph' := ph) (fun j _ => ⟨rfl, rfl⟩) (fun j oj _ _ hj => by omega) (fun _ => .inl (by omega))
            (fun j _ hl hj => by
              rcases Nat.lt_or_eq_of_le hj with h | h
              · exact h
              · subst h; rw [hun] at hl; cases hl) hrt
            (fun _ h => by omega) (fun r hr hcr => absurd (Bw_.2 ⟨r, hr, hcr⟩) hnp)
          exact go _ _ _ _ _ _ _ F2
      unfold wpOp
      rw [ho]
      simp only
      -- a part of a floating variable that is not in the text yet
      by_cases hpend : ∃ r, R i = some r ∧ c ≤ r ∧ r ≠ i
      · obtain ⟨r, r1, r2, r3⟩ := hpend
        obtain ⟨hrFL, hri⟩ := hroot i o r ho r1
        obtain ⟨s, t, f, j, oj, off, o', ft, n, p1, p2, p3, p4, p5, p6, p7, p8, p9, p10, p11⟩ := hpart i o r ho r1 (fun e => r3 e.symm)
        obtain ⟨_, g2, s', t', f', g3, _⟩ := hTt.down i o r ho r1 (fun e => r3 e.symm)
        have hlook : t ∈ o.looksAt ops := by simp [Oper.looksAt, p1, Op.operands]
        have hlj : listed.getD j false = true := by rw [seen j oj t p3 p4 hlook]; simpa using p2
        have hlr : listed.getD r false = true := F.rt j oj r p3 hlj p5
        have hwt : Region.wanted o (yielded ops a.tmps) = true := by unfold Region.wanted; rw [g2]
        rw [if_pos hwt]
        refine .inl ?_
        -- the place in the world
        obtain ⟨b1, b2, b3, cs, et, fr, b4, bf, b5, b6, b7⟩ := F.blk r hrFL hlr r2
        have hvj : ∃ vj, a.tmps[t]? = some vj := ⟨_, Array.getElem?_eq_getElem (by have := F.er.2.1; rw [← this, F.env.1]; exact p6)⟩
        obtain ⟨vj, hvj⟩ := hvj
        have hld := F.tmp j oj t r vj p3 p4 hlj p5 r2 hvj
        have hvj2 : vj = .pointer (some ⟨β r, 0 + off, none⟩) := by
          have := hld (List.replicate (Hp r).length ⟨[], true, 1, true⟩ ++ [Bf r]) ⟨fun _ => β r, fun _ => 0, fun _ => ph r⟩ (by simp) rfl rfl rfl
          rw [p7] at this
          exact this.ptr_inv (B := Bf r) (by simp) rfl
        subst hvj2
        have hev : a.eval (.tmp t) = .pointer (some ⟨β r, off, none⟩) := by simp [Act.eval, hvj]
        have hrun := Adc_ (P := P) (s := s) (f := f) w p8 p9 p10 (β r) off
        unfold Oper.wp
        rw [show execOp a.eval o = next1 (Instr.fieldAt s (a.eval (.tmp t)) f) from by unfold execOp; rw [p1]; rfl, hev, Tl_ hrun]
        have hnh : heavy o = false := by unfold heavy; rw [p1]
        have hpk : pendK R c i = true := Bw_.2 ⟨r, r1, r2⟩
        have F2 := F.put S ho hun (Nat.le_refl _) F.le (v := .pointer (some ⟨β r, off + o', none⟩)) (by simp only [Vp, hpk, if_true]; exact .top _) F.hr (Adv.refl _ _ _) (Bs_.refl _) (β' := β) (ph' := ph) (fun j _ => ⟨rfl, rfl⟩) (fun j oj _ _ hj => .inr hj)
          (fun h => by rw [hnh] at h; cases h) (fun j _ _ h => h) (fun r' hr' _ => by rw [r1] at hr'; cases hr'; exact hlr)
          (fun hi _ => by have := S.hv i hi o ho; rw [hnh] at this; cases this)
          (fun r' hr' _ K ν k1 k2 k3 k4 => by
            rw [r1] at hr'; cases hr'
            rw [p11]
            exact .ptr _ _ (Bf r) k1 (Nat.le_refl _) fun _ => by simp only [k2, k3, Nat.zero_add])
        exact go _ _ _ _ _ _ _ F2
      · have hRi : ∀ r, R i = some r → r < c ∨ r = i := fun r hr => by
          rcases Nat.lt_or_ge r c with h | h
          · exact .inl h
          · refine .inr ?_
            by_cases hri : r = i
            · exact hri
            · exact absurd ⟨r, hr, h, hri⟩ hpend
        have hRi' : R i = none ∨ R i = some i ∨ ∃ r, R i = some r ∧ r < c := by
          cases hr : R i with
          | none => exact .inl rfl
          | some r =>
            rcases hRi r hr with h | h
            · exact .inr (.inr ⟨r, rfl, h⟩)
            · exact .inr (.inl (by rw [h]))
        have hwant : wantA ops e1 o = wantA ops (En i) o := Amk_ fun g wn d hg hd => slot hRi' d (by
          unfold Oper.looksAt
          rw [hg]
          exact List.mem_append_right _ (by simp [hd]))
        have hRn : (heavy o = true → c = i) → ∀ r, R i = some r → r < c ∨ r = i ∧ c = i := fun hc r hr => by
          rcases hRi r hr with h | h
          · exact .inl h
          · subst h; exact .inr ⟨rfl, hc (S.hv r (hroot r o r ho hr).1 o ho)⟩
        cases hw : W i with
        | false =>
          rw [if_neg (by rw [Nw_ F.er (hwant.trans t1), hw]; simp)]
          obtain ⟨v1, v2⟩ := t3 hw
          have hnf : i ∉ FL := fun hi => by
            obtain ⟨oi, h1, h2, _⟩ := hfl i hi
            rw [ho] at h1; cases h1
            have := hWn i o ho (Wl_ h2)
            rw [hw] at this; cases this
          have hc : heavy o = true → c = i := fun hh => by
            rcases hcut_i hh with h | h
            · exact h
            · exact absurd h.2 hnf
          exact next (hRn hc) undef w (Hp c) μ1 (fun _ => rfl) (fun hh => ⟨hc hh, by rw [hc hh, v2]⟩) (by rw [v1]; exact .undef) F.hr (Adv.refl _ _ _) (Bs_.refl _)
        | true =>
          rw [if_pos (by rw [Nw_ F.er (hwant.trans t1), hw])]
          refine .inl ?_
          cases hh : heavy o with
          | true =>
            rcases hcut_i hh with hci | ⟨hci, hiF⟩
            · subst hci
              exact K6_ (hO c) (by rw [hopc hRi']; exact t2 hw) F.hr F.er fun v w' μ' hv hr' ha' => next (hRn fun _ => rfl) v w' _ μ' (fun h => by rw [hh] at h; cases h) (fun _ => ⟨rfl, rfl⟩) hv hr' ha' (T.st c o (Nat.zero_le _) his ho).1
            · -- it comes up early
              obtain ⟨oi, f1, f2, f3, f4, f5, f6, f7, f8⟩ := hfl i hiF
              rw [ho] at f1; cases f1
              refine K6_ (hO i) (by rw [hopc hRi']; exact f8 (Hp c) (O i)) F.hr F.er fun v w' μ' hv hr' ha' => ?_
              obtain ⟨n, hnl⟩ : ∃ n, n = (Hp c).length := ⟨_, rfl⟩
              have hgn : (Hp c ++ [Bf i])[(Hp c).length]? = some (Bf i) := by simp
              obtain ⟨cs, et, fr, q1, q2, q3, q4, q5⟩ := hr'.cells _ _ hgn
              obtain ⟨q6, q7⟩ := q5 f4
              have hdrop := WkH.drop (nb := (Hp c).length) (G := [Bf i]) (Nat.le_refl _) F.hr.ws
              have hr2 : HR (Hp c) μ' w' := HR.wk hdrop hr'
              have ha2 : Adv (Hp c) μ1 w (Hp c) μ' w' := Adv.wk (Nat.le_refl _) hdrop ha'
              have hsame : ∀ (id : Nat) (B' : Blk), (Hp c)[id]? = some B' → μ'.blk id = μ1.blk id := fun id B' hB => by
                obtain ⟨B1, k1, k2, k3, k4, k5⟩ := ha2.evo id B' hB
                rw [hB] at k1; cases k1
                exact (k5 rfl).1
              have hfresh : w.heap.size ≤ μ'.blk (Hp c).length := by
                rcases ha'.own _ _ hgn f4 with h | ⟨id0, B0, k1, k2, k3⟩
                · exact h
                · exfalso
                  have hlt := (List.getElem?_eq_some_iff.1 k1).1
                  exact hr'.apart id0 (Hp c).length B0 (Bf i) (by rw [List.getElem?_append_left hlt]; exact k1) hgn k2 (by omega) (by rw [hsame id0 B0 k1, k3])
              have hRii := hTt.all i hiF his
              have hpk : pendK R c i = true := Bw_.2 ⟨i, hRii, by omega⟩
              have F2 := F.put S ho hun (Nat.le_refl _) F.le (v := v) (by simp only [Vp, hpk, if_true]; exact .top _) hr2 ha2 (Bs_.refl _) (β' := fun j => if j = i then μ'.blk (Hp c).length else β j) (ph' := fun j => if j = i then μ'.phys (Hp c).length else ph j)
                (fun j hj => by simp [hj]) (fun j oj _ _ hj => .inr hj) (fun _ => .inr hiF) (fun j _ _ h => h) (fun r hr hne => by rw [hRii] at hr; cases hr; exact absurd rfl hne)
                (fun _ _ => by
                  simp only [if_true]
                  refine ⟨⟨?_, Nat.le_trans F.adv.size hfresh, fun id B' hB => ?_, cs, et, fr, q1, q7, ?_, q3, fun m c' hc' => ?_⟩, hfresh⟩
                  · rcases Nat.lt_or_ge (μ'.blk (Hp c).length) w'.heap.size with h | h
                    · exact h
                    · rw [Array.getElem?_eq_none h] at q1; cases q1
                  · rw [hsame id B' hB]
                    have := F.hr.lt hB
                    omega
                  · rw [q2, q6, Nat.zero_add]
                  · obtain ⟨u, u1, u2⟩ := q4 m c' hc'
                    rw [q6, Nat.zero_add] at u1
                    exact ⟨u, u1, Aqc_ (f5 c' (List.mem_of_getElem? hc')) u2⟩)
                (fun r hr _ K ν k1 k2 k3 k4 => by
                  rw [hRii] at hr; cases hr
                  simp only [if_true] at k2 k4
                  rcases f7 with f7 | ⟨m, f7⟩
                  · rw [f7] at hv ⊢
                    simp only [setId] at hv
                    have := hv.ptr_inv hgn rfl
                    subst this
                    exact .ptr _ _ (Bf i) k1 (Nat.le_refl _) fun _ => by simp only [k2, k3, q6]
                  · rw [f7] at hv ⊢
                    simp only [setId] at hv
                    refine .slc _ _ _ (Bf i) k1 (Nat.le_refl _) fun _ => ?_
                    have := hv.slc_inv hgn rfl
                    unfold SlcOk at this ⊢
                    simp only [k2, k3, k4, q6] at this ⊢
                    exact this)
              exact go _ _ _ _ _ _ _ F2
          | false =>
            have hop : opA P (O i) (En i) (Hp c) o = some (V i, Hp c) := by
              rcases Nat.lt_or_ge i c with h | h
              · rcases Ajm_ tl tu i (fun o' ho' => by rw [ho] at ho'; cases ho'; exact hh) c h F.le with ⟨j, oj, j1, j2, j3, j4, j5, j6⟩ | h1
                · rw [j6]
                  have hlj := F.low j oj j3 j4 j2
                  rcases (D9_ hS j1 ho j3).2 with h2 | ⟨_, _, h2⟩
                  · have := hanc' j oj j3 hlj i h2; rw [hun] at this; cases this
                  · exact T.s4 i j o oj (Nat.zero_le _) j1 (by have := F.le; omega) ho j3 hh j4 hw j5 (h2 (.inr j4))
                · rw [h1]
                  have := t2 hw
                  rw [t5 hh] at this
                  exact this
              · obtain ⟨oc, hoc, hhc, hlc⟩ := hch (by omega)
                have hne : c ≠ i := fun e => by subst e; rw [ho] at hoc; cases hoc; rw [hh] at hhc; cases hhc
                rcases (D9_ hS (show c < i by omega) hoc ho).2 with h2 | ⟨_, _, h2⟩
                · have := hanc c h2; rw [hlc] at this; cases this
                · exact T.s3 c i oc o (Nat.zero_le _) (by omega) his hoc ho hhc hh hw (h2 (.inl hhc))
            exact K6_ (hO i) (by rw [hopc hRi']; exact hop) F.hr F.er fun v w' μ' hv hr' ha' => next (hRn fun h => by rw [hh] at h; cases h) v w' _ μ' (fun _ => rfl) (fun h => by rw [hh] at h; cases h) hv hr' ha' (Bs_.refl _)
  -- the beginning
  refine wp_region_any hm ?_
  have hget : ∀ j, (Array.replicate ops.size false).getD j false = false := fun j => by
    by_cases h : j < ops.size <;> simp [Array.getElem?_replicate, h]
  have no : ∀ j, (Array.replicate ops.size false).getD j false = true → False := fun j h => by rw [hget] at h; cases h
  have hE0 : ∀ V', EnvIs ops V' e (fun j => (Array.replicate ops.size false).getD j false) e := fun V' => ⟨rfl, fun t _ => ⟨fun i o _ _ hl => (by simp only [hget] at hl; exact absurd hl (by simp)), fun _ => rfl⟩⟩
  obtain ⟨hr', ha'⟩ := hr.same (w' := { w with drawn := w.drawn + 1 }) rfl rfl rfl rfl
  have F0 : Fl ops V Hp FL R Bf e H0 μ0 w0 0 (fun j => (Array.replicate ops.size false).getD j false) a { w with drawn := w.drawn + 1 } e μ (fun _ => 0) (fun _ => 0) := by
    refine ⟨hE0 _, Nat.zero_le _, fun j o _ _ h => absurd h (Nat.not_lt_zero _), fun j o _ _ hl => (no j hl).elim, by rw [eH]; exact he, by rw [eH]; exact hr', by rw [eH]; exact ha.trans ha', fun k o i _ hl => (no k hl).elim,
      fun i _ hl => (no i hl).elim, fun i _ j _ hl => (no i hl).elim, fun k o d i v _ _ hl => (no k hl).elim⟩
  obtain ⟨c, e2, μ2, F1, h1⟩ := F0.advance S _ _ _ _ rfl
  exact main ops.size (Array.replicate ops.size false) a _ e2 c μ2 _ _ (by simp) (fun j o _ hl => by rw [hget] at hl; cases hl) F1 h1 (Nat.le_trans (List.length_filter_le _ _) (by simp))
end
end Go.Proofs.Ytmgpbchacndndaa.AM
