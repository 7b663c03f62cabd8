import Derived.Test.YtmgpbchacndndaaB4
set_option linter.unusedSimpArgs false
set_option linter.unusedVariables false
namespace Go.Proofs.Ytmgpbchacndndaa.AM
def heavy (o : Oper) : Bool :=
  match o.op with
  | .alloc _ | .box .. | .buildSlice .. | .store .. | .makeSlice .. => true
  | .call { callee := .builtin b, .. } => (match b with | .append | .clear | .copy => true | _ => false)
  | .call _ => true
  | .convert _ d _ => d == Ge_
  | _ => false
def B9_ (o : Oper) : List Nat := o.after.toList.filterMap fun e => if Region.binds .any e then some e.on else none
def ancs : List Oper → List (List Nat) → List (List Nat)
  | [], A => A
  | o :: rest, A => ancs rest (A ++ [((B9_ o) ++ (B9_ o).flatMap fun k => A.getD k []).eraseDups])
def ancOk (ops : Array Oper) (A : List (List Nat)) : Bool :=
  (List.range ops.size).all fun j => match ops[j]? with
    | some o => (B9_ o).all (· < j) && (A.getD j []).all fun i => (B9_ o).contains i || (B9_ o).any fun k => (A.getD k []).contains i
    | none => true
def nestT (t : TypeId) : Bool := [47].any (Nat.beq t)
def B4_ (o : Oper) : Bool :=
  match o.op with
  | .alloc _ => o.guard.isNone && o.dst.isSome
  | .buildSlice t _ _ => !nestT t && (o.guard.isNone && o.dst.isSome)
  | _ => false
theorem T1_ {o : Oper} (h : B4_ o = true) : heavy o = true := by
  obtain ⟨dst, op, type, pos, after, guard⟩ := o
  cases op <;> simp [B4_] at h <;> rfl
theorem Wl_ {o : Oper} (h : B4_ o = true) : o.guard = none := by
  obtain ⟨dst, op, type, pos, after, guard⟩ := o
  cases op <;> simp [B4_] at h <;> first | exact h.1 | exact h.2.1
def Wy_ (ops : Array Oper) (A : List (List Nat)) : List Nat :=
  (List.range ops.size).filter fun j => match ops[j]? with
    | some oj => B4_ oj && (List.range j).any fun i => (match ops[i]? with | some oi => heavy oi | none => false) && !(A.getD j []).contains i
    | none => false
def Ajc_ (m : List (Nat × Nat)) (o : Oper) : Option Nat :=
  match o.op with
  | .fieldAddr _ (.tmp t) _ => if o.guard.isNone = true then (m.find? fun q => q.1 == t).map (·.2) else none
  | _ => none
def roots (FL : List Nat) : Nat → List Oper → List (Nat × Nat) → List (Option Nat)
  | _, [], _ => []
  | k, o :: rest, m =>
    let r := if FL.contains k = true then some k else Ajc_ m o
    r :: roots FL (k + 1) rest (match o.dst, r with | some d, some i => (d, i) :: m | _, _ => m)
def rootL (ops : Array Oper) (FL : List Nat) : List (Option Nat) := match FL with | [] => [] | _ => roots FL 0 ops.toList []
def Wt_ (ops : Array Oper) (A : List (List Nat)) (FL : List Nat) (R : List (Option Nat)) : Bool :=
  (List.range ops.size).all fun k => match ops[k]? with
    | some o =>
      let plain := (List.range ops.size).all fun j => match ops[j]?, R.getD j none with
        | some oj, some r => (match oj.dst with
          | some d => !(o.looksAt ops).contains d || (List.range r).all fun h => (match ops[h]? with | some oh => !heavy oh | none => true) || (A.getD r []).contains h || (A.getD k []).contains h
          | none => true)
        | _, _ => true
      (match R.getD k none with
      | some i => if i = k then B4_ o && FL.contains k && plain else
        decide (i < k) && !FL.contains k && (match o.op with
        | .fieldAddr _ (.tmp t) _ => o.guard.isNone && (List.range k).any fun j => (match ops[j]? with | some oj => oj.dst == some t | none => false) && R.getD j none == some i
        | _ => false)
      | none => !FL.contains k && plain)
    | none => true
def Tu_ (ops : Array Oper) (A : List (List Nat)) (U : List (Nat × Nat)) (FL : List Nat) : Bool :=
  (List.range ops.size).all fun j => (List.range j).all fun i => match ops[i]?, ops[j]? with
    | some oi, some oj =>
      (oi.dst.isNone || oi.dst != oj.dst) &&
      ((A.getD j []).contains i ||
        (oi.apart ops oj && (!(heavy oi && heavy oj) || FL.contains j) && (!(heavy oi || heavy oj) || U.contains (i, j))))
    | _, _ => true
def Sp_ (ops : Array Oper) (U : List (Nat × Nat)) : Bool :=
  let A := ancs ops.toList []
  let FL := Wy_ ops A
  Region.noSelect ops && ancOk ops A && Tu_ ops A U FL && (match FL with | [] => true | _ => Wt_ ops A FL (rootL ops FL))
def Cs_ : AV → Bool
  | .top => true
  | v => v.isFlat
def setId (n : Nat) : AV → AV
  | .ptr r => .ptr ⟨n, r.off, r.ver⟩
  | .slc r m => .slc ⟨n, r.off, r.ver⟩ m
  | v => v
def Jd_ (P : Program) (env : Env) (H : Heap) (o : Oper) (x : AV) (H' : Heap) : Prop :=
  ∃ B : Blk, H' = H ++ [B] ∧ B.own = true ∧ (∀ c ∈ B.cells, Cs_ c = true) ∧ (B.flat = true → ∀ c ∈ B.cells, c.isFlat = true) ∧
    (x = .ptr ⟨H.length, 0, B.cells.length⟩ ∨ ∃ n, x = .slc ⟨H.length, 0, B.cells.length⟩ n) ∧ ∀ (K : Heap) (O : A0_), opA P O env K o = some (setId K.length x, K ++ [B])
def Bs_ (H H' : Heap) : Prop := ∀ (j : Nat) (B : Blk), H'[j]? = some B → B.own = true ∨ H[j]? = some B
theorem Bs_.refl (H : Heap) : Bs_ H H := fun _ _ h => .inr h
def runD (P : Program) (O : Nat → A0_) (ops : Array Oper) (U : List (Nat × Nat)) (Q : Env → Heap → Prop) : Nat → List Oper → Env → Heap → List (Nat × Heap) → List (Nat × Env × Oper × AV) → Prop
  | _, [], env, H, _, _ => Q env H
  | i, o :: rest, env, H, past, pend =>
    match wantA ops env o with
    | some true =>
      match opA P (O i) env H o with
      | some (x, H') =>
        if heavy o = true then
          (∀ p ∈ pend, (p.1, i) ∈ U → ∀ O', opA P O' p.2.1 H' p.2.2.1 = some (p.2.2.2, H')) ∧ (Bs_ H H' ∧ (B4_ o = true → Jd_ P env H o x H')) ∧ runD P O ops U Q (i + 1) rest (putA env o.dst x) H' (if (U.any fun q => q.1 == i) = true then past ++ [(i, H)] else past) pend
        else
          (∀ p ∈ past, (p.1, i) ∈ U → opA P (O i) env p.2 o = some (x, p.2)) ∧ runD P O ops U Q (i + 1) rest (putA env o.dst x) H past (if (U.any fun q => q.1 == i) = true then pend ++ [(i, env, o, x)] else pend)
      | none => False
    | some false => runD P O ops U Q (i + 1) rest (putA env o.dst .undef) H (if heavy o = true then (if (U.any fun q => q.1 == i) = true then past ++ [(i, H)] else past) else past) pend
    | none => False
theorem Xd_ {U : List (Nat × Nat)} {i k : Nat} (h : (i, k) ∈ U) : (U.any fun q => q.1 == i) = true := List.any_eq_true.2 ⟨_, h, by simp⟩
theorem Ss_ {P : Program} {O : A0_} {env : Env} {H H' : Heap} {o : Oper} {x : AV} (hl : heavy o = false) (h : opA P O env H o = some (x, H')) : H' = H := by
  obtain ⟨dst, op, type, pos, after, guard⟩ := o
  cases op <;> simp [heavy] at hl <;> simp only [opA, reduceCtorEq, Option.some.injEq, Prod.mk.injEq, Option.map_eq_some_iff] at h
  case move => exact h.2.symm
  case assign => exact h.2.symm
  case pick => split at h <;> simp at h; exact h.2.symm
  case build => obtain ⟨_, _, h⟩ := h; exact h.2.symm
  case load => obtain ⟨_, _, h⟩ := h; exact h.2.symm
  case nilCheck => split at h <;> simp at h <;> first | exact h.2.2.symm | exact h.2.symm
  case binOp => obtain ⟨_, _, h⟩ := h; exact h.2.symm
  case unOp => obtain ⟨_, _, h⟩ := h; exact h.2.symm
  case convert =>
    unfold convH at h
    rw [if_neg (by simpa [heavy] using hl)] at h
    split at h <;> (obtain ⟨_, _, h⟩ := Option.map_eq_some_iff.1 h; cases h; rfl)
  case makeFunc fn _ _ => cases fn <;> simp at h; exact h.2.2.symm
  case slice mx =>
    cases mx with
    | none => simp at h; obtain ⟨_, _, h⟩ := h; exact h.2.symm
    | some m => simp at h; first | exact h.2.2.symm | (obtain ⟨_, h⟩ := h; exact h.2.symm) | (obtain ⟨_, _, h⟩ := h; exact h.2.symm)
  case fieldAddr => obtain ⟨_, _, h⟩ := h; exact h.2.symm
  case field => obtain ⟨_, _, h⟩ := h; exact h.2.symm
  case indexAddr => obtain ⟨_, _, h⟩ := h; exact h.2.symm
  case index => obtain ⟨_, _, h⟩ := h; exact h.2.symm
  case extract => split at h <;> simp at h; obtain ⟨_, _, h⟩ := h; exact h.2.symm
  case call c =>
    obtain ⟨callee, args, argTypes⟩ := c
    cases callee <;> simp at hl
    rename_i b
    simp only [callA, Ap_] at h
    split at h
    · split at h <;> simp at h <;> first | exact h.2.symm | exact h.2.2.symm
    · simp at hl
    · simp at hl
    · simp at hl
    · simp at h; obtain ⟨_, _, h⟩ := h; exact h.2.symm
    · simp at h; obtain ⟨_, _, h⟩ := h; exact h.2.symm
    · cases h
set_option maxHeartbeats 1000000 in
theorem Aqh_ {P : Program} {O : A0_} {env env' : Env} (H : Heap) (o : Oper) (hsel : ∀ cs b, o.op ≠ .select cs b) (h : ∀ x ∈ o.op.operands, evA env x = evA env' x) : opA P O env H o = opA P O env' H o := by
  obtain ⟨dst, op, type, pos, after, guard⟩ := o
  have pairs : ∀ ps : Array (Nat × Operand), (∀ x ∈ ps.toList.map (·.2), evA env x = evA env' x) → (ps.toList.map fun (i, x) => (i, evA env x)) = ps.toList.map fun (i, x) => (i, evA env' x) := fun ps hp =>
    List.map_congr_left fun p hm => by
      obtain ⟨i, x⟩ := p
      simp only [hp x (List.mem_map.2 ⟨(i, x), hm, rfl⟩)]
  have lists : ∀ xs : Array Operand, (∀ x ∈ xs, evA env x = evA env' x) → xs.toList.map (evA env) = xs.toList.map (evA env') := fun xs hx =>
    List.map_congr_left fun x hm => hx x (by simpa using hm)
  cases op <;> simp only [Op.operands] at h <;> simp only [opA]
  case build t ps => rw [pairs ps fun x hx => h x (by simpa using hx)]
  case buildSlice t n ps => rw [pairs ps fun x hx => h x (by simpa using hx)]
  case makeFunc fn first cap =>
    cases fn <;> first | rfl | simp only [lists cap fun x hx => h x (by simp [hx])]
  case call c =>
    obtain ⟨callee, args, argTypes⟩ := c
    unfold callA
    have ha := lists args fun x hx => h x (by simp [Call.operands, hx])
    simp only [ha]
    cases callee with
    | value f => simp only [h f (by simp [Call.operands])]
    | _ => rfl
  case slice t x lo hi mx => cases lo <;> cases hi <;> cases mx <;> simp_all
  all_goals (first | rfl | (simp_all; done))
structure Trace (P : Program) (O : Nat → A0_) (ops : Array Oper) (U : List (Nat × Nat)) (i n : Nat) (V : Nat → AV) (W : Nat → Bool) (En : Nat → Env) (Hp : Nat → Heap) : Prop where
  step : ∀ (k : Nat) (o : Oper), i ≤ k → k < n → ops[k]? = some o → wantA ops (En k) o = some (W k) ∧ (W k = true → opA P (O k) (En k) (Hp k) o = some (V k, Hp (k + 1))) ∧ (W k = false → V k = .undef ∧ Hp (k + 1) = Hp k) ∧
    En (k + 1) = putA (En k) o.dst (V k) ∧ (heavy o = false → Hp (k + 1) = Hp k)
  s3 : ∀ (j k : Nat) (oj ok : Oper), i ≤ j → j < k → k < n → ops[j]? = some oj → ops[k]? = some ok → heavy oj = true → heavy ok = false → W k = true → (j, k) ∈ U → opA P (O k) (En k) (Hp j) ok = some (V k, Hp j)
  s4 : ∀ (j k : Nat) (oj ok : Oper), i ≤ j → j < k → k < n → ops[j]? = some oj → ops[k]? = some ok → heavy oj = false → heavy ok = true → W j = true → W k = true → (j, k) ∈ U → opA P (O j) (En j) (Hp (k + 1)) oj = some (V j, Hp (k + 1))
  st : ∀ (k : Nat) (o : Oper), i ≤ k → k < n → ops[k]? = some o → Bs_ (Hp k) (Hp (k + 1)) ∧ (B4_ o = true → W k = true → Jd_ P (En k) (Hp k) o (V k) (Hp (k + 1)))
theorem U7_ {P : Program} {O : Nat → A0_} {ops : Array Oper} {U : List (Nat × Nat)} {Q : Env → Heap → Prop} : ∀ (l : List Oper) (i : Nat) (env : Env) (H : Heap) (past : List (Nat × Heap)) (pend : List (Nat × Env × Oper × AV)),
    (∀ j, l[j]? = ops[i + j]?) → runD P O ops U Q i l env H past pend →
    ∃ V W En Hp, En i = env ∧ Hp i = H ∧ Q (En (i + l.length)) (Hp (i + l.length)) ∧ Trace P O ops U i (i + l.length) V W En Hp ∧
      (∀ (k : Nat) (o : Oper), i ≤ k → k < i + l.length → ops[k]? = some o → heavy o = false → W k = true → ∀ p ∈ past, (p.1, k) ∈ U → opA P (O k) (En k) p.2 o = some (V k, p.2)) ∧
      (∀ (k : Nat) (o : Oper), i ≤ k → k < i + l.length → ops[k]? = some o → heavy o = true → W k = true → ∀ p ∈ pend, (p.1, k) ∈ U → opA P (O p.1) p.2.1 (Hp (k + 1)) p.2.2.1 = some (p.2.2.2, Hp (k + 1)))
  | [], i, env, H, past, pend, _, h => by
    refine ⟨fun _ => .top, fun _ => false, fun _ => env, fun _ => H, rfl, rfl, h, ⟨fun k o h1 h2 => ?_, fun j k oj ok h1 h2 h3 => ?_, fun j k oj ok h1 h2 h3 => ?_, fun k o h1 h2 => ?_⟩, fun k o h1 h2 => ?_, fun k o h1 h2 => ?_⟩ <;> (simp at * <;> omega)
  | o :: rest, i, env, H, past, pend, hl, h => by
    have h0 : ops[i]? = some o := by have := hl 0; simpa using this.symm
    have hl' : ∀ j, rest[j]? = ops[i + 1 + j]? := fun j => by have := hl (j + 1); simpa [Nat.add_assoc, Nat.add_comm 1 j] using this
    have hlen : i + (o :: rest).length = i + 1 + rest.length := by simp; omega
    rw [hlen]
    -- one step, whatever it is
    have mk : ∀ (b : Bool) (x : AV) (H' : Heap) (past' : List (Nat × Heap)) (pend' : List (Nat × Env × Oper × AV)), wantA ops env o = some b → (b = true → opA P (O i) env H o = some (x, H')) → (b = false → x = .undef ∧ H' = H) → (heavy o = false → H' = H) →
        runD P O ops U Q (i + 1) rest (putA env o.dst x) H' past' pend' →
        (∀ p ∈ past, p ∈ past') → (heavy o = true → (U.any fun q => q.1 == i) = true → (i, H) ∈ past') → (∀ p ∈ pend, p ∈ pend') → (heavy o = false → b = true → (U.any fun q => q.1 == i) = true → (i, env, o, x) ∈ pend') →
        (heavy o = false → b = true → ∀ p ∈ past, (p.1, i) ∈ U → opA P (O i) env p.2 o = some (x, p.2)) → (heavy o = true → b = true → ∀ p ∈ pend, (p.1, i) ∈ U → opA P (O p.1) p.2.1 H' p.2.2.1 = some (p.2.2.2, H')) → (Bs_ H H' ∧ (B4_ o = true → b = true → Jd_ P env H o x H')) →
        ∃ V W En Hp, En i = env ∧ Hp i = H ∧ Q (En (i + 1 + rest.length)) (Hp (i + 1 + rest.length)) ∧ Trace P O ops U i (i + 1 + rest.length) V W En Hp ∧
          (∀ (k : Nat) (o : Oper), i ≤ k → k < i + 1 + rest.length → ops[k]? = some o → heavy o = false → W k = true → ∀ p ∈ past, (p.1, k) ∈ U → opA P (O k) (En k) p.2 o = some (V k, p.2)) ∧
          (∀ (k : Nat) (o : Oper), i ≤ k → k < i + 1 + rest.length → ops[k]? = some o → heavy o = true → W k = true → ∀ p ∈ pend, (p.1, k) ∈ U → opA P (O p.1) p.2.1 (Hp (k + 1)) p.2.2.1 = some (p.2.2.2, Hp (k + 1))) := by
      intro b x H' past' pend' hb hx1 hx2 hx3 hrun hp1 hp2 hp3 hp4 hc1 hc2 hst
      obtain ⟨V, W, En, Hp, e1, e2, e3, e4, e5, e6⟩ := U7_ rest (i + 1) _ H' past' pend' hl' hrun
      have hV : ∀ k, i + 1 ≤ k → (fun k => if k = i then x else V k) k = V k := fun k hk => by simp; omega
      refine ⟨fun k => if k = i then x else V k, fun k => if k = i then b else W k, fun k => if k = i then env else En k, fun k => if k = i then H else Hp k, by simp, by simp, by simp [show i + 1 + rest.length ≠ i by omega, e3], ⟨?_, ?_, ?_, ?_⟩, ?_, ?_⟩
      · intro k ok hk1 hk2 hok
        by_cases hki : k = i
        · subst hki
          rw [h0] at hok; cases hok
          simp only [if_true, show k + 1 ≠ k by omega, if_false, e1, e2]
          exact ⟨hb, hx1, hx2, trivial, hx3⟩
        · simp only [hki, if_false, show k + 1 ≠ i by omega]
          exact e4.step k ok (by omega) hk2 hok
      · intro j k oj ok hj hjk hk hoj hok h1 h2 hw hU
        simp only [show k ≠ i by omega, if_false] at hw ⊢
        by_cases hji : j = i
        · subst hji
          rw [h0] at hoj; cases hoj
          simp only [if_true]
          exact e5 k ok (by omega) hk hok h2 hw _ (hp2 h1 (Xd_ hU)) hU
        · simp only [hji, if_false]
          exact e4.s3 j k oj ok (by omega) hjk hk hoj hok h1 h2 hw hU
      · intro j k oj ok hj hjk hk hoj hok h1 h2 hw1 hw2 hU
        simp only [show k ≠ i by omega, show k + 1 ≠ i by omega, if_false] at hw2 ⊢
        by_cases hji : j = i
        · subst hji
          rw [h0] at hoj; cases hoj
          simp only [if_true] at hw1 ⊢
          exact e6 k ok (by omega) hk hok h2 hw2 _ (hp4 h1 hw1 (Xd_ hU)) hU
        · simp only [hji, if_false] at hw1 ⊢
          exact e4.s4 j k oj ok (by omega) hjk hk hoj hok h1 h2 hw1 hw2 hU
      · intro k ok hk1 hk2 hok
        by_cases hki : k = i
        · subst hki
          rw [h0] at hok; cases hok
          simp only [if_true, show k + 1 ≠ k by omega, if_false, e2]
          exact hst
        · simp only [hki, if_false, show k + 1 ≠ i by omega]
          exact e4.st k ok (by omega) hk2 hok
      · intro k ok hk1 hk2 hok h1 hw p hp hU
        by_cases hki : k = i
        · subst hki
          rw [h0] at hok; cases hok
          simp only [if_true] at hw ⊢
          exact hc1 h1 hw p hp hU
        · simp only [hki, if_false] at hw ⊢
          exact e5 k ok (by omega) hk2 hok h1 hw p (hp1 p hp) hU
      · intro k ok hk1 hk2 hok h1 hw p hp hU
        by_cases hki : k = i
        · subst hki
          rw [h0] at hok; cases hok
          simp only [if_true, show k + 1 ≠ k by omega, if_false] at hw ⊢
          rw [e2]
          exact hc2 h1 hw p hp hU
        · simp only [hki, if_false, show k + 1 ≠ i by omega] at hw ⊢
          exact e6 k ok (by omega) hk2 hok h1 hw p (hp3 p hp) hU
    simp only [runD] at h
    split at h
    · rename_i hw
      split at h
      · rename_i x H' hop
        split at h
        · rename_i hh
          exact mk true x H' _ _ hw (fun _ => hop) (fun h => by cases h) (fun h => by rw [hh] at h; cases h) h.2.2 (fun p hp => by split <;> simp [hp]) (fun _ hU => by rw [if_pos hU]; simp) (fun p hp => hp) (fun h => by rw [hh] at h; cases h) (fun h => by rw [hh] at h; cases h) (fun _ _ p hp hU => h.1 p hp hU _) ⟨h.2.1.1, fun hf _ => h.2.1.2 hf⟩
        · rename_i hh
          have hh' : heavy o = false := by simpa using hh
          have hH := Ss_ hh' hop
          subst hH
          exact mk true x H' _ _ hw (fun _ => hop) (fun h => by cases h) (fun _ => rfl) h.2 (fun p hp => hp) (fun h => absurd h hh) (fun p hp => by split <;> simp [hp]) (fun _ _ hU => by rw [if_pos hU]; simp) (fun _ _ => h.1) (fun h => absurd h hh) ⟨Bs_.refl _, fun hf => absurd (T1_ hf) hh⟩
      · exact h.elim
    · rename_i hw
      refine mk false .undef H _ pend hw (fun h => by cases h) (fun _ => ⟨rfl, rfl⟩) (fun _ => rfl) h (fun p hp => ?_) (fun hh hU => by rw [if_pos hh, if_pos hU]; simp) (fun p hp => hp) (fun _ h => by cases h) (fun _ h => by cases h) (fun _ h => by cases h) ⟨Bs_.refl _, fun _ h => by cases h⟩
      split
      · split
        · exact List.mem_append_left _ hp
        · exact hp
      · exact hp
    · exact h.elim
theorem Sz_ {P : Program} {O O' : Nat → A0_} {ops : Array Oper} {U : List (Nat × Nat)} {Q : Env → Heap → Prop} : ∀ (l : List Oper) (i : Nat) (env : Env) (H : Heap) (past : List (Nat × Heap)) (pend : List (Nat × Env × Oper × AV)),
    (∀ k, i ≤ k → O k = O' k) → runD P O ops U Q i l env H past pend → runD P O' ops U Q i l env H past pend
  | [], i, env, H, past, pend, _, h => h
  | o :: rest, i, env, H, past, pend, ho, h => by
    have ih := fun env H past pend => Sz_ (P := P) (O := O) (O' := O') (ops := ops) (U := U) (Q := Q) rest (i + 1) env H past pend (fun k hk => ho k (by omega))
    simp only [runD] at h ⊢
    rw [ho i (Nat.le_refl _)] at h
    split at h
    · rename_i hw
      split at h
      · split at h
        · rename_i hh
          simp only [hh, if_true]
          exact ⟨h.1, h.2.1, ih _ _ _ _ h.2.2⟩
        · rename_i hh
          simp only [hh]
          exact ⟨h.1, ih _ _ _ _ h.2⟩
      · exact h.elim
    · exact ih _ _ _ _ h
    · exact h.elim
end Go.Proofs.Ytmgpbchacndndaa.AM
