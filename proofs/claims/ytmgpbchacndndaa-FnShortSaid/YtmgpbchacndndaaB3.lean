import Derived.Test.YtmgpbchacndndaaB2
set_option linter.unusedSimpArgs false
set_option linter.unusedVariables false
namespace Go.Proofs.Ytmgpbchacndndaa.AM
abbrev QA := Exit → Env → Heap → Prop
def Conc (Q : QA) (H0 : Heap) (μ0 : Mem) (w0 : World) : Exit → Act → World → Prop :=
  fun ex a w => ∃ e H μ, Q ex e H ∧ ER H μ e a ∧ HR H μ w ∧ Adv H0 μ0 w0 H μ w
def TW (P : Program) (nb : Nat) (c : Code) (Q : QA) (e : Env) (H : Heap) : Prop :=
  ∀ (H0 : Heap) (μ0 : Mem) (w0 : World) (μ : Mem) (a : Act) (w : World), H0.length = nb → ER H μ e a → HR H μ w → Adv H0 μ0 w0 H μ w → c.wp P (Conc Q H0 μ0 w0) a w
def Wk (nb : Nat) (e : Env) (H : Heap) (e' : Env) (H' : Heap) : Prop :=
  ∃ σ, WkH nb σ H H' ∧ e.length = e'.length ∧ ∀ (i : Nat) (x y : AV), e[i]? = some x → e'[i]? = some y → Wk1 H.length σ x y
def seqQ (K : Env → Heap → Prop) (Q : QA) : QA := fun ex e H => match ex with
  | .normal => K e H
  | ex => Q ex e H
def Cr_ (id : Nat) (Q : QA) : QA := fun ex e H => match ex with
  | .exit id' => if id' = id then Q .normal e H else Q (.exit id') e H
  | ex => Q ex e H
section
variable {P : Program} {O : A0_} {nb : Nat}
theorem TW.mono {c : Code} {Q Q' : QA} {e : Env} {H : Heap} (h : TW P nb c Q e H) (hq : ∀ ex e H, Q ex e H → Q' ex e H) : TW P nb c Q' e H :=
  fun H0 μ0 w0 μ a w hn he hr ha => Code.wp_mono (fun ex a w ⟨e, H, μ, q, r⟩ => ⟨e, H, μ, hq _ _ _ q, r⟩) (h H0 μ0 w0 μ a w hn he hr ha)
theorem ER.wk {σ : Nat → Nat} {H H' : Heap} {μ : Mem} (hw : WkH nb σ H H') {e e' : Env} {a : Act} (hl : e.length = e'.length)
    (hx : ∀ (i : Nat) (x y : AV), e[i]? = some x → e'[i]? = some y → Wk1 H.length σ x y) (h : ER H' μ e' a) : ER H ⟨fun i => μ.blk (σ i), fun i => μ.off (σ i), fun i => μ.phys (σ i)⟩ e a := by
  obtain ⟨h1, h2, h3⟩ := h
  refine ⟨h1, hl.trans h2, fun i c v hc hv => ?_⟩
  have hi : i < e'.length := by rw [← hl]; exact (List.getElem?_eq_some_iff.1 hc).1
  exact (h3 i _ v (List.getElem?_eq_getElem hi) hv).wk hw (hx i c _ hc (List.getElem?_eq_getElem hi))
theorem TW.weak {c : Code} {Q : QA} {e e' : Env} {H H' : Heap} (hw : Wk nb e H e' H') (h : TW P nb c Q e H) : TW P nb c Q e' H' := by
  obtain ⟨σ, h1, h2, h3⟩ := hw
  intro H0 μ0 w0 μ a w hn he hr ha
  exact h H0 μ0 w0 _ a w hn (he.wk h1 h2 h3) (hr.wk h1) (ha.wk (by omega) h1)
def resA1 (P : Program) (e : Env) (H : Heap) : ResultVar → Option AV
  | .tmp t => some ((e[t]?).getD .top)
  | .cell a t => loadA P H t ((e[a]?).getD .top)
def resA (P : Program) (rs : List ResultVar) (e : Env) (H : Heap) : Option AV :=
  match rs.mapM (resA1 P e H) with
  | some [v] => some v
  | some vs => some (.tup vs)
  | none => none
def resC (a : Act) : ResultVar → Sem Value
  | .tmp t => pure (a.tmps.getD t undef)
  | .cell ad t => do loadVar t (← asAddr (a.tmps.getD ad undef))
theorem Afk_ {H : Heap} {μ : Mem} {w : World} {e : Env} {a : Act} (hr : HR H μ w) (he : ER H μ e a) (r : ResultVar) (x : AV) (h : resA1 P e H r = some x) :
    ∃ v, (resC a r).run P w = .ok v w ∧ VR H μ x v := by
  cases r with
  | tmp t =>
    simp only [resA1, Option.some.injEq] at h
    subst h
    exact ⟨_, rfl, he.eval (.tmp t)⟩
  | cell ad t =>
    simp only [resA1] at h
    have hv := he.eval (.tmp ad)
    simp only [evA, Act.eval] at hv
    obtain ⟨ad', v, h1, h2, h3⟩ := V9_ (P := P) hr hv h
    exact ⟨v, by simp [resC, h1, asAddr, h2], h3⟩
theorem X0_ {H : Heap} {μ : Mem} {w : World} {e : Env} {a : Act} (hr : HR H μ w) (he : ER H μ e a) : ∀ (rs : List ResultVar) (xs : List AV), rs.mapM (resA1 P e H) = some xs →
    ∃ vs, (rs.mapM (resC a)).run P w = .ok vs w ∧ VRs H μ xs vs.toArray
  | [], xs, h => by simp at h; subst h; exact ⟨[], by simp, rfl, by simp⟩
  | r :: rs, xs, h => by
    rw [List.mapM_cons] at h
    cases h1 : resA1 P e H r with
    | none => rw [h1] at h; cases h
    | some x =>
      cases h2 : rs.mapM (resA1 P e H) with
      | none => rw [h1, h2] at h; cases h
      | some ys =>
        rw [h1, h2] at h
        simp at h
        subst h
        obtain ⟨v, k1, k2⟩ := Afk_ (P := P) hr he r x h1
        obtain ⟨vs, k3, k4⟩ := X0_ hr he rs ys h2
        refine ⟨v :: vs, by simp [List.mapM_cons, k1, k3], by have := k4.1; simpa using this, fun i c u hc hu => ?_⟩
        cases i with
        | zero => simp at hc hu; subst hc; subst hu; exact k2
        | succ i => exact k4.2 i c u (by simpa using hc) (by simpa using hu)
theorem Adw_ (fn : Func) (a : Act) : results fn a.tmps = (do let vs ← fn.results.mapM (resC a); pure (if h : vs.size = 1 then vs[0] else .tuple vs)) := by
  rfl
theorem Ac8_ {fn : Func} {H : Heap} {μ : Mem} {w : World} {e : Env} {a : Act} {x : AV} (hr : HR H μ w) (he : ER H μ e a) (h : resA P fn.results.toList e H = some x) :
    ∃ v, (results fn a.tmps).run P w = .ok v w ∧ VR H μ x v := by
  rw [Adw_, Array.mapM_eq_mapM_toList]
  unfold resA at h
  cases hm : fn.results.toList.mapM (resA1 P e H) with
  | none => rw [hm] at h; cases h
  | some xs =>
    obtain ⟨vs, k1, k2⟩ := X0_ (P := P) hr he _ xs hm
    rw [hm] at h
    simp only [Sem.run_bind, Sem.run_map, k1, Result.andThen_ok]
    match xs, vs, k2 with
    | [y], [v], k2 =>
      simp only [Option.some.injEq] at h
      subst h
      exact ⟨v, by simp, k2.2 0 y v rfl rfl⟩
    | [], [], k2 =>
      simp only [Option.some.injEq] at h
      subst h
      exact ⟨.tuple #[], by simp, .tup _ _ rfl (by simp)⟩
    | y :: y2 :: ys, v :: v2 :: vs, k2 =>
      simp only [Option.some.injEq] at h
      subst h
      exact ⟨.tuple (v :: v2 :: vs).toArray, by simp, .tup _ _ k2.1 k2.2⟩
    | [], _ :: _, k2 => have := k2.1; simp at this
    | _ :: _, [], k2 => have := k2.1; simp at this
    | [_], _ :: _ :: _, k2 => have := k2.1; simp at this
    | _ :: _ :: _, [_], k2 => have := k2.1; simp at this
def WS (H : Heap) : Prop := ∀ (i : Nat) (B : Blk), H[i]? = some B → ∀ c ∈ B.cells, c.within H.length = true
theorem VR.within {H : Heap} {μ : Mem} {x : AV} {v : Value} (h : VR H μ x v) : x.within H.length = true := by
  induction h with
  | ptr r v B hB hv h => simp only [AV.within, decide_eq_true_eq]; exact (List.getElem?_eq_some_iff.1 hB).1
  | slc r n v B hB hv h => simp only [AV.within, decide_eq_true_eq]; exact (List.getElem?_eq_some_iff.1 hB).1
  | fn f cs vs hl h ih =>
    simp only [AV.within, AVs.within_eq, List.all_eq_true]
    intro c hc
    obtain ⟨i, hi⟩ := List.getElem?_of_mem hc
    have hlt : i < vs.size := by rw [← hl]; exact (List.getElem?_eq_some_iff.1 hi).1
    exact ih i c _ hi (Array.getElem?_eq_getElem hlt)
  | agg cs vs hl h ih =>
    simp only [AV.within, AVs.within_eq, List.all_eq_true]
    intro c hc
    obtain ⟨i, hi⟩ := List.getElem?_of_mem hc
    have hlt : i < vs.size := by rw [← hl]; exact (List.getElem?_eq_some_iff.1 hi).1
    exact ih i c _ hi (Array.getElem?_eq_getElem hlt)
  | tup cs vs hl h ih =>
    simp only [AV.within, AVs.within_eq, List.all_eq_true]
    intro c hc
    obtain ⟨i, hi⟩ := List.getElem?_of_mem hc
    have hlt : i < vs.size := by rw [← hl]; exact (List.getElem?_eq_some_iff.1 hi).1
    exact ih i c _ hi (Array.getElem?_eq_getElem hlt)
  | _ => rfl
theorem HR.ws {H : Heap} {μ : Mem} {w : World} (hr : HR H μ w) : WS H := by
  intro i B hB c hc
  obtain ⟨cs, e, fr, _, _, _, h4, _⟩ := hr.cells i B hB
  obtain ⟨j, hj⟩ := List.getElem?_of_mem hc
  obtain ⟨v, _, hv⟩ := h4 j c hj
  exact hv.within
end
end Go.Proofs.Ytmgpbchacndndaa.AM
