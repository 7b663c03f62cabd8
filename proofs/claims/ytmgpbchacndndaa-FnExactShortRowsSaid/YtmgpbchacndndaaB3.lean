/- The abstract machine, part 12: code and functions. -/
import Derived.Test.YtmgpbchacndndaaB2
set_option linter.unusedSimpArgs false
set_option linter.unusedVariables false
namespace Go.Proofs.Ytmgpbchacndndaa.AM

abbrev QA := Exit → Env → Heap → Prop

/-- What the model owes where the machine says Q. -/
def Conc (Q : QA) (H0 : Heap) (μ0 : Mem) (w0 : World) : Exit → Act → World → Prop :=
  fun ex a w => ∃ e H μ, Q ex e H ∧ ER H μ e a ∧ HR H μ w ∧ Adv H0 μ0 w0 H μ w

/-- The code, begun where e and H stand, ends where Q holds. 'nb': the blocks that were there when the function began. -/
def TW (P : Program) (nb : Nat) (c : Code) (Q : QA) (e : Env) (H : Heap) : Prop :=
  ∀ (H0 : Heap) (μ0 : Mem) (w0 : World) (μ : Mem) (a : Act) (w : World), H0.length = nb → ER H μ e a → HR H μ w → Adv H0 μ0 w0 H μ w → c.wp P (Conc Q H0 μ0 w0) a w

/-- The weaker state (first) and the richer one. -/
def Wk (nb : Nat) (e : Env) (H : Heap) (e' : Env) (H' : Heap) : Prop :=
  ∃ σ, WkH nb σ H H' ∧ e.length = e'.length ∧ ∀ (i : Nat) (x y : AV), e[i]? = some x → e'[i]? = some y → Wk1 H.length σ x y

def seqQ (K : Env → Heap → Prop) (Q : QA) : QA := fun ex e H => match ex with
  | .normal => K e H
  | ex => Q ex e H
def blockQ (id : Nat) (Q : QA) : QA := fun ex e H => match ex with
  | .exit id' => if id' = id then Q .normal e H else Q (.exit id') e H
  | ex => Q ex e H

def awp (P : Program) (O : Oracle) (nb : Nat) : Code → QA → Env → Heap → Prop
  | .skip, Q, e, H => Q .normal e H
  | .region i ops false, Q, e, H =>
    match runSeq P O ops ops.toList e H with
    | some r => Q .normal r.1 r.2
    | none => False
  | .region i ops true, Q, e, H => TW P nb (.region i ops true) Q e H
  | .seq a b, Q, e, H => awp P O nb a (seqQ (awp P O nb b Q) Q) e H
  | .cond c a b, Q, e, H =>
    match evA e c with
    | .bool t => if t = true then awp P O nb a Q e H else awp P O nb b Q e H
    | _ => False
  | .block id b, Q, e, H => awp P O nb b (blockQ id Q) e H
  | .loop b, Q, e, H => TW P nb (.loop b) Q e H
  | .exit id, Q, e, H => Q (.exit id) e H
  | .ret, Q, e, H => Q .ret e H
  | _, _, _, _ => False

section
variable {P : Program} {O : Oracle} {nb : Nat}

theorem TW.mono {c : Code} {Q Q' : QA} {e : Env} {H : Heap} (h : TW P nb c Q e H) (hq : ∀ ex e H, Q ex e H → Q' ex e H) : TW P nb c Q' e H :=
  fun H0 μ0 w0 μ a w hn he hr ha => Code.wp_mono (fun ex a w ⟨e, H, μ, q, r⟩ => ⟨e, H, μ, hq _ _ _ q, r⟩) (h H0 μ0 w0 μ a w hn he hr ha)

theorem ER.wk {σ : Nat → Nat} {H H' : Heap} {μ : Mem} (hw : WkH nb σ H H') {e e' : Env} {a : Act} (hl : e.length = e'.length)
    (hx : ∀ (i : Nat) (x y : AV), e[i]? = some x → e'[i]? = some y → Wk1 H.length σ x y) (h : ER H' μ e' a) : ER H ⟨fun i => μ.blk (σ i), fun i => μ.off (σ i), fun i => μ.phys (σ i)⟩ e a := by
  obtain ⟨h1, h2, h3⟩ := h
  refine ⟨h1, hl.trans h2, fun i c v hc hv => ?_⟩
  have hi : i < e'.length := by rw [← hl]; exact (List.getElem?_eq_some_iff.1 hc).1
  exact (h3 i _ v (List.getElem?_eq_getElem hi) hv).wk hw (hx i c _ hc (List.getElem?_eq_getElem hi))

/-- One may forget. -/
theorem TW.weak {c : Code} {Q : QA} {e e' : Env} {H H' : Heap} (hw : Wk nb e H e' H') (h : TW P nb c Q e H) : TW P nb c Q e' H' := by
  obtain ⟨σ, h1, h2, h3⟩ := hw
  intro H0 μ0 w0 μ a w hn he hr ha
  exact h H0 μ0 w0 _ a w hn (he.wk h1 h2 h3) (hr.wk h1) (ha.wk (by omega) h1)

theorem awp_ok (hO : SoundO P O) : ∀ (c : Code) (Q : QA) (e : Env) (H : Heap), awp P O nb c Q e H → TW P nb c Q e H := by
  intro c
  induction c with
  | skip => intro Q e H h H0 μ0 w0 μ a w hn he hr ha; exact wp_skip ⟨e, H, μ, h, he, hr, ha⟩
  | region i ops d =>
    intro Q e H h
    cases d with
    | true => exact h
    | false =>
      intro H0 μ0 w0 μ a w hn he hr ha
      simp only [awp] at h
      split at h
      · rename_i r hrun
        obtain ⟨e', H'⟩ := r
        refine wp_region_list (runSeq_ok hO ops.toList e e' H H' μ w a hrun hr he fun a' w' μ' he' hr' ha' => ⟨e', H', μ', h, he', hr', ha.trans ha'⟩)
      · exact h.elim
  | seq x y ihx ihy =>
    intro Q e H h H0 μ0 w0 μ a w hn he hr ha
    refine wp_seq (Code.wp_mono ?_ (ihx _ e H h H0 μ0 w0 μ a w hn he hr ha))
    rintro ex a' w' ⟨e', H', μ', hq, he', hr', ha'⟩
    cases ex with
    | normal => exact ihy Q e' H' hq H0 μ0 w0 μ' a' w' hn he' hr' ha'
    | _ => exact ⟨e', H', μ', hq, he', hr', ha'⟩
  | cond c x y ihx ihy =>
    intro Q e H h H0 μ0 w0 μ a w hn he hr ha
    simp only [awp] at h
    split at h
    · rename_i t ht
      have h1 := he.eval c
      rw [ht] at h1
      refine wp_cond h1.bool_inv ?_
      cases t
      · simp at h; exact ihy Q e H h H0 μ0 w0 μ a w hn he hr ha
      · simp at h; exact ihx Q e H h H0 μ0 w0 μ a w hn he hr ha
    · exact h.elim
  | block id b ih =>
    intro Q e H h H0 μ0 w0 μ a w hn he hr ha
    refine wp_block (Code.wp_mono ?_ (ih _ e H h H0 μ0 w0 μ a w hn he hr ha))
    rintro ex a' w' ⟨e', H', μ', hq, he', hr', ha'⟩
    cases ex with
    | exit id' =>
      simp only [blockQ] at hq
      simp only [Exit.inBlock]
      split
      · rename_i hid; rw [if_pos hid] at hq; exact ⟨e', H', μ', hq, he', hr', ha'⟩
      · rename_i hid; rw [if_neg hid] at hq; exact ⟨e', H', μ', hq, he', hr', ha'⟩
    | _ => exact ⟨e', H', μ', hq, he', hr', ha'⟩
  | loop b ih => intro Q e H h; exact h
  | rangeFunc f p x y => intro Q e H h; exact h.elim
  | exit id => intro Q e H h H0 μ0 w0 μ a w hn he hr ha; exact wp_exit ⟨e, H, μ, h, he, hr, ha⟩
  | scope b => intro Q e H h; exact h.elim
  | label l => intro Q e H h; exact h.elim
  | goto l => intro Q e H h; exact h.elim
  | ret => intro Q e H h H0 μ0 w0 μ a w hn he hr ha; exact wp_ret ⟨e, H, μ, h, he, hr, ha⟩
  | refuse why => intro Q e H h; exact h.elim

/-- A loop, by a relation that bears a number that falls. -/
theorem TW_loop (hO : SoundO P O) {b : Code} {Q : QA} {e : Env} {H : Heap} (I : Nat → Env → Heap → Prop) (n0 : Nat) (e0 : Env) (H0 : Heap) (hI : I n0 e0 H0) (hw : Wk nb e0 H0 e H)
    (round : ∀ n e1 H1, I n e1 H1 → awp P O nb b (seqQ (fun e' H' => ∃ m, m < n ∧ ∃ e2 H2, I m e2 H2 ∧ Wk nb e2 H2 e' H') Q) e1 H1) : TW P nb (.loop b) Q e H := by
  refine TW.weak hw ?_
  intro Hs μs ws μ a w hn he hr ha
  refine wp_loop_ghost (fun n a w => ∃ e1 H1 μ1, I n e1 H1 ∧ ER H1 μ1 e1 a ∧ HR H1 μ1 w ∧ Adv Hs μs ws H1 μ1 w) n0 ⟨e0, H0, μ, hI, he, hr, ha⟩ ?_
  rintro n a1 w1 ⟨e1, H1, μ1, hI1, he1, hr1, ha1⟩
  refine Code.wp_mono ?_ (awp_ok hO b _ e1 H1 (round n e1 H1 hI1) Hs μs ws μ1 a1 w1 hn he1 hr1 ha1)
  rintro ex a2 w2 ⟨e2, H2, μ2, hq, he2, hr2, ha2⟩
  cases ex with
  | normal =>
    obtain ⟨m, hm, e3, H3, hI3, σ, k1, k2, k3⟩ := hq
    exact ⟨m, hm, e3, H3, _, hI3, he2.wk k1 k2 k3, hr2.wk k1, ha2.wk (by omega) k1⟩
  | _ => exact ⟨e2, H2, μ2, hq, he2, hr2, ha2⟩

def resA1 (P : Program) (e : Env) (H : Heap) : ResultVar → Option AV
  | .tmp t => some ((e[t]?).getD .top)
  | .cell a t => loadA P H t ((e[a]?).getD .top)
def resA (P : Program) (rs : List ResultVar) (e : Env) (H : Heap) : Option AV :=
  match rs.mapM (resA1 P e H) with
  | some [v] => some v
  | some vs => some (.tup vs)
  | none => none

def resC (a : Act) : ResultVar → Sem Value
  | .tmp t => pure (a.tmps.getD t undef)
  | .cell ad t => do loadVar t (← asAddr (a.tmps.getD ad undef))

theorem res1_ok {H : Heap} {μ : Mem} {w : World} {e : Env} {a : Act} (hr : HR H μ w) (he : ER H μ e a) (r : ResultVar) (x : AV) (h : resA1 P e H r = some x) :
    ∃ v, (resC a r).run P w = .ok v w ∧ VR H μ x v := by
  cases r with
  | tmp t =>
    simp only [resA1, Option.some.injEq] at h
    subst h
    exact ⟨_, rfl, he.eval (.tmp t)⟩
  | cell ad t =>
    simp only [resA1] at h
    have hv := he.eval (.tmp ad)
    simp only [evA, Act.eval] at hv
    obtain ⟨ad', v, h1, h2, h3⟩ := loadA_run (P := P) hr hv h
    exact ⟨v, by simp [resC, h1, asAddr, h2], h3⟩

theorem resM_ok {H : Heap} {μ : Mem} {w : World} {e : Env} {a : Act} (hr : HR H μ w) (he : ER H μ e a) : ∀ (rs : List ResultVar) (xs : List AV), rs.mapM (resA1 P e H) = some xs →
    ∃ vs, (rs.mapM (resC a)).run P w = .ok vs w ∧ VRs H μ xs vs.toArray
  | [], xs, h => by simp at h; subst h; exact ⟨[], by simp, rfl, by simp⟩
  | r :: rs, xs, h => by
    rw [List.mapM_cons] at h
    cases h1 : resA1 P e H r with
    | none => rw [h1] at h; cases h
    | some x =>
      cases h2 : rs.mapM (resA1 P e H) with
      | none => rw [h1, h2] at h; cases h
      | some ys =>
        rw [h1, h2] at h
        simp at h
        subst h
        obtain ⟨v, k1, k2⟩ := res1_ok (P := P) hr he r x h1
        obtain ⟨vs, k3, k4⟩ := resM_ok hr he rs ys h2
        refine ⟨v :: vs, by simp [List.mapM_cons, k1, k3], by have := k4.1; simpa using this, fun i c u hc hu => ?_⟩
        cases i with
        | zero => simp at hc hu; subst hc; subst hu; exact k2
        | succ i => exact k4.2 i c u (by simpa using hc) (by simpa using hu)

theorem results_eq (fn : Func) (a : Act) : results fn a.tmps = (do let vs ← fn.results.mapM (resC a); pure (if h : vs.size = 1 then vs[0] else .tuple vs)) := by
  rfl

theorem results_ok {fn : Func} {H : Heap} {μ : Mem} {w : World} {e : Env} {a : Act} {x : AV} (hr : HR H μ w) (he : ER H μ e a) (h : resA P fn.results.toList e H = some x) :
    ∃ v, (results fn a.tmps).run P w = .ok v w ∧ VR H μ x v := by
  rw [results_eq, Array.mapM_eq_mapM_toList]
  unfold resA at h
  cases hm : fn.results.toList.mapM (resA1 P e H) with
  | none => rw [hm] at h; cases h
  | some xs =>
    obtain ⟨vs, k1, k2⟩ := resM_ok (P := P) hr he _ xs hm
    rw [hm] at h
    simp only [Sem.run_bind, Sem.run_map, k1, Result.andThen_ok]
    match xs, vs, k2 with
    | [y], [v], k2 =>
      simp only [Option.some.injEq] at h
      subst h
      exact ⟨v, by simp, k2.2 0 y v rfl rfl⟩
    | [], [], k2 =>
      simp only [Option.some.injEq] at h
      subst h
      exact ⟨.tuple #[], by simp, .tup _ _ rfl (by simp)⟩
    | y :: y2 :: ys, v :: v2 :: vs, k2 =>
      simp only [Option.some.injEq] at h
      subst h
      exact ⟨.tuple (v :: v2 :: vs).toArray, by simp, .tup _ _ k2.1 k2.2⟩
    | [], _ :: _, k2 => have := k2.1; simp at this
    | _ :: _, [], k2 => have := k2.1; simp at this
    | [_], _ :: _ :: _, k2 => have := k2.1; simp at this
    | _ :: _ :: _, [_], k2 => have := k2.1; simp at this

/-- All places in a heap lie in it. -/
def WS (H : Heap) : Prop := ∀ (i : Nat) (B : Blk), H[i]? = some B → ∀ c ∈ B.cells, c.within H.length = true

theorem VR.within {H : Heap} {μ : Mem} {x : AV} {v : Value} (h : VR H μ x v) : x.within H.length = true := by
  induction h with
  | ptr r v B hB hv h => simp only [AV.within, decide_eq_true_eq]; exact (List.getElem?_eq_some_iff.1 hB).1
  | slc r n v B hB hv h => simp only [AV.within, decide_eq_true_eq]; exact (List.getElem?_eq_some_iff.1 hB).1
  | fn f cs vs hl h ih =>
    simp only [AV.within, AVs.within_eq, List.all_eq_true]
    intro c hc
    obtain ⟨i, hi⟩ := List.getElem?_of_mem hc
    have hlt : i < vs.size := by rw [← hl]; exact (List.getElem?_eq_some_iff.1 hi).1
    exact ih i c _ hi (Array.getElem?_eq_getElem hlt)
  | agg cs vs hl h ih =>
    simp only [AV.within, AVs.within_eq, List.all_eq_true]
    intro c hc
    obtain ⟨i, hi⟩ := List.getElem?_of_mem hc
    have hlt : i < vs.size := by rw [← hl]; exact (List.getElem?_eq_some_iff.1 hi).1
    exact ih i c _ hi (Array.getElem?_eq_getElem hlt)
  | tup cs vs hl h ih =>
    simp only [AV.within, AVs.within_eq, List.all_eq_true]
    intro c hc
    obtain ⟨i, hi⟩ := List.getElem?_of_mem hc
    have hlt : i < vs.size := by rw [← hl]; exact (List.getElem?_eq_some_iff.1 hi).1
    exact ih i c _ hi (Array.getElem?_eq_getElem hlt)
  | _ => rfl

theorem HR.ws {H : Heap} {μ : Mem} {w : World} (hr : HR H μ w) : WS H := by
  intro i B hB c hc
  obtain ⟨cs, e, fr, _, _, _, h4, _⟩ := hr.cells i B hB
  obtain ⟨j, hj⟩ := List.getElem?_of_mem hc
  obtain ⟨v, _, hv⟩ := h4 j c hj
  exact hv.within

/-- How a function's code must end. -/
def retQ (P : Program) (rs : List ResultVar) (nb : Nat) (r : AV) (H' : Heap) : QA := fun ex e H1 => match ex with
  | .normal => ∃ v, resA P rs e H1 = some v ∧ ∃ σ, WkH nb σ H' H1 ∧ Wk1 H'.length σ r v
  | .ret => ∃ v, resA P rs e H1 = some v ∧ ∃ σ, WkH nb σ H' H1 ∧ Wk1 H'.length σ r v
  | _ => False

theorem FnOk_of (hO : SoundO P O) {f : FuncId} {fn : Func} {c : Code} (hf : P.funcs[f]? = some fn) (hcall : ∀ (args : Array Value) (w : World), (callFunc f args).run P w = .ok (.enter f args) w)
    (hb : fn.body = some c) {args : List AV} {H : Heap} {r : AV} {H' : Heap}
    (h : WS H → (∀ x ∈ args, x.within H.length = true) → TW P H.length c (retQ P fn.results.toList H.length r H') (args ++ List.replicate (fn.ntmps - args.length) .undef) H) :
    FnOk P f args H r H' := by
  intro μ w cargs hr ha
  refine .inl ⟨hcall cargs w, calls_of_wp hf hb ?_⟩
  have hwin : ∀ x ∈ args, x.within H.length = true := fun x hx => by
    obtain ⟨i, hi⟩ := List.getElem?_of_mem hx
    have hlt : i < cargs.size := by rw [← ha.1]; exact (List.getElem?_eq_some_iff.1 hi).1
    exact (ha.2 i x _ hi (Array.getElem?_eq_getElem hlt)).within
  have hundef : VRs H μ (List.replicate (fn.ntmps - args.length) .undef) (Array.replicate (fn.ntmps - cargs.size) undef) := by
    refine ⟨by simp [ha.1], fun i c v hc hv => ?_⟩
    rw [List.getElem?_replicate] at hc
    rw [Array.getElem?_replicate] at hv
    split at hc
    · cases hc
      split at hv
      · cases hv; exact .undef
      · cases hv
    · cases hc
  have he : ER H μ (args ++ List.replicate (fn.ntmps - args.length) .undef) { tmps := cargs ++ Array.replicate (fn.ntmps - cargs.size) undef, defers := [] } := ⟨rfl, ha.app hundef⟩
  refine Code.wp_mono ?_ (h hr.ws hwin H μ w μ _ w rfl he hr (Adv.refl _ _ _))
  have fin : ∀ a' w', (∃ e H1 μ1, (∃ v, resA P fn.results.toList e H1 = some v ∧ ∃ σ, WkH H.length σ H' H1 ∧ Wk1 H'.length σ r v) ∧ ER H1 μ1 e a' ∧ HR H1 μ1 w' ∧ Adv H μ w H1 μ1 w') →
      a'.defers = [] ∧ ∃ v, (results fn a'.tmps).run P w' = .ok v w' ∧ ∃ v' μ', Ending.returned v = .returned v' ∧ VR H' μ' r v' ∧ HR H' μ' w' ∧ Adv H μ w H' μ' w' := by
    rintro a' w' ⟨e, H1, μ1, ⟨v, hv, σ, k1, k2⟩, he1, hr1, ha1⟩
    obtain ⟨cv, g1, g2⟩ := results_ok (P := P) (fn := fn) hr1 he1 hv
    exact ⟨he1.1, cv, g1, cv, _, rfl, g2.wk k1 k2, hr1.wk k1, ha1.wk (Nat.le_refl _) k1⟩
  rintro ex a' w' ⟨e, H1, μ1, hq, he1, hr1, ha1⟩
  cases ex with
  | normal => exact fin a' w' ⟨e, H1, μ1, hq, he1, hr1, ha1⟩
  | ret => exact fin a' w' ⟨e, H1, μ1, hq, he1, hr1, ha1⟩
  | exit _ => exact hq.elim
  | goto _ => exact hq.elim
  | panic _ => exact hq.elim
  | outgrown => exact hq.elim

end
end Go.Proofs.Ytmgpbchacndndaa.AM
