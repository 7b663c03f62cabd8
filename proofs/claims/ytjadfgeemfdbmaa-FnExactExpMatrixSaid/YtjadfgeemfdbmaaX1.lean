/- Functions: what they come to. -/
import Derived.Test.YtjadfgeemfdbmaaX0
set_option maxRecDepth 100000
set_option maxHeartbeats 4000000
set_option linter.unusedSimpArgs false
set_option linter.unusedVariables false
namespace Go.Proofs.Ytjadfgeemfdbmaa.AM
open Go.Proofs
/-! (impl.Matrix).rowNorm -/
noncomputable def impl_Matrix_rowNorm_l2_T (v501 : Int) (v502 : List Nat) (v566 : Nat) (v567 : Int) (s : Nat × Int) : Tree ((Nat × Int) ⊕ (Nat)) :=
  (.br (decide (s.2 < v501)) (
   (.call (impl_Matrix_at_g v501 v502 v567 s.2) fun v570 =>
   (.call (impl_absolute_g v570) fun v571 =>
   .leaf (.inl (fadd .f32 s.1 v571, IntKind.i64.wrap (s.2 + (1 : Int))))))
  ) (
   .leaf (.inr s.1)
  ))

noncomputable def impl_Matrix_rowNorm_l2_g (v501 : Int) (v502 : List Nat) (v566 : Nat) (v567 : Int) (s0 : Nat × Int) : Option (Nat) := whileM (fun s => (impl_Matrix_rowNorm_l2_T v501 v502 v566 v567 s).run) s0
def impl_Matrix_rowNorm_l2_E (v500 : Int) (v501 : Int) (v502 : List Nat) (v566 : Nat) (v567 : Int) (s : Nat × Int) : Sd := ([.top, .ptr 0 (0 : Nat) 0 (3 : Nat), .top, .flt .f32 v566, .int .i64 v567, .flt .f32 s.1, .top, .top, .int .i64 v500, .int .i64 v567, .top, .top, .top, .int .i64 v501, .int .i64 s.2, .top, .top, .top, .top, .top, .top, .top, .top, .top, .top, .top, .top, .top, .top, .top], [.gen [.int .i64 v500, .int .i64 v501, .bslc (BR.root 0) (.f32 v502)] false 0])
def impl_Matrix_rowNorm_l2_X (v500 : Int) (v501 : Int) (v502 : List Nat) (v566 : Nat) (v567 : Int) (x : Nat) : Out := (.normal, [.top, .ptr 0 (0 : Nat) 0 (3 : Nat), .top, .flt .f32 v566, .top, .flt .f32 x, .top, .top, .int .i64 v500, .int .i64 v567, .top, .top, .top, .top, .top, .top, .top, .top, .top, .top, .top, .top, .top, .top, .top, .top, .top, .top, .top, .top], [.gen [.int .i64 v500, .int .i64 v501, .bslc (BR.root 0) (.f32 v502)] false 0])
def impl_Matrix_rowNorm_l2_kill : List Nat := [1, 0, 1, 0, 0, 0, 1, 1, 0, 0, 1, 1, 1, 0, 0, 1, 1, 1, 1, 1, 1, 1, 1, 1, 1, 1, 1, 1, 1, 1]
def impl_Matrix_rowNorm_l2_nx : Exit → List Nat
  | .exit 0 => [1, 1, 1, 0, 1, 1, 1, 1, 1, 1, 1, 1, 1, 1, 1, 1, 1, 1, 1, 1, 1, 1, 1, 1, 1, 1, 1, 1, 1, 1]
  | .exit 1 => [1, 0, 1, 0, 1, 1, 1, 1, 0, 0, 1, 1, 1, 1, 1, 1, 1, 1, 1, 1, 1, 1, 1, 1, 1, 1, 1, 1, 1, 1]
  | .exit 2 => [1, 0, 1, 0, 1, 0, 1, 1, 0, 0, 1, 1, 1, 1, 1, 1, 1, 1, 1, 1, 1, 1, 1, 1, 1, 1, 1, 1, 1, 1]
  | .ret => [1, 1, 0, 1, 1, 1, 1, 1, 1, 1, 1, 1, 1, 1, 1, 1, 1, 1, 1, 1, 1, 1, 1, 1, 1, 1, 1, 1, 1, 1]
  | _ => []
noncomputable def impl_Matrix_rowNorm_l0_T (v500 : Int) (v501 : Int) (v502 : List Nat) (s : Nat × Int) : Tree ((Nat × Int) ⊕ (Nat)) :=
  (.br (decide (s.2 < v500)) (
   (.need (some (impl_Matrix_rowNorm_l2_E v500 v501 v502 s.1 s.2 ((0 : Nat), (0 : Int))) = some (impl_Matrix_rowNorm_l2_E v500 v501 v502 s.1 s.2 ((0 : Nat), (0 : Int)))) <|
   (.call (impl_Matrix_rowNorm_l2_g v501 v502 s.1 s.2 ((0 : Nat), (0 : Int))) fun v572 =>
   .leaf (.inl (fmaxA .f32 s.1 v572, IntKind.i64.wrap (s.2 + (1 : Int))))))
  ) (
   .leaf (.inr s.1)
  ))

noncomputable def impl_Matrix_rowNorm_l0_g (v500 : Int) (v501 : Int) (v502 : List Nat) (s0 : Nat × Int) : Option (Nat) := whileM (fun s => (impl_Matrix_rowNorm_l0_T v500 v501 v502 s).run) s0
def impl_Matrix_rowNorm_l0_E (v500 : Int) (v501 : Int) (v502 : List Nat) (s : Nat × Int) : Sd := ([.top, .ptr 0 (0 : Nat) 0 (3 : Nat), .top, .flt .f32 s.1, .top, .top, .top, .top, .int .i64 v500, .int .i64 s.2, .top, .top, .top, .top, .top, .top, .top, .top, .top, .top, .top, .top, .top, .top, .top, .top, .top, .top, .top, .top], [.gen [.int .i64 v500, .int .i64 v501, .bslc (BR.root 0) (.f32 v502)] false 0])
def impl_Matrix_rowNorm_l0_X (v500 : Int) (v501 : Int) (v502 : List Nat) (x : Nat) : Out := (.normal, [.top, .top, .top, .flt .f32 x, .top, .top, .top, .top, .top, .top, .top, .top, .top, .top, .top, .top, .top, .top, .top, .top, .top, .top, .top, .top, .top, .top, .top, .top, .top, .top], [])
def impl_Matrix_rowNorm_l0_kill : List Nat := [1, 0, 1, 0, 1, 1, 1, 1, 0, 0, 1, 1, 1, 1, 1, 1, 1, 1, 1, 1, 1, 1, 1, 1, 1, 1, 1, 1, 1, 1]
def impl_Matrix_rowNorm_l0_nx : Exit → List Nat
  | .exit 0 => [1, 1, 1, 0, 1, 1, 1, 1, 1, 1, 1, 1, 1, 1, 1, 1, 1, 1, 1, 1, 1, 1, 1, 1, 1, 1, 1, 1, 1, 1]
  | .ret => [1, 1, 0, 1, 1, 1, 1, 1, 1, 1, 1, 1, 1, 1, 1, 1, 1, 1, 1, 1, 1, 1, 1, 1, 1, 1, 1, 1, 1, 1]
  | _ => []
noncomputable def impl_Matrix_rowNorm_LO (v500 : Int) (v501 : Int) (v502 : List Nat) : LOr := fun id e L =>
  match id with
  | 2 => .need (normA 0 impl_Matrix_rowNorm_l2_kill e L = some (impl_Matrix_rowNorm_l2_E v500 v501 v502 (gF (vAt e 3)) (gI (vAt e 4)) ((gF (vAt e 5)), (gI (vAt e 14))))) (.call (impl_Matrix_rowNorm_l2_g v501 v502 (gF (vAt e 3)) (gI (vAt e 4)) ((gF (vAt e 5)), (gI (vAt e 14)))) fun x => .leaf (impl_Matrix_rowNorm_l2_X v500 v501 v502 (gF (vAt e 3)) (gI (vAt e 4)) x))
  | 0 => .need (normA 0 impl_Matrix_rowNorm_l0_kill e L = some (impl_Matrix_rowNorm_l0_E v500 v501 v502 ((gF (vAt e 3)), (gI (vAt e 9))))) (.call (impl_Matrix_rowNorm_l0_g v500 v501 v502 ((gF (vAt e 3)), (gI (vAt e 9)))) fun x => .leaf (impl_Matrix_rowNorm_l0_X v500 v501 v502 x))
  | _ => .fail
noncomputable def impl_Matrix_rowNorm_tab : List (FuncId × DFn × Bool) := [(93, impl_Matrix_at_F, true), (158, impl_absolute_F, true)]
theorem impl_Matrix_rowNorm_hO : OrcOk Try.prog (tabD impl_Matrix_rowNorm_tab) (tabM impl_Matrix_rowNorm_tab) := tabD_cons impl_Matrix_at_Fok (tabD_cons impl_absolute_Fok (tabD_nil _))
theorem impl_Matrix_rowNorm_l2_be (v500 : Int) (v501 : Int) (v502 : List Nat) (v566 : Nat) (v567 : Int) (s : Nat × Int) : bodyT TT (tabD impl_Matrix_rowNorm_tab) (tabM impl_Matrix_rowNorm_tab) (impl_Matrix_rowNorm_LO v500 v501 v502) 0 impl_Matrix_rowNorm_l2_kill impl_Matrix_rowNorm_l2_nx (bodyOf Try.f141 2) 2 (impl_Matrix_rowNorm_l2_E v500 v501 v502 v566 v567 s) = (impl_Matrix_rowNorm_l2_T v501 v502 v566 v567 s).bind fun y => .leaf (outS (impl_Matrix_rowNorm_l2_E v500 v501 v502 v566 v567) (impl_Matrix_rowNorm_l2_X v500 v501 v502 v566 v567) y) := by kernel_rfl
theorem impl_Matrix_rowNorm_l2_ok (v500 : Int) (v501 : Int) (v502 : List Nat) : LSound Try.prog 0 (impl_Matrix_rowNorm_LO v500 v501 v502) 2 (bodyOf Try.f141 2) := by
  intro e L out h
  exact lo_ok (E := impl_Matrix_rowNorm_l2_E v500 v501 v502 (gF (vAt e 3)) (gI (vAt e 4))) (gT := impl_Matrix_rowNorm_l2_T v501 v502 (gF (vAt e 3)) (gI (vAt e 4))) (X := impl_Matrix_rowNorm_l2_X v500 v501 v502 (gF (vAt e 3)) (gI (vAt e 4))) (s0 := ((gF (vAt e 5)), (gI (vAt e 14)))) tok impl_Matrix_rowNorm_hO mixed (LoopsOk_eq (l := []) (by kernel_rfl) trivial) (impl_Matrix_rowNorm_l2_be v500 v501 v502 (gF (vAt e 3)) (gI (vAt e 4))) rfl (by intro x; rfl) h
theorem impl_Matrix_rowNorm_l0_be (v500 : Int) (v501 : Int) (v502 : List Nat) (s : Nat × Int) : bodyT TT (tabD impl_Matrix_rowNorm_tab) (tabM impl_Matrix_rowNorm_tab) (impl_Matrix_rowNorm_LO v500 v501 v502) 0 impl_Matrix_rowNorm_l0_kill impl_Matrix_rowNorm_l0_nx (bodyOf Try.f141 0) 0 (impl_Matrix_rowNorm_l0_E v500 v501 v502 s) = (impl_Matrix_rowNorm_l0_T v500 v501 v502 s).bind fun y => .leaf (outS (impl_Matrix_rowNorm_l0_E v500 v501 v502) (impl_Matrix_rowNorm_l0_X v500 v501 v502) y) := by kernel_rfl
theorem impl_Matrix_rowNorm_l0_ok (v500 : Int) (v501 : Int) (v502 : List Nat) : LSound Try.prog 0 (impl_Matrix_rowNorm_LO v500 v501 v502) 0 (bodyOf Try.f141 0) := by
  intro e L out h
  exact lo_ok (E := impl_Matrix_rowNorm_l0_E v500 v501 v502) (gT := impl_Matrix_rowNorm_l0_T v500 v501 v502) (X := impl_Matrix_rowNorm_l0_X v500 v501 v502) (s0 := ((gF (vAt e 3)), (gI (vAt e 9)))) tok impl_Matrix_rowNorm_hO mixed (LoopsOk_eq (l := [(2, bodyOf Try.f141 2)]) (by kernel_rfl) ⟨impl_Matrix_rowNorm_l2_ok v500 v501 v502, trivial⟩) (impl_Matrix_rowNorm_l0_be v500 v501 v502) rfl (by intro x; rfl) h
noncomputable def impl_Matrix_rowNorm_T (v500 : Int) (v501 : Int) (v502 : List Nat) : Tree (Nat) :=
  (.need (some (impl_Matrix_rowNorm_l0_E v500 v501 v502 ((0 : Nat), (0 : Int))) = some (impl_Matrix_rowNorm_l0_E v500 v501 v502 ((0 : Nat), (0 : Int)))) <|
  (.call (impl_Matrix_rowNorm_l0_g v500 v501 v502 ((0 : Nat), (0 : Int))) fun v573 =>
  .leaf v573))

noncomputable def impl_Matrix_rowNorm_g (v500 : Int) (v501 : Int) (v502 : List Nat) : Option (Nat) := (impl_Matrix_rowNorm_T v500 v501 v502).run
def impl_Matrix_rowNorm_enc (v500 : Int) (v501 : Int) (v502 : List Nat) (y : Nat) : Rs := (.flt .f32 y, [])
theorem impl_Matrix_rowNorm_den (v500 : Int) (v501 : Int) (v502 : List Nat) : (den TT (tabD impl_Matrix_rowNorm_tab) (tabM impl_Matrix_rowNorm_tab) (impl_Matrix_rowNorm_LO v500 v501 v502) (codeOf Try.f141) ([.agg [.int .i64 v500, .int .i64 v501, .bslc (BR.root 0) (.f32 v502)]] ++ List.replicate (Try.f141.ntmps - ([.agg [.int .i64 v500, .int .i64 v501, .bslc (BR.root 0) (.f32 v502)]] : List DV).length) .undef) []).bind (retD TT Try.f141.results.toList 0) = (impl_Matrix_rowNorm_T v500 v501 v502).bind fun y => .leaf (impl_Matrix_rowNorm_enc v500 v501 v502 y) := by kernel_rfl
theorem impl_Matrix_rowNorm_fn (v500 : Int) (v501 : Int) (v502 : List Nat) (F : Fr) (hm : F.ids.length = 0) (h0 : St F [] F.H0) (hA : DVs.Ok F [] [.agg [.int .i64 v500, .int .i64 v501, .bslc (BR.root 0) (.f32 v502)]]) {y : Nat} (hy : impl_Matrix_rowNorm_g v500 v501 v502 = some y) : ∃ H', FnOk Try.prog 141 (DVs.av F [.agg [.int .i64 v500, .int .i64 v501, .bslc (BR.root 0) (.f32 v502)]]) F.H0 ((impl_Matrix_rowNorm_enc v500 v501 v502 y).1.av F) H' ∧ St F (impl_Matrix_rowNorm_enc v500 v501 v502 y).2 H' ∧ (impl_Matrix_rowNorm_enc v500 v501 v502 y).1.Ok F (impl_Matrix_rowNorm_enc v500 v501 v502 y).2 :=
  fn_fin tok impl_Matrix_rowNorm_hO mixed Try.func141 Try.call141 (by kernel_rfl) (LoopsOk_eq (l := [(0, bodyOf Try.f141 0)]) (by kernel_rfl) ⟨impl_Matrix_rowNorm_l0_ok v500 v501 v502, trivial⟩) (impl_Matrix_rowNorm_den v500 v501 v502) hy hm h0 hA
noncomputable def impl_Matrix_rowNorm_F : DFn := fun args L =>
  match args with
  | [.agg [.int .i64 v500, .int .i64 v501, a1]] =>
    optT (rowF32 L a1) fun v502 =>
    .call (impl_Matrix_rowNorm_g v500 v501 v502) fun y => .leaf (.flt .f32 y, L)
  | _ => .fail
theorem impl_Matrix_rowNorm_Fok : COk Try.prog 141 impl_Matrix_rowNorm_F true := by
  intro F L H args r L' hs ha hr
  unfold impl_Matrix_rowNorm_F at hr
  split at hr
  · rename_i v500 v501 a1
    obtain ⟨v502, hv502, hr⟩ := optT_run hr
    simp only [Tree.run] at hr
    obtain ⟨y, hy, hr⟩ := Option.bind_eq_some_iff.1 hr
    simp only [Tree.run, Option.some.injEq, Prod.mk.injEq] at hr
    obtain ⟨rfl, rfl⟩ := hr
    exact call_ok0 hs (fun k => (([a1.av F] : List AV)[k]?).getD .top) [.agg [.int .i64 v500, .int .i64 v501, a1]] [.agg [.int .i64 v500, .int .i64 v501, .bslc (BR.root 0) (.f32 v502)]] (fun F' h0 hi hρ => ⟨by simp [DVs.av, DV.av, BR.av, hρ], impl_Matrix_rowNorm_fn v500 v501 v502 F' (by rw [hi]; rfl) (st_nil hi) ⟨⟨trivial, trivial, bslc_ok hi (by rw [h0, hρ]; exact rowF32_ok hs (DVs.okAt (DVs.okAt ha 0 rfl) 2 rfl) hv502), trivial⟩, trivial⟩ hy⟩) rfl
  · cases hr
/-! impl.finite -/
noncomputable def impl_finite_LO (v575 : Nat) : LOr := fun id e L =>
  match id with
  | _ => .fail
noncomputable def impl_finite_tab : List (FuncId × DFn × Bool) := [(103, impl_IsFinite_F, true)]
theorem impl_finite_hO : OrcOk Try.prog (tabD impl_finite_tab) (tabM impl_finite_tab) := tabD_cons impl_IsFinite_Fok (tabD_nil _)
noncomputable def impl_finite_T (v575 : Nat) : Tree ((Unit) ⊕ (Nat)) :=
  (.br (!(impl_IsFinite_v v575)) (
   .leaf (.inl ())
  ) (
   .leaf (.inr v575)
  ))

noncomputable def impl_finite_g (v575 : Nat) : Option ((Unit) ⊕ (Nat)) := (impl_finite_T v575).run
def impl_finite_enc (v575 : Nat) (y : (Unit) ⊕ (Nat)) : Rs := (match y with | .inl y => (.tup [.flt .f32 (0 : Nat), .lit false], []) | .inr y => (.tup [.flt .f32 y, .lit true], []))
theorem impl_finite_den (v575 : Nat) : (den TT (tabD impl_finite_tab) (tabM impl_finite_tab) (impl_finite_LO v575) (codeOf Try.f118) ([.flt .f32 v575] ++ List.replicate (Try.f118.ntmps - ([.flt .f32 v575] : List DV).length) .undef) []).bind (retD TT Try.f118.results.toList 0) = (impl_finite_T v575).bind fun y => .leaf (impl_finite_enc v575 y) := by kernel_rfl
theorem impl_finite_fn (v575 : Nat) (F : Fr) (hm : F.ids.length = 0) (h0 : St F [] F.H0) (hA : DVs.Ok F [] [.flt .f32 v575]) {y : (Unit) ⊕ (Nat)} (hy : impl_finite_g v575 = some y) : ∃ H', FnOk Try.prog 118 (DVs.av F [.flt .f32 v575]) F.H0 ((impl_finite_enc v575 y).1.av F) H' ∧ St F (impl_finite_enc v575 y).2 H' ∧ (impl_finite_enc v575 y).1.Ok F (impl_finite_enc v575 y).2 :=
  fn_fin tok impl_finite_hO mixed Try.func118 Try.call118 (by kernel_rfl) (LoopsOk_eq (l := []) (by kernel_rfl) trivial) (impl_finite_den v575) hy hm h0 hA
def impl_finite_v (v575 : Nat) : (Unit) ⊕ (Nat) :=
  if (!(impl_IsFinite_v v575)) = true then (
   .inl ()
  ) else (
   .inr v575
  )
theorem impl_finite_tot (v575 : Nat) : impl_finite_g v575 = some (impl_finite_v v575) := by
  unfold impl_finite_g impl_finite_T impl_finite_v
  simp only [Tree.run]
  repeat' (first | rfl | split)
noncomputable def impl_finite_F : DFn := fun args L =>
  match args with
  | [.flt .f32 v575] =>
    .sum (impl_finite_v v575) (fun y0 => .leaf (.tup [.flt .f32 (0 : Nat), .lit false], L)) (fun z0 => .leaf (.tup [.flt .f32 z0, .lit true], L))
  | _ => .fail
theorem impl_finite_Fok : COk Try.prog 118 impl_finite_F true := by
  intro F L H args r L' hs ha hr
  unfold impl_finite_F at hr
  split at hr
  · rename_i v575
    have hy := impl_finite_tot v575
    generalize impl_finite_v v575 = y at hy hr
    cases y with
    | inl y =>
      simp only [Tree.run, Option.some.injEq, Prod.mk.injEq] at hr
      obtain ⟨rfl, rfl⟩ := hr
      exact call_ok0 hs (fun k => (([] : List AV)[k]?).getD .top) [.flt .f32 v575] [.flt .f32 v575] (fun F' h0 hi hρ => ⟨by simp [DVs.av, DV.av, BR.av, hρ], impl_finite_fn v575 F' (by rw [hi]; rfl) (st_nil hi) ⟨trivial, trivial⟩ hy⟩) rfl
    | inr y =>
      simp only [Tree.run, Option.some.injEq, Prod.mk.injEq] at hr
      obtain ⟨rfl, rfl⟩ := hr
      exact call_ok0 hs (fun k => (([] : List AV)[k]?).getD .top) [.flt .f32 v575] [.flt .f32 v575] (fun F' h0 hi hρ => ⟨by simp [DVs.av, DV.av, BR.av, hρ], impl_finite_fn v575 F' (by rw [hi]; rfl) (st_nil hi) ⟨trivial, trivial⟩ hy⟩) rfl
  · cases hr
/-! impl.RowNorm -/
noncomputable def impl_RowNorm_LO (v496 : Int) (v497 : Int) (v498 : List Nat) : LOr := fun id e L =>
  match id with
  | _ => .fail
noncomputable def impl_RowNorm_tab : List (FuncId × DFn × Bool) := [(98, impl_ValidMatrix_F, true), (141, impl_Matrix_rowNorm_F, true), (118, impl_finite_F, true)]
theorem impl_RowNorm_hO : OrcOk Try.prog (tabD impl_RowNorm_tab) (tabM impl_RowNorm_tab) := tabD_cons impl_ValidMatrix_Fok (tabD_cons impl_Matrix_rowNorm_Fok (tabD_cons impl_finite_Fok (tabD_nil _)))
noncomputable def impl_RowNorm_T (v496 : Int) (v497 : Int) (v498 : List Nat) : Tree ((Unit) ⊕ (Nat)) :=
  (.call (impl_ValidMatrix_g v496 v497 v498) fun v499 =>
  (.br (!v499) (
   .leaf (.inl ())
  ) (
   (.call (impl_Matrix_rowNorm_g v496 v497 v498) fun v574 =>
   (.sum (impl_finite_v v574) (fun v576 =>
    .leaf (.inl ())
   ) (fun v577 =>
    .leaf (.inr v577)
   )))
  )))

noncomputable def impl_RowNorm_g (v496 : Int) (v497 : Int) (v498 : List Nat) : Option ((Unit) ⊕ (Nat)) := (impl_RowNorm_T v496 v497 v498).run
def impl_RowNorm_enc (v496 : Int) (v497 : Int) (v498 : List Nat) (y : (Unit) ⊕ (Nat)) : Rs := (match y with | .inl y => (.tup [.flt .f32 (0 : Nat), .lit false], []) | .inr y => (.tup [.flt .f32 y, .lit true], []))
theorem impl_RowNorm_den (v496 : Int) (v497 : Int) (v498 : List Nat) : (den TT (tabD impl_RowNorm_tab) (tabM impl_RowNorm_tab) (impl_RowNorm_LO v496 v497 v498) (codeOf Try.f90) ([.agg [.int .i64 v496, .int .i64 v497, .bslc (BR.root 0) (.f32 v498)]] ++ List.replicate (Try.f90.ntmps - ([.agg [.int .i64 v496, .int .i64 v497, .bslc (BR.root 0) (.f32 v498)]] : List DV).length) .undef) []).bind (retD TT Try.f90.results.toList 0) = (impl_RowNorm_T v496 v497 v498).bind fun y => .leaf (impl_RowNorm_enc v496 v497 v498 y) := by kernel_rfl
theorem impl_RowNorm_fn (v496 : Int) (v497 : Int) (v498 : List Nat) (F : Fr) (hm : F.ids.length = 0) (h0 : St F [] F.H0) (hA : DVs.Ok F [] [.agg [.int .i64 v496, .int .i64 v497, .bslc (BR.root 0) (.f32 v498)]]) {y : (Unit) ⊕ (Nat)} (hy : impl_RowNorm_g v496 v497 v498 = some y) : ∃ H', FnOk Try.prog 90 (DVs.av F [.agg [.int .i64 v496, .int .i64 v497, .bslc (BR.root 0) (.f32 v498)]]) F.H0 ((impl_RowNorm_enc v496 v497 v498 y).1.av F) H' ∧ St F (impl_RowNorm_enc v496 v497 v498 y).2 H' ∧ (impl_RowNorm_enc v496 v497 v498 y).1.Ok F (impl_RowNorm_enc v496 v497 v498 y).2 :=
  fn_fin tok impl_RowNorm_hO mixed Try.func90 Try.call90 (by kernel_rfl) (LoopsOk_eq (l := []) (by kernel_rfl) trivial) (impl_RowNorm_den v496 v497 v498) hy hm h0 hA
noncomputable def impl_RowNorm_F : DFn := fun args L =>
  match args with
  | [.agg [.int .i64 v496, .int .i64 v497, a1]] =>
    optT (rowF32 L a1) fun v498 =>
    .call (impl_RowNorm_g v496 v497 v498) fun y => .sum y (fun y0 => .leaf (.tup [.flt .f32 (0 : Nat), .lit false], L)) (fun z0 => .leaf (.tup [.flt .f32 z0, .lit true], L))
  | _ => .fail
theorem impl_RowNorm_Fok : COk Try.prog 90 impl_RowNorm_F true := by
  intro F L H args r L' hs ha hr
  unfold impl_RowNorm_F at hr
  split at hr
  · rename_i v496 v497 a1
    obtain ⟨v498, hv498, hr⟩ := optT_run hr
    simp only [Tree.run] at hr
    obtain ⟨y, hy, hr⟩ := Option.bind_eq_some_iff.1 hr
    cases y with
    | inl y =>
      simp only [Tree.run, Option.some.injEq, Prod.mk.injEq] at hr
      obtain ⟨rfl, rfl⟩ := hr
      exact call_ok0 hs (fun k => (([a1.av F] : List AV)[k]?).getD .top) [.agg [.int .i64 v496, .int .i64 v497, a1]] [.agg [.int .i64 v496, .int .i64 v497, .bslc (BR.root 0) (.f32 v498)]] (fun F' h0 hi hρ => ⟨by simp [DVs.av, DV.av, BR.av, hρ], impl_RowNorm_fn v496 v497 v498 F' (by rw [hi]; rfl) (st_nil hi) ⟨⟨trivial, trivial, bslc_ok hi (by rw [h0, hρ]; exact rowF32_ok hs (DVs.okAt (DVs.okAt ha 0 rfl) 2 rfl) hv498), trivial⟩, trivial⟩ hy⟩) rfl
    | inr y =>
      simp only [Tree.run, Option.some.injEq, Prod.mk.injEq] at hr
      obtain ⟨rfl, rfl⟩ := hr
      exact call_ok0 hs (fun k => (([a1.av F] : List AV)[k]?).getD .top) [.agg [.int .i64 v496, .int .i64 v497, a1]] [.agg [.int .i64 v496, .int .i64 v497, .bslc (BR.root 0) (.f32 v498)]] (fun F' h0 hi hρ => ⟨by simp [DVs.av, DV.av, BR.av, hρ], impl_RowNorm_fn v496 v497 v498 F' (by rw [hi]; rfl) (st_nil hi) ⟨⟨trivial, trivial, bslc_ok hi (by rw [h0, hρ]; exact rowF32_ok hs (DVs.okAt (DVs.okAt ha 0 rfl) 2 rfl) hv498), trivial⟩, trivial⟩ hy⟩) rfl
  · cases hr
/-! impl.newMatrix -/
noncomputable def impl_newMatrix_LO (v586 : Int) (v587 : Int) : LOr := fun id e L =>
  match id with
  | _ => .fail
noncomputable def impl_newMatrix_tab : List (FuncId × DFn × Bool) := []
theorem impl_newMatrix_hO : OrcOk Try.prog (tabD impl_newMatrix_tab) (tabM impl_newMatrix_tab) := tabD_nil _
noncomputable def impl_newMatrix_T (v586 : Int) (v587 : Int) : Tree (Int × Int) :=
  (.need (IntKind.i64.wrap (v586 * v587) = IntKind.i64.wrap (v586 * v587)) <|
  (.grd (inb (IntKind.i64.wrap (v586 * v587)) (maxN + 1)) <|
  .leaf (v586, v587)))

noncomputable def impl_newMatrix_g (v586 : Int) (v587 : Int) : Option (Int × Int) := (impl_newMatrix_T v586 v587).run
def impl_newMatrix_enc (v586 : Int) (v587 : Int) (y : Int × Int) : Rs := (.agg [.int .i64 y.1, .int .i64 y.2, .own 0 0 ((List.replicate (Int.toNat (IntKind.i64.wrap (v586 * v587))) (0 : Nat)).length)], [.row (.f32 (List.replicate (Int.toNat (IntKind.i64.wrap (v586 * v587))) (0 : Nat))) 0])
theorem impl_newMatrix_den (v586 : Int) (v587 : Int) : (den TT (tabD impl_newMatrix_tab) (tabM impl_newMatrix_tab) (impl_newMatrix_LO v586 v587) (codeOf Try.f125) ([.int .i64 v586, .int .i64 v587] ++ List.replicate (Try.f125.ntmps - ([.int .i64 v586, .int .i64 v587] : List DV).length) .undef) []).bind (retD TT Try.f125.results.toList 0) = (impl_newMatrix_T v586 v587).bind fun y => .leaf (impl_newMatrix_enc v586 v587 y) := by kernel_rfl
theorem impl_newMatrix_fn (v586 : Int) (v587 : Int) (F : Fr) (hm : F.ids.length = 0) (h0 : St F [] F.H0) (hA : DVs.Ok F [] [.int .i64 v586, .int .i64 v587]) {y : Int × Int} (hy : impl_newMatrix_g v586 v587 = some y) : ∃ H', FnOk Try.prog 125 (DVs.av F [.int .i64 v586, .int .i64 v587]) F.H0 ((impl_newMatrix_enc v586 v587 y).1.av F) H' ∧ St F (impl_newMatrix_enc v586 v587 y).2 H' ∧ (impl_newMatrix_enc v586 v587 y).1.Ok F (impl_newMatrix_enc v586 v587 y).2 :=
  fn_fin tok impl_newMatrix_hO mixed Try.func125 Try.call125 (by kernel_rfl) (LoopsOk_eq (l := []) (by kernel_rfl) trivial) (impl_newMatrix_den v586 v587) hy hm h0 hA
noncomputable def impl_newMatrix_F : DFn := fun args L =>
  match args with
  | [.int .i64 v586, .int .i64 v587] =>
    .call (impl_newMatrix_g v586 v587) fun y => .leaf (.agg [.int .i64 y.1, .int .i64 y.2, .own (L.length + 0) 0 ((List.replicate (Int.toNat (IntKind.i64.wrap (v586 * v587))) (0 : Nat)).length)], L ++ [.row (.f32 (List.replicate (Int.toNat (IntKind.i64.wrap (v586 * v587))) (0 : Nat))) 0])
  | _ => .fail
theorem impl_newMatrix_Fok : COk Try.prog 125 impl_newMatrix_F true := by
  intro F L H args r L' hs ha hr
  unfold impl_newMatrix_F at hr
  split at hr
  · rename_i v586 v587
    simp only [Tree.run] at hr
    obtain ⟨y, hy, hr⟩ := Option.bind_eq_some_iff.1 hr
    simp only [Tree.run, Option.some.injEq, Prod.mk.injEq] at hr
    obtain ⟨rfl, rfl⟩ := hr
    exact call_ok1 hs (fun k => (([] : List AV)[k]?).getD .top) [.int .i64 v586, .int .i64 v587] [.int .i64 v586, .int .i64 v587] (fun F' h0 hi hρ => ⟨by simp [DVs.av, DV.av, BR.av, hρ], impl_newMatrix_fn v586 v587 F' (by rw [hi]; rfl) (st_nil hi) ⟨trivial, trivial, trivial⟩ hy⟩) rfl rfl
  · cases hr
/-! impl.mul -/
noncomputable def impl_mul_LO (v602 : Nat) (v603 : Nat) : LOr := fun id e L =>
  match id with
  | _ => .fail
noncomputable def impl_mul_tab : List (FuncId × DFn × Bool) := []
theorem impl_mul_hO : OrcOk Try.prog (tabD impl_mul_tab) (tabM impl_mul_tab) := tabD_nil _
noncomputable def impl_mul_T (v602 : Nat) (v603 : Nat) : Tree (Nat) :=
  .leaf (fmul .f32 v602 v603)

noncomputable def impl_mul_g (v602 : Nat) (v603 : Nat) : Option (Nat) := (impl_mul_T v602 v603).run
def impl_mul_enc (v602 : Nat) (v603 : Nat) (y : Nat) : Rs := (.flt .f32 y, [])
theorem impl_mul_den (v602 : Nat) (v603 : Nat) : (den TT (tabD impl_mul_tab) (tabM impl_mul_tab) (impl_mul_LO v602 v603) (codeOf Try.f80) ([.flt .f32 v602, .flt .f32 v603] ++ List.replicate (Try.f80.ntmps - ([.flt .f32 v602, .flt .f32 v603] : List DV).length) .undef) []).bind (retD TT Try.f80.results.toList 0) = (impl_mul_T v602 v603).bind fun y => .leaf (impl_mul_enc v602 v603 y) := by kernel_rfl
theorem impl_mul_fn (v602 : Nat) (v603 : Nat) (F : Fr) (hm : F.ids.length = 0) (h0 : St F [] F.H0) (hA : DVs.Ok F [] [.flt .f32 v602, .flt .f32 v603]) {y : Nat} (hy : impl_mul_g v602 v603 = some y) : ∃ H', FnOk Try.prog 80 (DVs.av F [.flt .f32 v602, .flt .f32 v603]) F.H0 ((impl_mul_enc v602 v603 y).1.av F) H' ∧ St F (impl_mul_enc v602 v603 y).2 H' ∧ (impl_mul_enc v602 v603 y).1.Ok F (impl_mul_enc v602 v603 y).2 :=
  fn_fin tok impl_mul_hO mixed Try.func80 Try.call80 (by kernel_rfl) (LoopsOk_eq (l := []) (by kernel_rfl) trivial) (impl_mul_den v602 v603) hy hm h0 hA
def impl_mul_v (v602 : Nat) (v603 : Nat) : Nat :=
  fmul .f32 v602 v603
theorem impl_mul_tot (v602 : Nat) (v603 : Nat) : impl_mul_g v602 v603 = some (impl_mul_v v602 v603) := by
  unfold impl_mul_g impl_mul_T impl_mul_v
  simp only [Tree.run]
  repeat' (first | rfl | split)
noncomputable def impl_mul_F : DFn := fun args L =>
  match args with
  | [.flt .f32 v602, .flt .f32 v603] =>
    .leaf (.flt .f32 (impl_mul_v v602 v603), L)
  | _ => .fail
theorem impl_mul_Fok : COk Try.prog 80 impl_mul_F true := by
  intro F L H args r L' hs ha hr
  unfold impl_mul_F at hr
  split at hr
  · rename_i v602 v603
    have hy := impl_mul_tot v602 v603
    generalize impl_mul_v v602 v603 = y at hy hr
    simp only [Tree.run, Option.some.injEq, Prod.mk.injEq] at hr
    obtain ⟨rfl, rfl⟩ := hr
    exact call_ok0 hs (fun k => (([] : List AV)[k]?).getD .top) [.flt .f32 v602, .flt .f32 v603] [.flt .f32 v602, .flt .f32 v603] (fun F' h0 hi hρ => ⟨by simp [DVs.av, DV.av, BR.av, hρ], impl_mul_fn v602 v603 F' (by rw [hi]; rfl) (st_nil hi) ⟨trivial, trivial, trivial⟩ hy⟩) rfl
  · cases hr
/-! impl.ExpMatrix$1 -/
noncomputable def impl_ExpMatrix_1_LO (v596 : Int) (v597 : Int) (v598 : Int) (v599 : Int) (v600 : List Nat) : LOr := fun id e L =>
  match id with
  | _ => .fail
noncomputable def impl_ExpMatrix_1_tab : List (FuncId × DFn × Bool) := [(93, impl_Matrix_at_F, true), (80, impl_mul_F, true)]
theorem impl_ExpMatrix_1_hO : OrcOk Try.prog (tabD impl_ExpMatrix_1_tab) (tabM impl_ExpMatrix_1_tab) := tabD_cons impl_Matrix_at_Fok (tabD_cons impl_mul_Fok (tabD_nil _))
noncomputable def impl_ExpMatrix_1_T (v596 : Int) (v597 : Int) (v599 : Int) (v600 : List Nat) : Tree (Nat) :=
  (.call (impl_Matrix_at_g v599 v600 v596 v597) fun v601 =>
  .leaf (impl_mul_v (1056964608 : Nat) v601))

noncomputable def impl_ExpMatrix_1_g (v596 : Int) (v597 : Int) (v599 : Int) (v600 : List Nat) : Option (Nat) := (impl_ExpMatrix_1_T v596 v597 v599 v600).run
def impl_ExpMatrix_1_enc (v596 : Int) (v597 : Int) (v598 : Int) (v599 : Int) (v600 : List Nat) (y : Nat) : Rs := (.flt .f32 y, [])
theorem impl_ExpMatrix_1_den (v596 : Int) (v597 : Int) (v598 : Int) (v599 : Int) (v600 : List Nat) : (den TT (tabD impl_ExpMatrix_1_tab) (tabM impl_ExpMatrix_1_tab) (impl_ExpMatrix_1_LO v596 v597 v598 v599 v600) (codeOf Try.f92) ([.int .i64 v596, .int .i64 v597, .bptr (BR.root 0) [.int .i64 v598, .int .i64 v599, .bslc (BR.root 1) (.f32 v600)]] ++ List.replicate (Try.f92.ntmps - ([.int .i64 v596, .int .i64 v597, .bptr (BR.root 0) [.int .i64 v598, .int .i64 v599, .bslc (BR.root 1) (.f32 v600)]] : List DV).length) .undef) []).bind (retD TT Try.f92.results.toList 0) = (impl_ExpMatrix_1_T v596 v597 v599 v600).bind fun y => .leaf (impl_ExpMatrix_1_enc v596 v597 v598 v599 v600 y) := by kernel_rfl
theorem impl_ExpMatrix_1_fn (v596 : Int) (v597 : Int) (v598 : Int) (v599 : Int) (v600 : List Nat) (F : Fr) (hm : F.ids.length = 0) (h0 : St F [] F.H0) (hA : DVs.Ok F [] [.int .i64 v596, .int .i64 v597, .bptr (BR.root 0) [.int .i64 v598, .int .i64 v599, .bslc (BR.root 1) (.f32 v600)]]) {y : Nat} (hy : impl_ExpMatrix_1_g v596 v597 v599 v600 = some y) : ∃ H', FnOk Try.prog 92 (DVs.av F [.int .i64 v596, .int .i64 v597, .bptr (BR.root 0) [.int .i64 v598, .int .i64 v599, .bslc (BR.root 1) (.f32 v600)]]) F.H0 ((impl_ExpMatrix_1_enc v596 v597 v598 v599 v600 y).1.av F) H' ∧ St F (impl_ExpMatrix_1_enc v596 v597 v598 v599 v600 y).2 H' ∧ (impl_ExpMatrix_1_enc v596 v597 v598 v599 v600 y).1.Ok F (impl_ExpMatrix_1_enc v596 v597 v598 v599 v600 y).2 :=
  fn_fin tok impl_ExpMatrix_1_hO mixed Try.func92 Try.call92 (by kernel_rfl) (LoopsOk_eq (l := []) (by kernel_rfl) trivial) (impl_ExpMatrix_1_den v596 v597 v598 v599 v600) hy hm h0 hA
noncomputable def impl_ExpMatrix_1_F : DFn := fun args L =>
  match args with
  | [.int .i64 v596, .int .i64 v597, a1] =>
    optT (cellsOf L 3 a1) fun cs0 =>
    (match cs0 with
    | [.int .i64 v598, .int .i64 v599, a2] =>
    optT (rowF32 L a2) fun v600 =>
    .call (impl_ExpMatrix_1_g v596 v597 v599 v600) fun y => .leaf (.flt .f32 y, L)
    | _ => .fail)
  | _ => .fail
theorem impl_ExpMatrix_1_Fok : COk Try.prog 92 impl_ExpMatrix_1_F true := by
  intro F L H args r L' hs ha hr
  unfold impl_ExpMatrix_1_F at hr
  split at hr
  · rename_i v596 v597 a1
    obtain ⟨cs0, hcp0, hr⟩ := optT_run hr
    split at hr
    · rename_i v598 v599 a2
      obtain ⟨v600, hv600, hr⟩ := optT_run hr
      simp only [Tree.run] at hr
      obtain ⟨y, hy, hr⟩ := Option.bind_eq_some_iff.1 hr
      simp only [Tree.run, Option.some.injEq, Prod.mk.injEq] at hr
      obtain ⟨rfl, rfl⟩ := hr
      exact call_ok0 hs (fun k => (([a1.av F, a2.av F] : List AV)[k]?).getD .top) [.int .i64 v596, .int .i64 v597, a1] [.int .i64 v596, .int .i64 v597, .bptr (BR.root 0) [.int .i64 v598, .int .i64 v599, .bslc (BR.root 1) (.f32 v600)]] (fun F' h0 hi hρ => ⟨by simp [DVs.av, DV.av, BR.av, hρ], impl_ExpMatrix_1_fn v596 v597 v598 v599 v600 F' (by rw [hi]; rfl) (st_nil hi) ⟨trivial, trivial, bptr_ok hi (by rw [h0]; simpa [DVs.av, DV.av, BR.av, hρ] using (cellsOf_ok hs (DVs.okAt ha 2 rfl) hcp0).1) ⟨trivial, trivial, bslc_ok hi (by rw [h0, hρ]; exact rowF32_ok hs (DVs.okAt (cellsOf_ok hs (DVs.okAt ha 2 rfl) hcp0).2 2 rfl) hv600), trivial⟩, trivial⟩ hy⟩) rfl
    · cases hr
  · cases hr
/-! (impl.Matrix).set -/
noncomputable def impl_Matrix_set_LO (v611 : Int) (v612 : Int) (v613 : List Nat) (v614 : Int) (v615 : Int) (v616 : Nat) : LOr := fun id e L =>
  match id with
  | _ => .fail
noncomputable def impl_Matrix_set_tab : List (FuncId × DFn × Bool) := []
theorem impl_Matrix_set_hO : OrcOk Try.prog (tabD impl_Matrix_set_tab) (tabM impl_Matrix_set_tab) := tabD_nil _
noncomputable def impl_Matrix_set_T (v612 : Int) (v613 : List Nat) (v614 : Int) (v615 : Int) : Tree (Unit) :=
  (.grd (inb (IntKind.i64.wrap ((IntKind.i64.wrap (v614 * v612)) + v615)) v613.length) <|
  .leaf ())

noncomputable def impl_Matrix_set_g (v612 : Int) (v613 : List Nat) (v614 : Int) (v615 : Int) : Option (Unit) := (impl_Matrix_set_T v612 v613 v614 v615).run
def impl_Matrix_set_enc (v611 : Int) (v612 : Int) (v613 : List Nat) (v614 : Int) (v615 : Int) (v616 : Nat) (y : Unit) : Rs := (.tup [], [.row (.f32 (List.set v613 (Int.toNat (IntKind.i64.wrap ((IntKind.i64.wrap (v614 * v612)) + v615))) v616)) 0])
theorem impl_Matrix_set_den (v611 : Int) (v612 : Int) (v613 : List Nat) (v614 : Int) (v615 : Int) (v616 : Nat) : (den TT (tabD impl_Matrix_set_tab) (tabM impl_Matrix_set_tab) (impl_Matrix_set_LO v611 v612 v613 v614 v615 v616) (codeOf Try.f142) ([.agg [.int .i64 v611, .int .i64 v612, .own 0 0 v613.length], .int .i64 v614, .int .i64 v615, .flt .f32 v616] ++ List.replicate (Try.f142.ntmps - ([.agg [.int .i64 v611, .int .i64 v612, .own 0 0 v613.length], .int .i64 v614, .int .i64 v615, .flt .f32 v616] : List DV).length) .undef) [.row (.f32 v613) 0]).bind (retD TT Try.f142.results.toList 1) = (impl_Matrix_set_T v612 v613 v614 v615).bind fun y => .leaf (impl_Matrix_set_enc v611 v612 v613 v614 v615 v616 y) := by kernel_rfl
theorem impl_Matrix_set_fn (v611 : Int) (v612 : Int) (v613 : List Nat) (v614 : Int) (v615 : Int) (v616 : Nat) (F : Fr) (hm : F.ids.length = 1) (h0 : St F [.row (.f32 v613) 0] F.H0) (hA : DVs.Ok F [.row (.f32 v613) 0] [.agg [.int .i64 v611, .int .i64 v612, .own 0 0 v613.length], .int .i64 v614, .int .i64 v615, .flt .f32 v616]) {y : Unit} (hy : impl_Matrix_set_g v612 v613 v614 v615 = some y) : ∃ H', FnOk Try.prog 142 (DVs.av F [.agg [.int .i64 v611, .int .i64 v612, .own 0 0 v613.length], .int .i64 v614, .int .i64 v615, .flt .f32 v616]) F.H0 ((impl_Matrix_set_enc v611 v612 v613 v614 v615 v616 y).1.av F) H' ∧ St F (impl_Matrix_set_enc v611 v612 v613 v614 v615 v616 y).2 H' ∧ (impl_Matrix_set_enc v611 v612 v613 v614 v615 v616 y).1.Ok F (impl_Matrix_set_enc v611 v612 v613 v614 v615 v616 y).2 :=
  fn_fin tok impl_Matrix_set_hO mixed Try.func142 Try.call142 (by kernel_rfl) (LoopsOk_eq (l := []) (by kernel_rfl) trivial) (impl_Matrix_set_den v611 v612 v613 v614 v615 v616) hy hm h0 hA
noncomputable def impl_Matrix_set_F : DFn := fun args L =>
  match args with
  | [.agg [.int .i64 v611, .int .i64 v612, a1], .int .i64 v614, .int .i64 v615, .flt .f32 v616] =>
    optT (ownF32 L a1) fun qv613 =>
    (match sepB [qv613.1] [] with
    | true =>
    .call (impl_Matrix_set_g v612 qv613.2 v614 v615) fun y => .grd (decide ((List.set qv613.2 (Int.toNat (IntKind.i64.wrap ((IntKind.i64.wrap (v614 * v612)) + v615))) v616).length = qv613.2.length)) (.leaf (.tup [], setRows L ([qv613.1].zip [.f32 (List.set qv613.2 (Int.toNat (IntKind.i64.wrap ((IntKind.i64.wrap (v614 * v612)) + v615))) v616)])))
    | false => .fail)
  | _ => .fail
theorem impl_Matrix_set_Fok : COk Try.prog 142 impl_Matrix_set_F false := by
  intro F L H args r L' hs ha hr
  unfold impl_Matrix_set_F at hr
  split at hr
  · rename_i v611 v612 a1 v614 v615 v616
    obtain ⟨⟨jv613, v613⟩, hqv613, hr⟩ := optT_run hr
    simp only at hr
    split at hr
    · rename_i hsep
      obtain ⟨hnd, hsepv⟩ := sepB_spec hsep
      simp only [Tree.run] at hr
      obtain ⟨y, hy, hr⟩ := Option.bind_eq_some_iff.1 hr
      try simp only [Tree.run] at hr
      obtain ⟨hl0, hr⟩ := ite_run hr
      simp only [Option.some.injEq, Prod.mk.injEq] at hr
      obtain ⟨rfl, rfl⟩ := hr
      obtain ⟨hr0, hu0, ha0, hb0⟩ := (ownR_spec (DVs.okAt (DVs.okAt ha 0 rfl) 2 rfl) (ownF32_or hqv613))
      exact mut_ok hs (fun k => (([a1.av F] : List AV)[k]?).getD .top) [.agg [.int .i64 v611, .int .i64 v612, a1], .int .i64 v614, .int .i64 v615, .flt .f32 v616] [.agg [.int .i64 v611, .int .i64 v612, .own 0 0 v613.length], .int .i64 v614, .int .i64 v615, .flt .f32 v616] [jv613] [.f32 v613] [.f32 (List.set v613 (Int.toNat (IntKind.i64.wrap ((IntKind.i64.wrap (v614 * v612)) + v615))) v616)] hnd rfl rfl (fun i j q h1 h2 => by
          rcases i with _ | i
          · simp at h1 h2; subst h1; subst h2; exact hr0
          · simp at h1) (fun i q q' h1 h2 => by
          rcases i with _ | i
          · simp at h1 h2; subst h1; subst h2; exact of_decide_eq_true hl0
          · simp at h1) (fun j hj => by simp at hj; subst hj; simp [DVs.refs, DV.refs, hu0]) (fun F' h0 hi hρ hst hS => ⟨by (have ab0 : F'.abs 0 = F.abs jv613 := (by simp [Fr.abs, hi]); simp [DVs.av, DV.av, BR.av, hρ, Row.len, ha0, ab0]), by
          obtain ⟨H1, k1, k2, _⟩ := impl_Matrix_set_fn v611 v612 v613 v614 v615 v616 F' (by rw [hi]; rfl) hst ⟨⟨trivial, trivial, ⟨_, rfl, Nat.le_refl _, Nat.le_refl _, fun _ => rfl, (ownR_spec (DVs.okAt (DVs.okAt ha 0 rfl) 2 rfl) (ownF32_or hqv613)).2.2.2⟩, trivial⟩, trivial, trivial, trivial, trivial⟩ hy
          exact ⟨H1, k1, k2⟩⟩) (fun F' => rfl) (fun L' => trivial)
    · cases hr
  · cases hr
/-! impl.made -/
noncomputable def impl_made_l2_T (v582 : Int) (v584 : Int) (v585 : List Nat) (v677 : Int) (v679 : Int) (v680 : Int) (s : Int × (List Nat)) : Tree ((Int × (List Nat)) ⊕ ((List Nat))) :=
  (.br (decide (s.1 < v582)) (
   (.call (impl_ExpMatrix_1_g v677 s.1 v584 v585) fun v682 =>
   (.call (impl_Matrix_set_g v680 s.2 v677 s.1) fun v683 =>
   (.grd (decide ((List.set s.2 (Int.toNat (IntKind.i64.wrap ((IntKind.i64.wrap (v677 * v680)) + s.1))) v682).length = s.2.length)) <|
   .leaf (.inl (IntKind.i64.wrap (s.1 + (1 : Int)), List.set s.2 (Int.toNat (IntKind.i64.wrap ((IntKind.i64.wrap (v677 * v680)) + s.1))) v682)))))
  ) (
   .leaf (.inr s.2)
  ))

noncomputable def impl_made_l2_g (v582 : Int) (v584 : Int) (v585 : List Nat) (v677 : Int) (v679 : Int) (v680 : Int) (s0 : Int × (List Nat)) : Option ((List Nat)) := whileM (fun s => (impl_made_l2_T v582 v584 v585 v677 v679 v680 s).run) s0
def impl_made_l2_E (v581 : Int) (v582 : Int) (v583 : Int) (v584 : Int) (v585 : List Nat) (v677 : Int) (v679 : Int) (v680 : Int) (s : Int × (List Nat)) : Sd := ([.top, .int .i64 v582, .fn 92 [.bptr (BR.root 0) [.int .i64 v583, .int .i64 v584, .bslc (BR.root 1) (.f32 v585)]], .top, .top, .top, .ptr 0 (0 : Nat) 0 (3 : Nat), .ptr 1 (0 : Nat) 0 (3 : Nat), .int .i64 v677, .top, .top, .top, .top, .int .i64 v581, .int .i64 v677, .top, .top, .int .i64 v582, .int .i64 s.1, .top, .top, .top, .top, .top, .top, .top, .top, .top, .top, .top, .top, .top], [.gen [.int .i64 (0 : Int), .int .i64 (0 : Int), .nilslc] false 0, .gen [.int .i64 v679, .int .i64 v680, .own 2 0 ((s.2).length)] false 0, .row (.f32 s.2) 0])
def impl_made_l2_X (v581 : Int) (v582 : Int) (v583 : Int) (v584 : Int) (v585 : List Nat) (v677 : Int) (v679 : Int) (v680 : Int) (x : (List Nat)) : Out := (.normal, [.top, .int .i64 v582, .fn 92 [.bptr (BR.root 0) [.int .i64 v583, .int .i64 v584, .bslc (BR.root 1) (.f32 v585)]], .top, .top, .top, .ptr 0 (0 : Nat) 0 (3 : Nat), .ptr 1 (0 : Nat) 0 (3 : Nat), .top, .top, .top, .top, .top, .int .i64 v581, .int .i64 v677, .top, .top, .top, .top, .top, .top, .top, .top, .top, .top, .top, .top, .top, .top, .top, .top, .top], [.gen [.int .i64 (0 : Int), .int .i64 (0 : Int), .nilslc] false 0, .gen [.int .i64 v679, .int .i64 v680, .own 2 0 ((x).length)] false 0, .row (.f32 x) 0])
def impl_made_l2_kill : List Nat := [1, 0, 0, 1, 1, 1, 0, 0, 0, 1, 1, 1, 1, 0, 0, 1, 1, 0, 0, 1, 1, 1, 1, 1, 1, 1, 1, 1, 1, 1, 1, 1]
def impl_made_l2_nx : Exit → List Nat
  | .exit 0 => [1, 1, 1, 1, 1, 1, 0, 0, 1, 1, 1, 1, 1, 1, 1, 1, 1, 1, 1, 1, 1, 1, 1, 1, 1, 1, 1, 1, 1, 1, 1, 1]
  | .exit 1 => [1, 0, 0, 1, 1, 1, 0, 0, 1, 1, 1, 1, 1, 0, 0, 1, 1, 1, 1, 1, 1, 1, 1, 1, 1, 1, 1, 1, 1, 1, 1, 1]
  | .exit 2 => [1, 0, 0, 1, 1, 1, 0, 0, 1, 1, 1, 1, 1, 0, 0, 1, 1, 1, 1, 1, 1, 1, 1, 1, 1, 1, 1, 1, 1, 1, 1, 1]
  | .ret => [1, 1, 1, 1, 1, 1, 0, 1, 1, 1, 1, 1, 1, 1, 1, 1, 1, 1, 1, 1, 1, 1, 1, 1, 1, 1, 1, 1, 1, 1, 1, 1]
  | _ => []
noncomputable def impl_made_l0_T (v581 : Int) (v582 : Int) (v583 : Int) (v584 : Int) (v585 : List Nat) (v660 : Int) (v661 : Int) (s : Int × (List Nat)) : Tree ((Int × (List Nat)) ⊕ ((List Nat))) :=
  (.br (decide (s.1 < v581)) (
   (.need (some (impl_made_l2_E v581 v582 v583 v584 v585 s.1 v660 v661 ((0 : Int), s.2)) = some (impl_made_l2_E v581 v582 v583 v584 v585 s.1 v660 v661 ((0 : Int), s.2))) <|
   (.call (impl_made_l2_g v582 v584 v585 s.1 v660 v661 ((0 : Int), s.2)) fun v684 =>
   .leaf (.inl (IntKind.i64.wrap (s.1 + (1 : Int)), v684))))
  ) (
   .leaf (.inr s.2)
  ))

noncomputable def impl_made_l0_g (v581 : Int) (v582 : Int) (v583 : Int) (v584 : Int) (v585 : List Nat) (v660 : Int) (v661 : Int) (s0 : Int × (List Nat)) : Option ((List Nat)) := whileM (fun s => (impl_made_l0_T v581 v582 v583 v584 v585 v660 v661 s).run) s0
def impl_made_l0_E (v581 : Int) (v582 : Int) (v583 : Int) (v584 : Int) (v585 : List Nat) (v660 : Int) (v661 : Int) (s : Int × (List Nat)) : Sd := ([.top, .int .i64 v582, .fn 92 [.bptr (BR.root 0) [.int .i64 v583, .int .i64 v584, .bslc (BR.root 1) (.f32 v585)]], .top, .top, .top, .ptr 0 (0 : Nat) 0 (3 : Nat), .ptr 1 (0 : Nat) 0 (3 : Nat), .top, .top, .top, .top, .top, .int .i64 v581, .int .i64 s.1, .top, .top, .top, .top, .top, .top, .top, .top, .top, .top, .top, .top, .top, .top, .top, .top, .top], [.gen [.int .i64 (0 : Int), .int .i64 (0 : Int), .nilslc] false 0, .gen [.int .i64 v660, .int .i64 v661, .own 2 0 ((s.2).length)] false 0, .row (.f32 s.2) 0])
def impl_made_l0_X (v581 : Int) (v582 : Int) (v583 : Int) (v584 : Int) (v585 : List Nat) (v660 : Int) (v661 : Int) (x : (List Nat)) : Out := (.normal, [.top, .top, .top, .top, .top, .top, .ptr 0 (0 : Nat) 0 (3 : Nat), .ptr 1 (0 : Nat) 0 (3 : Nat), .top, .top, .top, .top, .top, .top, .top, .top, .top, .top, .top, .top, .top, .top, .top, .top, .top, .top, .top, .top, .top, .top, .top, .top], [.gen [.int .i64 (0 : Int), .int .i64 (0 : Int), .nilslc] false 0, .gen [.int .i64 v660, .int .i64 v661, .own 2 0 ((x).length)] false 0, .row (.f32 x) 0])
def impl_made_l0_kill : List Nat := [1, 0, 0, 1, 1, 1, 0, 0, 1, 1, 1, 1, 1, 0, 0, 1, 1, 1, 1, 1, 1, 1, 1, 1, 1, 1, 1, 1, 1, 1, 1, 1]
def impl_made_l0_nx : Exit → List Nat
  | .exit 0 => [1, 1, 1, 1, 1, 1, 0, 0, 1, 1, 1, 1, 1, 1, 1, 1, 1, 1, 1, 1, 1, 1, 1, 1, 1, 1, 1, 1, 1, 1, 1, 1]
  | .ret => [1, 1, 1, 1, 1, 1, 0, 1, 1, 1, 1, 1, 1, 1, 1, 1, 1, 1, 1, 1, 1, 1, 1, 1, 1, 1, 1, 1, 1, 1, 1, 1]
  | _ => []
noncomputable def impl_made_LO (v581 : Int) (v582 : Int) (v583 : Int) (v584 : Int) (v585 : List Nat) : LOr := fun id e L =>
  match id with
  | 2 => .need (normA 0 impl_made_l2_kill e L = some (impl_made_l2_E v581 v582 v583 v584 v585 (gI (vAt e 8)) (gI (cAt L (vAt e 7) 0)) (gI (cAt L (vAt e 7) 1)) ((gI (vAt e 18)), (gRF L (cAt L (vAt e 7) 2))))) (.call (impl_made_l2_g v582 v584 v585 (gI (vAt e 8)) (gI (cAt L (vAt e 7) 0)) (gI (cAt L (vAt e 7) 1)) ((gI (vAt e 18)), (gRF L (cAt L (vAt e 7) 2)))) fun x => .leaf (impl_made_l2_X v581 v582 v583 v584 v585 (gI (vAt e 8)) (gI (cAt L (vAt e 7) 0)) (gI (cAt L (vAt e 7) 1)) x))
  | 0 => .need (normA 0 impl_made_l0_kill e L = some (impl_made_l0_E v581 v582 v583 v584 v585 (gI (cAt L (vAt e 7) 0)) (gI (cAt L (vAt e 7) 1)) ((gI (vAt e 14)), (gRF L (cAt L (vAt e 7) 2))))) (.call (impl_made_l0_g v581 v582 v583 v584 v585 (gI (cAt L (vAt e 7) 0)) (gI (cAt L (vAt e 7) 1)) ((gI (vAt e 14)), (gRF L (cAt L (vAt e 7) 2)))) fun x => .leaf (impl_made_l0_X v581 v582 v583 v584 v585 (gI (cAt L (vAt e 7) 0)) (gI (cAt L (vAt e 7) 1)) x))
  | _ => .fail
noncomputable def impl_made_tab : List (FuncId × DFn × Bool) := [(125, impl_newMatrix_F, true), (92, impl_ExpMatrix_1_F, true), (142, impl_Matrix_set_F, false)]
theorem impl_made_hO : OrcOk Try.prog (tabD impl_made_tab) (tabM impl_made_tab) := tabD_cons impl_newMatrix_Fok (tabD_cons impl_ExpMatrix_1_Fok (tabD_cons impl_Matrix_set_Fok (tabD_nil _)))
theorem impl_made_l2_be (v581 : Int) (v582 : Int) (v583 : Int) (v584 : Int) (v585 : List Nat) (v677 : Int) (v679 : Int) (v680 : Int) (s : Int × (List Nat)) : bodyT TT (tabD impl_made_tab) (tabM impl_made_tab) (impl_made_LO v581 v582 v583 v584 v585) 0 impl_made_l2_kill impl_made_l2_nx (bodyOf Try.f91 2) 2 (impl_made_l2_E v581 v582 v583 v584 v585 v677 v679 v680 s) = (impl_made_l2_T v582 v584 v585 v677 v679 v680 s).bind fun y => .leaf (outS (impl_made_l2_E v581 v582 v583 v584 v585 v677 v679 v680) (impl_made_l2_X v581 v582 v583 v584 v585 v677 v679 v680) y) := by kernel_rfl
theorem impl_made_l2_ok (v581 : Int) (v582 : Int) (v583 : Int) (v584 : Int) (v585 : List Nat) : LSound Try.prog 0 (impl_made_LO v581 v582 v583 v584 v585) 2 (bodyOf Try.f91 2) := by
  intro e L out h
  exact lo_ok (E := impl_made_l2_E v581 v582 v583 v584 v585 (gI (vAt e 8)) (gI (cAt L (vAt e 7) 0)) (gI (cAt L (vAt e 7) 1))) (gT := impl_made_l2_T v582 v584 v585 (gI (vAt e 8)) (gI (cAt L (vAt e 7) 0)) (gI (cAt L (vAt e 7) 1))) (X := impl_made_l2_X v581 v582 v583 v584 v585 (gI (vAt e 8)) (gI (cAt L (vAt e 7) 0)) (gI (cAt L (vAt e 7) 1))) (s0 := ((gI (vAt e 18)), (gRF L (cAt L (vAt e 7) 2)))) tok impl_made_hO mixed (LoopsOk_eq (l := []) (by kernel_rfl) trivial) (impl_made_l2_be v581 v582 v583 v584 v585 (gI (vAt e 8)) (gI (cAt L (vAt e 7) 0)) (gI (cAt L (vAt e 7) 1))) rfl (by intro x; rfl) h
theorem impl_made_l0_be (v581 : Int) (v582 : Int) (v583 : Int) (v584 : Int) (v585 : List Nat) (v660 : Int) (v661 : Int) (s : Int × (List Nat)) : bodyT TT (tabD impl_made_tab) (tabM impl_made_tab) (impl_made_LO v581 v582 v583 v584 v585) 0 impl_made_l0_kill impl_made_l0_nx (bodyOf Try.f91 0) 0 (impl_made_l0_E v581 v582 v583 v584 v585 v660 v661 s) = (impl_made_l0_T v581 v582 v583 v584 v585 v660 v661 s).bind fun y => .leaf (outS (impl_made_l0_E v581 v582 v583 v584 v585 v660 v661) (impl_made_l0_X v581 v582 v583 v584 v585 v660 v661) y) := by kernel_rfl
theorem impl_made_l0_ok (v581 : Int) (v582 : Int) (v583 : Int) (v584 : Int) (v585 : List Nat) : LSound Try.prog 0 (impl_made_LO v581 v582 v583 v584 v585) 0 (bodyOf Try.f91 0) := by
  intro e L out h
  exact lo_ok (E := impl_made_l0_E v581 v582 v583 v584 v585 (gI (cAt L (vAt e 7) 0)) (gI (cAt L (vAt e 7) 1))) (gT := impl_made_l0_T v581 v582 v583 v584 v585 (gI (cAt L (vAt e 7) 0)) (gI (cAt L (vAt e 7) 1))) (X := impl_made_l0_X v581 v582 v583 v584 v585 (gI (cAt L (vAt e 7) 0)) (gI (cAt L (vAt e 7) 1))) (s0 := ((gI (vAt e 14)), (gRF L (cAt L (vAt e 7) 2)))) tok impl_made_hO mixed (LoopsOk_eq (l := [(2, bodyOf Try.f91 2)]) (by kernel_rfl) ⟨impl_made_l2_ok v581 v582 v583 v584 v585, trivial⟩) (impl_made_l0_be v581 v582 v583 v584 v585 (gI (cAt L (vAt e 7) 0)) (gI (cAt L (vAt e 7) 1))) rfl (by intro x; rfl) h
noncomputable def impl_made_T (v581 : Int) (v582 : Int) (v583 : Int) (v584 : Int) (v585 : List Nat) : Tree (Int × Int × (List Nat)) :=
  (.call (impl_newMatrix_g v581 v582) fun v588 =>
  (.need (some (impl_made_l0_E v581 v582 v583 v584 v585 v588.1 v588.2 ((0 : Int), List.replicate (Int.toNat (IntKind.i64.wrap (v581 * v582))) (0 : Nat))) = some (impl_made_l0_E v581 v582 v583 v584 v585 v588.1 v588.2 ((0 : Int), List.replicate (Int.toNat (IntKind.i64.wrap (v581 * v582))) (0 : Nat)))) <|
  (.call (impl_made_l0_g v581 v582 v583 v584 v585 v588.1 v588.2 ((0 : Int), List.replicate (Int.toNat (IntKind.i64.wrap (v581 * v582))) (0 : Nat))) fun v685 =>
  .leaf (v588.1, v588.2, v685))))

noncomputable def impl_made_g (v581 : Int) (v582 : Int) (v583 : Int) (v584 : Int) (v585 : List Nat) : Option (Int × Int × (List Nat)) := (impl_made_T v581 v582 v583 v584 v585).run
def impl_made_enc (v581 : Int) (v582 : Int) (v583 : Int) (v584 : Int) (v585 : List Nat) (y : Int × Int × (List Nat)) : Rs := (.agg [.int .i64 y.1, .int .i64 y.2.1, .own 0 0 ((y.2.2).length)], [.row (.f32 y.2.2) 0])
theorem impl_made_den (v581 : Int) (v582 : Int) (v583 : Int) (v584 : Int) (v585 : List Nat) : (den TT (tabD impl_made_tab) (tabM impl_made_tab) (impl_made_LO v581 v582 v583 v584 v585) (codeOf Try.f91) ([.int .i64 v581, .int .i64 v582, .fn 92 [.bptr (BR.root 0) [.int .i64 v583, .int .i64 v584, .bslc (BR.root 1) (.f32 v585)]]] ++ List.replicate (Try.f91.ntmps - ([.int .i64 v581, .int .i64 v582, .fn 92 [.bptr (BR.root 0) [.int .i64 v583, .int .i64 v584, .bslc (BR.root 1) (.f32 v585)]]] : List DV).length) .undef) []).bind (retD TT Try.f91.results.toList 0) = (impl_made_T v581 v582 v583 v584 v585).bind fun y => .leaf (impl_made_enc v581 v582 v583 v584 v585 y) := by kernel_rfl
theorem impl_made_fn (v581 : Int) (v582 : Int) (v583 : Int) (v584 : Int) (v585 : List Nat) (F : Fr) (hm : F.ids.length = 0) (h0 : St F [] F.H0) (hA : DVs.Ok F [] [.int .i64 v581, .int .i64 v582, .fn 92 [.bptr (BR.root 0) [.int .i64 v583, .int .i64 v584, .bslc (BR.root 1) (.f32 v585)]]]) {y : Int × Int × (List Nat)} (hy : impl_made_g v581 v582 v583 v584 v585 = some y) : ∃ H', FnOk Try.prog 91 (DVs.av F [.int .i64 v581, .int .i64 v582, .fn 92 [.bptr (BR.root 0) [.int .i64 v583, .int .i64 v584, .bslc (BR.root 1) (.f32 v585)]]]) F.H0 ((impl_made_enc v581 v582 v583 v584 v585 y).1.av F) H' ∧ St F (impl_made_enc v581 v582 v583 v584 v585 y).2 H' ∧ (impl_made_enc v581 v582 v583 v584 v585 y).1.Ok F (impl_made_enc v581 v582 v583 v584 v585 y).2 :=
  fn_fin tok impl_made_hO mixed Try.func91 Try.call91 (by kernel_rfl) (LoopsOk_eq (l := [(0, bodyOf Try.f91 0)]) (by kernel_rfl) ⟨impl_made_l0_ok v581 v582 v583 v584 v585, trivial⟩) (impl_made_den v581 v582 v583 v584 v585) hy hm h0 hA
noncomputable def impl_made_F : DFn := fun args L =>
  match args with
  | [.int .i64 v581, .int .i64 v582, .fn 92 [a1]] =>
    optT (cellsOf L 3 a1) fun cs0 =>
    (match cs0 with
    | [.int .i64 v583, .int .i64 v584, a2] =>
    optT (rowF32 L a2) fun v585 =>
    .call (impl_made_g v581 v582 v583 v584 v585) fun y => .leaf (.agg [.int .i64 y.1, .int .i64 y.2.1, .own (L.length + 0) 0 ((y.2.2).length)], L ++ [.row (.f32 y.2.2) 0])
    | _ => .fail)
  | _ => .fail
theorem impl_made_Fok : COk Try.prog 91 impl_made_F true := by
  intro F L H args r L' hs ha hr
  unfold impl_made_F at hr
  split at hr
  · rename_i v581 v582 a1
    obtain ⟨cs0, hcp0, hr⟩ := optT_run hr
    split at hr
    · rename_i v583 v584 a2
      obtain ⟨v585, hv585, hr⟩ := optT_run hr
      simp only [Tree.run] at hr
      obtain ⟨y, hy, hr⟩ := Option.bind_eq_some_iff.1 hr
      simp only [Tree.run, Option.some.injEq, Prod.mk.injEq] at hr
      obtain ⟨rfl, rfl⟩ := hr
      exact call_ok1 hs (fun k => (([a1.av F, a2.av F] : List AV)[k]?).getD .top) [.int .i64 v581, .int .i64 v582, .fn 92 [a1]] [.int .i64 v581, .int .i64 v582, .fn 92 [.bptr (BR.root 0) [.int .i64 v583, .int .i64 v584, .bslc (BR.root 1) (.f32 v585)]]] (fun F' h0 hi hρ => ⟨by simp [DVs.av, DV.av, BR.av, hρ], impl_made_fn v581 v582 v583 v584 v585 F' (by rw [hi]; rfl) (st_nil hi) ⟨trivial, trivial, ⟨bptr_ok hi (by rw [h0]; simpa [DVs.av, DV.av, BR.av, hρ] using (cellsOf_ok hs (DVs.okAt (DVs.okAt ha 2 rfl) 0 rfl) hcp0).1) ⟨trivial, trivial, bslc_ok hi (by rw [h0, hρ]; exact rowF32_ok hs (DVs.okAt (cellsOf_ok hs (DVs.okAt (DVs.okAt ha 2 rfl) 0 rfl) hcp0).2 2 rfl) hv585), trivial⟩, trivial⟩, trivial⟩ hy⟩) rfl rfl
    · cases hr
  · cases hr
/-! impl.unit$1 -/
noncomputable def impl_unit_1_LO (v742 : Int) (v743 : Int) : LOr := fun id e L =>
  match id with
  | _ => .fail
noncomputable def impl_unit_1_tab : List (FuncId × DFn × Bool) := []
theorem impl_unit_1_hO : OrcOk Try.prog (tabD impl_unit_1_tab) (tabM impl_unit_1_tab) := tabD_nil _
noncomputable def impl_unit_1_T (v742 : Int) (v743 : Int) : Tree (Nat) :=
  (.br (decide (v742 = v743)) (
   .leaf (1065353216 : Nat)
  ) (
   .leaf (0 : Nat)
  ))

noncomputable def impl_unit_1_g (v742 : Int) (v743 : Int) : Option (Nat) := (impl_unit_1_T v742 v743).run
def impl_unit_1_enc (v742 : Int) (v743 : Int) (y : Nat) : Rs := (.flt .f32 y, [])
theorem impl_unit_1_den (v742 : Int) (v743 : Int) : (den TT (tabD impl_unit_1_tab) (tabM impl_unit_1_tab) (impl_unit_1_LO v742 v743) (codeOf Try.f143) ([.int .i64 v742, .int .i64 v743] ++ List.replicate (Try.f143.ntmps - ([.int .i64 v742, .int .i64 v743] : List DV).length) .undef) []).bind (retD TT Try.f143.results.toList 0) = (impl_unit_1_T v742 v743).bind fun y => .leaf (impl_unit_1_enc v742 v743 y) := by kernel_rfl
theorem impl_unit_1_fn (v742 : Int) (v743 : Int) (F : Fr) (hm : F.ids.length = 0) (h0 : St F [] F.H0) (hA : DVs.Ok F [] [.int .i64 v742, .int .i64 v743]) {y : Nat} (hy : impl_unit_1_g v742 v743 = some y) : ∃ H', FnOk Try.prog 143 (DVs.av F [.int .i64 v742, .int .i64 v743]) F.H0 ((impl_unit_1_enc v742 v743 y).1.av F) H' ∧ St F (impl_unit_1_enc v742 v743 y).2 H' ∧ (impl_unit_1_enc v742 v743 y).1.Ok F (impl_unit_1_enc v742 v743 y).2 :=
  fn_fin tok impl_unit_1_hO mixed Try.func143 Try.call143 (by kernel_rfl) (LoopsOk_eq (l := []) (by kernel_rfl) trivial) (impl_unit_1_den v742 v743) hy hm h0 hA
def impl_unit_1_v (v742 : Int) (v743 : Int) : Nat :=
  if (decide (v742 = v743)) = true then (
   (1065353216 : Nat)
  ) else (
   (0 : Nat)
  )
theorem impl_unit_1_tot (v742 : Int) (v743 : Int) : impl_unit_1_g v742 v743 = some (impl_unit_1_v v742 v743) := by
  unfold impl_unit_1_g impl_unit_1_T impl_unit_1_v
  simp only [Tree.run]
  repeat' (first | rfl | split)
noncomputable def impl_unit_1_F : DFn := fun args L =>
  match args with
  | [.int .i64 v742, .int .i64 v743] =>
    .leaf (.flt .f32 (impl_unit_1_v v742 v743), L)
  | _ => .fail
theorem impl_unit_1_Fok : COk Try.prog 143 impl_unit_1_F true := by
  intro F L H args r L' hs ha hr
  unfold impl_unit_1_F at hr
  split at hr
  · rename_i v742 v743
    have hy := impl_unit_1_tot v742 v743
    generalize impl_unit_1_v v742 v743 = y at hy hr
    simp only [Tree.run, Option.some.injEq, Prod.mk.injEq] at hr
    obtain ⟨rfl, rfl⟩ := hr
    exact call_ok0 hs (fun k => (([] : List AV)[k]?).getD .top) [.int .i64 v742, .int .i64 v743] [.int .i64 v742, .int .i64 v743] (fun F' h0 hi hρ => ⟨by simp [DVs.av, DV.av, BR.av, hρ], impl_unit_1_fn v742 v743 F' (by rw [hi]; rfl) (st_nil hi) ⟨trivial, trivial, trivial⟩ hy⟩) rfl
  · cases hr
/-! impl.made -/
noncomputable def impl_made_i1_l2_T (v733 : Int) (v797 : Int) (v799 : Int) (v800 : Int) (s : Int × (List Nat)) : Tree ((Int × (List Nat)) ⊕ ((List Nat))) :=
  (.br (decide (s.1 < v733)) (
   (.call (impl_Matrix_set_g v800 s.2 v797 s.1) fun v802 =>
   (.grd (decide ((List.set s.2 (Int.toNat (IntKind.i64.wrap ((IntKind.i64.wrap (v797 * v800)) + s.1))) (impl_unit_1_v v797 s.1)).length = s.2.length)) <|
   .leaf (.inl (IntKind.i64.wrap (s.1 + (1 : Int)), List.set s.2 (Int.toNat (IntKind.i64.wrap ((IntKind.i64.wrap (v797 * v800)) + s.1))) (impl_unit_1_v v797 s.1)))))
  ) (
   .leaf (.inr s.2)
  ))

noncomputable def impl_made_i1_l2_g (v733 : Int) (v797 : Int) (v799 : Int) (v800 : Int) (s0 : Int × (List Nat)) : Option ((List Nat)) := whileM (fun s => (impl_made_i1_l2_T v733 v797 v799 v800 s).run) s0
def impl_made_i1_l2_E (v732 : Int) (v733 : Int) (v797 : Int) (v799 : Int) (v800 : Int) (s : Int × (List Nat)) : Sd := ([.top, .int .i64 v733, .fn 143 [], .top, .top, .top, .ptr 0 (0 : Nat) 0 (3 : Nat), .ptr 1 (0 : Nat) 0 (3 : Nat), .int .i64 v797, .top, .top, .top, .top, .int .i64 v732, .int .i64 v797, .top, .top, .int .i64 v733, .int .i64 s.1, .top, .top, .top, .top, .top, .top, .top, .top, .top, .top, .top, .top, .top], [.gen [.int .i64 (0 : Int), .int .i64 (0 : Int), .nilslc] false 0, .gen [.int .i64 v799, .int .i64 v800, .own 2 0 ((s.2).length)] false 0, .row (.f32 s.2) 0])
def impl_made_i1_l2_X (v732 : Int) (v733 : Int) (v797 : Int) (v799 : Int) (v800 : Int) (x : (List Nat)) : Out := (.normal, [.top, .int .i64 v733, .fn 143 [], .top, .top, .top, .ptr 0 (0 : Nat) 0 (3 : Nat), .ptr 1 (0 : Nat) 0 (3 : Nat), .top, .top, .top, .top, .top, .int .i64 v732, .int .i64 v797, .top, .top, .top, .top, .top, .top, .top, .top, .top, .top, .top, .top, .top, .top, .top, .top, .top], [.gen [.int .i64 (0 : Int), .int .i64 (0 : Int), .nilslc] false 0, .gen [.int .i64 v799, .int .i64 v800, .own 2 0 ((x).length)] false 0, .row (.f32 x) 0])
def impl_made_i1_l2_kill : List Nat := [1, 0, 0, 1, 1, 1, 0, 0, 0, 1, 1, 1, 1, 0, 0, 1, 1, 0, 0, 1, 1, 1, 1, 1, 1, 1, 1, 1, 1, 1, 1, 1]
def impl_made_i1_l2_nx : Exit → List Nat
  | .exit 0 => [1, 1, 1, 1, 1, 1, 0, 0, 1, 1, 1, 1, 1, 1, 1, 1, 1, 1, 1, 1, 1, 1, 1, 1, 1, 1, 1, 1, 1, 1, 1, 1]
  | .exit 1 => [1, 0, 0, 1, 1, 1, 0, 0, 1, 1, 1, 1, 1, 0, 0, 1, 1, 1, 1, 1, 1, 1, 1, 1, 1, 1, 1, 1, 1, 1, 1, 1]
  | .exit 2 => [1, 0, 0, 1, 1, 1, 0, 0, 1, 1, 1, 1, 1, 0, 0, 1, 1, 1, 1, 1, 1, 1, 1, 1, 1, 1, 1, 1, 1, 1, 1, 1]
  | .ret => [1, 1, 1, 1, 1, 1, 0, 1, 1, 1, 1, 1, 1, 1, 1, 1, 1, 1, 1, 1, 1, 1, 1, 1, 1, 1, 1, 1, 1, 1, 1, 1]
  | _ => []
noncomputable def impl_made_i1_l0_T (v732 : Int) (v733 : Int) (v782 : Int) (v783 : Int) (s : Int × (List Nat)) : Tree ((Int × (List Nat)) ⊕ ((List Nat))) :=
  (.br (decide (s.1 < v732)) (
   (.need (some (impl_made_i1_l2_E v732 v733 s.1 v782 v783 ((0 : Int), s.2)) = some (impl_made_i1_l2_E v732 v733 s.1 v782 v783 ((0 : Int), s.2))) <|
   (.call (impl_made_i1_l2_g v733 s.1 v782 v783 ((0 : Int), s.2)) fun v803 =>
   .leaf (.inl (IntKind.i64.wrap (s.1 + (1 : Int)), v803))))
  ) (
   .leaf (.inr s.2)
  ))

noncomputable def impl_made_i1_l0_g (v732 : Int) (v733 : Int) (v782 : Int) (v783 : Int) (s0 : Int × (List Nat)) : Option ((List Nat)) := whileM (fun s => (impl_made_i1_l0_T v732 v733 v782 v783 s).run) s0
def impl_made_i1_l0_E (v732 : Int) (v733 : Int) (v782 : Int) (v783 : Int) (s : Int × (List Nat)) : Sd := ([.top, .int .i64 v733, .fn 143 [], .top, .top, .top, .ptr 0 (0 : Nat) 0 (3 : Nat), .ptr 1 (0 : Nat) 0 (3 : Nat), .top, .top, .top, .top, .top, .int .i64 v732, .int .i64 s.1, .top, .top, .top, .top, .top, .top, .top, .top, .top, .top, .top, .top, .top, .top, .top, .top, .top], [.gen [.int .i64 (0 : Int), .int .i64 (0 : Int), .nilslc] false 0, .gen [.int .i64 v782, .int .i64 v783, .own 2 0 ((s.2).length)] false 0, .row (.f32 s.2) 0])
def impl_made_i1_l0_X (v732 : Int) (v733 : Int) (v782 : Int) (v783 : Int) (x : (List Nat)) : Out := (.normal, [.top, .top, .top, .top, .top, .top, .ptr 0 (0 : Nat) 0 (3 : Nat), .ptr 1 (0 : Nat) 0 (3 : Nat), .top, .top, .top, .top, .top, .top, .top, .top, .top, .top, .top, .top, .top, .top, .top, .top, .top, .top, .top, .top, .top, .top, .top, .top], [.gen [.int .i64 (0 : Int), .int .i64 (0 : Int), .nilslc] false 0, .gen [.int .i64 v782, .int .i64 v783, .own 2 0 ((x).length)] false 0, .row (.f32 x) 0])
def impl_made_i1_l0_kill : List Nat := [1, 0, 0, 1, 1, 1, 0, 0, 1, 1, 1, 1, 1, 0, 0, 1, 1, 1, 1, 1, 1, 1, 1, 1, 1, 1, 1, 1, 1, 1, 1, 1]
def impl_made_i1_l0_nx : Exit → List Nat
  | .exit 0 => [1, 1, 1, 1, 1, 1, 0, 0, 1, 1, 1, 1, 1, 1, 1, 1, 1, 1, 1, 1, 1, 1, 1, 1, 1, 1, 1, 1, 1, 1, 1, 1]
  | .ret => [1, 1, 1, 1, 1, 1, 0, 1, 1, 1, 1, 1, 1, 1, 1, 1, 1, 1, 1, 1, 1, 1, 1, 1, 1, 1, 1, 1, 1, 1, 1, 1]
  | _ => []
noncomputable def impl_made_i1_LO (v732 : Int) (v733 : Int) : LOr := fun id e L =>
  match id with
  | 2 => .need (normA 0 impl_made_i1_l2_kill e L = some (impl_made_i1_l2_E v732 v733 (gI (vAt e 8)) (gI (cAt L (vAt e 7) 0)) (gI (cAt L (vAt e 7) 1)) ((gI (vAt e 18)), (gRF L (cAt L (vAt e 7) 2))))) (.call (impl_made_i1_l2_g v733 (gI (vAt e 8)) (gI (cAt L (vAt e 7) 0)) (gI (cAt L (vAt e 7) 1)) ((gI (vAt e 18)), (gRF L (cAt L (vAt e 7) 2)))) fun x => .leaf (impl_made_i1_l2_X v732 v733 (gI (vAt e 8)) (gI (cAt L (vAt e 7) 0)) (gI (cAt L (vAt e 7) 1)) x))
  | 0 => .need (normA 0 impl_made_i1_l0_kill e L = some (impl_made_i1_l0_E v732 v733 (gI (cAt L (vAt e 7) 0)) (gI (cAt L (vAt e 7) 1)) ((gI (vAt e 14)), (gRF L (cAt L (vAt e 7) 2))))) (.call (impl_made_i1_l0_g v732 v733 (gI (cAt L (vAt e 7) 0)) (gI (cAt L (vAt e 7) 1)) ((gI (vAt e 14)), (gRF L (cAt L (vAt e 7) 2)))) fun x => .leaf (impl_made_i1_l0_X v732 v733 (gI (cAt L (vAt e 7) 0)) (gI (cAt L (vAt e 7) 1)) x))
  | _ => .fail
noncomputable def impl_made_i1_tab : List (FuncId × DFn × Bool) := [(125, impl_newMatrix_F, true), (143, impl_unit_1_F, true), (142, impl_Matrix_set_F, false)]
theorem impl_made_i1_hO : OrcOk Try.prog (tabD impl_made_i1_tab) (tabM impl_made_i1_tab) := tabD_cons impl_newMatrix_Fok (tabD_cons impl_unit_1_Fok (tabD_cons impl_Matrix_set_Fok (tabD_nil _)))
theorem impl_made_i1_l2_be (v732 : Int) (v733 : Int) (v797 : Int) (v799 : Int) (v800 : Int) (s : Int × (List Nat)) : bodyT TT (tabD impl_made_i1_tab) (tabM impl_made_i1_tab) (impl_made_i1_LO v732 v733) 0 impl_made_i1_l2_kill impl_made_i1_l2_nx (bodyOf Try.f91 2) 2 (impl_made_i1_l2_E v732 v733 v797 v799 v800 s) = (impl_made_i1_l2_T v733 v797 v799 v800 s).bind fun y => .leaf (outS (impl_made_i1_l2_E v732 v733 v797 v799 v800) (impl_made_i1_l2_X v732 v733 v797 v799 v800) y) := by kernel_rfl
theorem impl_made_i1_l2_ok (v732 : Int) (v733 : Int) : LSound Try.prog 0 (impl_made_i1_LO v732 v733) 2 (bodyOf Try.f91 2) := by
  intro e L out h
  exact lo_ok (E := impl_made_i1_l2_E v732 v733 (gI (vAt e 8)) (gI (cAt L (vAt e 7) 0)) (gI (cAt L (vAt e 7) 1))) (gT := impl_made_i1_l2_T v733 (gI (vAt e 8)) (gI (cAt L (vAt e 7) 0)) (gI (cAt L (vAt e 7) 1))) (X := impl_made_i1_l2_X v732 v733 (gI (vAt e 8)) (gI (cAt L (vAt e 7) 0)) (gI (cAt L (vAt e 7) 1))) (s0 := ((gI (vAt e 18)), (gRF L (cAt L (vAt e 7) 2)))) tok impl_made_i1_hO mixed (LoopsOk_eq (l := []) (by kernel_rfl) trivial) (impl_made_i1_l2_be v732 v733 (gI (vAt e 8)) (gI (cAt L (vAt e 7) 0)) (gI (cAt L (vAt e 7) 1))) rfl (by intro x; rfl) h
theorem impl_made_i1_l0_be (v732 : Int) (v733 : Int) (v782 : Int) (v783 : Int) (s : Int × (List Nat)) : bodyT TT (tabD impl_made_i1_tab) (tabM impl_made_i1_tab) (impl_made_i1_LO v732 v733) 0 impl_made_i1_l0_kill impl_made_i1_l0_nx (bodyOf Try.f91 0) 0 (impl_made_i1_l0_E v732 v733 v782 v783 s) = (impl_made_i1_l0_T v732 v733 v782 v783 s).bind fun y => .leaf (outS (impl_made_i1_l0_E v732 v733 v782 v783) (impl_made_i1_l0_X v732 v733 v782 v783) y) := by kernel_rfl
theorem impl_made_i1_l0_ok (v732 : Int) (v733 : Int) : LSound Try.prog 0 (impl_made_i1_LO v732 v733) 0 (bodyOf Try.f91 0) := by
  intro e L out h
  exact lo_ok (E := impl_made_i1_l0_E v732 v733 (gI (cAt L (vAt e 7) 0)) (gI (cAt L (vAt e 7) 1))) (gT := impl_made_i1_l0_T v732 v733 (gI (cAt L (vAt e 7) 0)) (gI (cAt L (vAt e 7) 1))) (X := impl_made_i1_l0_X v732 v733 (gI (cAt L (vAt e 7) 0)) (gI (cAt L (vAt e 7) 1))) (s0 := ((gI (vAt e 14)), (gRF L (cAt L (vAt e 7) 2)))) tok impl_made_i1_hO mixed (LoopsOk_eq (l := [(2, bodyOf Try.f91 2)]) (by kernel_rfl) ⟨impl_made_i1_l2_ok v732 v733, trivial⟩) (impl_made_i1_l0_be v732 v733 (gI (cAt L (vAt e 7) 0)) (gI (cAt L (vAt e 7) 1))) rfl (by intro x; rfl) h
noncomputable def impl_made_i1_T (v732 : Int) (v733 : Int) : Tree (Int × Int × (List Nat)) :=
  (.call (impl_newMatrix_g v732 v733) fun v734 =>
  (.need (some (impl_made_i1_l0_E v732 v733 v734.1 v734.2 ((0 : Int), List.replicate (Int.toNat (IntKind.i64.wrap (v732 * v733))) (0 : Nat))) = some (impl_made_i1_l0_E v732 v733 v734.1 v734.2 ((0 : Int), List.replicate (Int.toNat (IntKind.i64.wrap (v732 * v733))) (0 : Nat)))) <|
  (.call (impl_made_i1_l0_g v732 v733 v734.1 v734.2 ((0 : Int), List.replicate (Int.toNat (IntKind.i64.wrap (v732 * v733))) (0 : Nat))) fun v804 =>
  .leaf (v734.1, v734.2, v804))))

noncomputable def impl_made_i1_g (v732 : Int) (v733 : Int) : Option (Int × Int × (List Nat)) := (impl_made_i1_T v732 v733).run
def impl_made_i1_enc (v732 : Int) (v733 : Int) (y : Int × Int × (List Nat)) : Rs := (.agg [.int .i64 y.1, .int .i64 y.2.1, .own 0 0 ((y.2.2).length)], [.row (.f32 y.2.2) 0])
theorem impl_made_i1_den (v732 : Int) (v733 : Int) : (den TT (tabD impl_made_i1_tab) (tabM impl_made_i1_tab) (impl_made_i1_LO v732 v733) (codeOf Try.f91) ([.int .i64 v732, .int .i64 v733, .fn 143 []] ++ List.replicate (Try.f91.ntmps - ([.int .i64 v732, .int .i64 v733, .fn 143 []] : List DV).length) .undef) []).bind (retD TT Try.f91.results.toList 0) = (impl_made_i1_T v732 v733).bind fun y => .leaf (impl_made_i1_enc v732 v733 y) := by kernel_rfl
theorem impl_made_i1_fn (v732 : Int) (v733 : Int) (F : Fr) (hm : F.ids.length = 0) (h0 : St F [] F.H0) (hA : DVs.Ok F [] [.int .i64 v732, .int .i64 v733, .fn 143 []]) {y : Int × Int × (List Nat)} (hy : impl_made_i1_g v732 v733 = some y) : ∃ H', FnOk Try.prog 91 (DVs.av F [.int .i64 v732, .int .i64 v733, .fn 143 []]) F.H0 ((impl_made_i1_enc v732 v733 y).1.av F) H' ∧ St F (impl_made_i1_enc v732 v733 y).2 H' ∧ (impl_made_i1_enc v732 v733 y).1.Ok F (impl_made_i1_enc v732 v733 y).2 :=
  fn_fin tok impl_made_i1_hO mixed Try.func91 Try.call91 (by kernel_rfl) (LoopsOk_eq (l := [(0, bodyOf Try.f91 0)]) (by kernel_rfl) ⟨impl_made_i1_l0_ok v732 v733, trivial⟩) (impl_made_i1_den v732 v733) hy hm h0 hA
noncomputable def impl_made_i1_F : DFn := fun args L =>
  match args with
  | [.int .i64 v732, .int .i64 v733, .fn 143 []] =>
    .call (impl_made_i1_g v732 v733) fun y => .leaf (.agg [.int .i64 y.1, .int .i64 y.2.1, .own (L.length + 0) 0 ((y.2.2).length)], L ++ [.row (.f32 y.2.2) 0])
  | _ => .fail
theorem impl_made_i1_Fok : COk Try.prog 91 impl_made_i1_F true := by
  intro F L H args r L' hs ha hr
  unfold impl_made_i1_F at hr
  split at hr
  · rename_i v732 v733
    simp only [Tree.run] at hr
    obtain ⟨y, hy, hr⟩ := Option.bind_eq_some_iff.1 hr
    simp only [Tree.run, Option.some.injEq, Prod.mk.injEq] at hr
    obtain ⟨rfl, rfl⟩ := hr
    exact call_ok1 hs (fun k => (([] : List AV)[k]?).getD .top) [.int .i64 v732, .int .i64 v733, .fn 143 []] [.int .i64 v732, .int .i64 v733, .fn 143 []] (fun F' h0 hi hρ => ⟨by simp [DVs.av, DV.av, BR.av, hρ], impl_made_i1_fn v732 v733 F' (by rw [hi]; rfl) (st_nil hi) ⟨trivial, trivial, trivial, trivial⟩ hy⟩) rfl rfl
  · cases hr
/-! impl.unit -/
noncomputable def impl_unit_LO (v731 : Int) : LOr := fun id e L =>
  match id with
  | _ => .fail
noncomputable def impl_unit_tab : List (FuncId × DFn × Bool) := [(91, impl_made_i1_F, true)]
theorem impl_unit_hO : OrcOk Try.prog (tabD impl_unit_tab) (tabM impl_unit_tab) := tabD_cons impl_made_i1_Fok (tabD_nil _)
noncomputable def impl_unit_T (v731 : Int) : Tree (Int × Int × (List Nat)) :=
  (.call (impl_made_i1_g v731 v731) fun v805 =>
  .leaf (v805.1, v805.2.1, v805.2.2))

noncomputable def impl_unit_g (v731 : Int) : Option (Int × Int × (List Nat)) := (impl_unit_T v731).run
def impl_unit_enc (v731 : Int) (y : Int × Int × (List Nat)) : Rs := (.agg [.int .i64 y.1, .int .i64 y.2.1, .own 0 0 ((y.2.2).length)], [.row (.f32 y.2.2) 0])
theorem impl_unit_den (v731 : Int) : (den TT (tabD impl_unit_tab) (tabM impl_unit_tab) (impl_unit_LO v731) (codeOf Try.f94) ([.int .i64 v731] ++ List.replicate (Try.f94.ntmps - ([.int .i64 v731] : List DV).length) .undef) []).bind (retD TT Try.f94.results.toList 0) = (impl_unit_T v731).bind fun y => .leaf (impl_unit_enc v731 y) := by kernel_rfl
theorem impl_unit_fn (v731 : Int) (F : Fr) (hm : F.ids.length = 0) (h0 : St F [] F.H0) (hA : DVs.Ok F [] [.int .i64 v731]) {y : Int × Int × (List Nat)} (hy : impl_unit_g v731 = some y) : ∃ H', FnOk Try.prog 94 (DVs.av F [.int .i64 v731]) F.H0 ((impl_unit_enc v731 y).1.av F) H' ∧ St F (impl_unit_enc v731 y).2 H' ∧ (impl_unit_enc v731 y).1.Ok F (impl_unit_enc v731 y).2 :=
  fn_fin tok impl_unit_hO mixed Try.func94 Try.call94 (by kernel_rfl) (LoopsOk_eq (l := []) (by kernel_rfl) trivial) (impl_unit_den v731) hy hm h0 hA
noncomputable def impl_unit_F : DFn := fun args L =>
  match args with
  | [.int .i64 v731] =>
    .call (impl_unit_g v731) fun y => .leaf (.agg [.int .i64 y.1, .int .i64 y.2.1, .own (L.length + 0) 0 ((y.2.2).length)], L ++ [.row (.f32 y.2.2) 0])
  | _ => .fail
theorem impl_unit_Fok : COk Try.prog 94 impl_unit_F true := by
  intro F L H args r L' hs ha hr
  unfold impl_unit_F at hr
  split at hr
  · rename_i v731
    simp only [Tree.run] at hr
    obtain ⟨y, hy, hr⟩ := Option.bind_eq_some_iff.1 hr
    simp only [Tree.run, Option.some.injEq, Prod.mk.injEq] at hr
    obtain ⟨rfl, rfl⟩ := hr
    exact call_ok1 hs (fun k => (([] : List AV)[k]?).getD .top) [.int .i64 v731] [.int .i64 v731] (fun F' h0 hi hρ => ⟨by simp [DVs.av, DV.av, BR.av, hρ], impl_unit_fn v731 F' (by rw [hi]; rfl) (st_nil hi) ⟨trivial, trivial⟩ hy⟩) rfl rfl
  · cases hr
/-! impl.areFactors -/
noncomputable def impl_areFactors_LO (v823 : Int) (v824 : Int) (v825 : List Nat) (v826 : Int) (v827 : Int) (v828 : List Nat) : LOr := fun id e L =>
  match id with
  | _ => .fail
noncomputable def impl_areFactors_tab : List (FuncId × DFn × Bool) := [(98, impl_ValidMatrix_F, true)]
theorem impl_areFactors_hO : OrcOk Try.prog (tabD impl_areFactors_tab) (tabM impl_areFactors_tab) := tabD_cons impl_ValidMatrix_Fok (tabD_nil _)
noncomputable def impl_areFactors_T (v823 : Int) (v824 : Int) (v825 : List Nat) (v826 : Int) (v827 : Int) (v828 : List Nat) : Tree (Bool) :=
  (.call (impl_ValidMatrix_g v823 v824 v825) fun v829 =>
  (.br v829 (
   (.call (impl_ValidMatrix_g v826 v827 v828) fun v830 =>
   (.br v830 (
    .leaf (decide (v824 = v826))
   ) (
    .leaf false
   )))
  ) (
   .leaf false
  )))

noncomputable def impl_areFactors_g (v823 : Int) (v824 : Int) (v825 : List Nat) (v826 : Int) (v827 : Int) (v828 : List Nat) : Option (Bool) := (impl_areFactors_T v823 v824 v825 v826 v827 v828).run
def impl_areFactors_enc (v823 : Int) (v824 : Int) (v825 : List Nat) (v826 : Int) (v827 : Int) (v828 : List Nat) (y : Bool) : Rs := (.bool y, [])
theorem impl_areFactors_den (v823 : Int) (v824 : Int) (v825 : List Nat) (v826 : Int) (v827 : Int) (v828 : List Nat) : (den TT (tabD impl_areFactors_tab) (tabM impl_areFactors_tab) (impl_areFactors_LO v823 v824 v825 v826 v827 v828) (codeOf Try.f144) ([.agg [.int .i64 v823, .int .i64 v824, .bslc (BR.root 0) (.f32 v825)], .agg [.int .i64 v826, .int .i64 v827, .bslc (BR.root 1) (.f32 v828)]] ++ List.replicate (Try.f144.ntmps - ([.agg [.int .i64 v823, .int .i64 v824, .bslc (BR.root 0) (.f32 v825)], .agg [.int .i64 v826, .int .i64 v827, .bslc (BR.root 1) (.f32 v828)]] : List DV).length) .undef) []).bind (retD TT Try.f144.results.toList 0) = (impl_areFactors_T v823 v824 v825 v826 v827 v828).bind fun y => .leaf (impl_areFactors_enc v823 v824 v825 v826 v827 v828 y) := by kernel_rfl
theorem impl_areFactors_fn (v823 : Int) (v824 : Int) (v825 : List Nat) (v826 : Int) (v827 : Int) (v828 : List Nat) (F : Fr) (hm : F.ids.length = 0) (h0 : St F [] F.H0) (hA : DVs.Ok F [] [.agg [.int .i64 v823, .int .i64 v824, .bslc (BR.root 0) (.f32 v825)], .agg [.int .i64 v826, .int .i64 v827, .bslc (BR.root 1) (.f32 v828)]]) {y : Bool} (hy : impl_areFactors_g v823 v824 v825 v826 v827 v828 = some y) : ∃ H', FnOk Try.prog 144 (DVs.av F [.agg [.int .i64 v823, .int .i64 v824, .bslc (BR.root 0) (.f32 v825)], .agg [.int .i64 v826, .int .i64 v827, .bslc (BR.root 1) (.f32 v828)]]) F.H0 ((impl_areFactors_enc v823 v824 v825 v826 v827 v828 y).1.av F) H' ∧ St F (impl_areFactors_enc v823 v824 v825 v826 v827 v828 y).2 H' ∧ (impl_areFactors_enc v823 v824 v825 v826 v827 v828 y).1.Ok F (impl_areFactors_enc v823 v824 v825 v826 v827 v828 y).2 :=
  fn_fin tok impl_areFactors_hO mixed Try.func144 Try.call144 (by kernel_rfl) (LoopsOk_eq (l := []) (by kernel_rfl) trivial) (impl_areFactors_den v823 v824 v825 v826 v827 v828) hy hm h0 hA
noncomputable def impl_areFactors_F : DFn := fun args L =>
  match args with
  | [.agg [.int .i64 v823, .int .i64 v824, a1], .agg [.int .i64 v826, .int .i64 v827, a2]] =>
    optT (rowF32 L a1) fun v825 =>
    optT (rowF32 L a2) fun v828 =>
    .call (impl_areFactors_g v823 v824 v825 v826 v827 v828) fun y => .leaf (.bool y, L)
  | _ => .fail
theorem impl_areFactors_Fok : COk Try.prog 144 impl_areFactors_F true := by
  intro F L H args r L' hs ha hr
  unfold impl_areFactors_F at hr
  split at hr
  · rename_i v823 v824 a1 v826 v827 a2
    obtain ⟨v825, hv825, hr⟩ := optT_run hr
    obtain ⟨v828, hv828, hr⟩ := optT_run hr
    simp only [Tree.run] at hr
    obtain ⟨y, hy, hr⟩ := Option.bind_eq_some_iff.1 hr
    simp only [Tree.run, Option.some.injEq, Prod.mk.injEq] at hr
    obtain ⟨rfl, rfl⟩ := hr
    exact call_ok0 hs (fun k => (([a1.av F, a2.av F] : List AV)[k]?).getD .top) [.agg [.int .i64 v823, .int .i64 v824, a1], .agg [.int .i64 v826, .int .i64 v827, a2]] [.agg [.int .i64 v823, .int .i64 v824, .bslc (BR.root 0) (.f32 v825)], .agg [.int .i64 v826, .int .i64 v827, .bslc (BR.root 1) (.f32 v828)]] (fun F' h0 hi hρ => ⟨by simp [DVs.av, DV.av, BR.av, hρ], impl_areFactors_fn v823 v824 v825 v826 v827 v828 F' (by rw [hi]; rfl) (st_nil hi) ⟨⟨trivial, trivial, bslc_ok hi (by rw [h0, hρ]; exact rowF32_ok hs (DVs.okAt (DVs.okAt ha 0 rfl) 2 rfl) hv825), trivial⟩, ⟨trivial, trivial, bslc_ok hi (by rw [h0, hρ]; exact rowF32_ok hs (DVs.okAt (DVs.okAt ha 1 rfl) 2 rfl) hv828), trivial⟩, trivial⟩ hy⟩) rfl
  · cases hr
/-! slices.Clone[list of float32,float32] -/
noncomputable def slices_CloneF_LO (v866 : List Nat) : LOr := fun id e L =>
  match id with
  | _ => .fail
noncomputable def slices_CloneF_tab : List (FuncId × DFn × Bool) := []
theorem slices_CloneF_hO : OrcOk Try.prog (tabD slices_CloneF_tab) (tabM slices_CloneF_tab) := tabD_nil _
noncomputable def slices_CloneF_T (v866 : List Nat) : Tree (Unit) :=
  (.grd (decide (0 < v866.length)) <|
  (.grd (fits (([] : List Nat) ++ v866).length) <|
  .leaf ()))

noncomputable def slices_CloneF_g (v866 : List Nat) : Option (Unit) := (slices_CloneF_T v866).run
def slices_CloneF_enc (v866 : List Nat) (y : Unit) : Rs := (.own 0 0 ((([] : List Nat) ++ v866).length), [.row (.f32 (([] : List Nat) ++ v866)) 0])
theorem slices_CloneF_den (v866 : List Nat) : (den TT (tabD slices_CloneF_tab) (tabM slices_CloneF_tab) (slices_CloneF_LO v866) (codeOf Try.f76) ([.bslc (BR.root 0) (.f32 v866)] ++ List.replicate (Try.f76.ntmps - ([.bslc (BR.root 0) (.f32 v866)] : List DV).length) .undef) []).bind (retD TT Try.f76.results.toList 0) = (slices_CloneF_T v866).bind fun y => .leaf (slices_CloneF_enc v866 y) := by kernel_rfl
theorem slices_CloneF_fn (v866 : List Nat) (F : Fr) (hm : F.ids.length = 0) (h0 : St F [] F.H0) (hA : DVs.Ok F [] [.bslc (BR.root 0) (.f32 v866)]) {y : Unit} (hy : slices_CloneF_g v866 = some y) : ∃ H', FnOk Try.prog 76 (DVs.av F [.bslc (BR.root 0) (.f32 v866)]) F.H0 ((slices_CloneF_enc v866 y).1.av F) H' ∧ St F (slices_CloneF_enc v866 y).2 H' ∧ (slices_CloneF_enc v866 y).1.Ok F (slices_CloneF_enc v866 y).2 :=
  fn_fin tok slices_CloneF_hO mixed Try.func76 Try.call76 (by kernel_rfl) (LoopsOk_eq (l := []) (by kernel_rfl) trivial) (slices_CloneF_den v866) hy hm h0 hA
noncomputable def slices_CloneF_F : DFn := fun args L =>
  match args with
  | [a1] =>
    optT (rowF32 L a1) fun v866 =>
    .call (slices_CloneF_g v866) fun y => .leaf (.own (L.length + 0) 0 ((([] : List Nat) ++ v866).length), L ++ [.row (.f32 (([] : List Nat) ++ v866)) 0])
  | _ => .fail
theorem slices_CloneF_Fok : COk Try.prog 76 slices_CloneF_F true := by
  intro F L H args r L' hs ha hr
  unfold slices_CloneF_F at hr
  split at hr
  · rename_i a1
    obtain ⟨v866, hv866, hr⟩ := optT_run hr
    simp only [Tree.run] at hr
    obtain ⟨y, hy, hr⟩ := Option.bind_eq_some_iff.1 hr
    simp only [Tree.run, Option.some.injEq, Prod.mk.injEq] at hr
    obtain ⟨rfl, rfl⟩ := hr
    exact call_ok1 hs (fun k => (([a1.av F] : List AV)[k]?).getD .top) [a1] [.bslc (BR.root 0) (.f32 v866)] (fun F' h0 hi hρ => ⟨by simp [DVs.av, DV.av, BR.av, hρ], slices_CloneF_fn v866 F' (by rw [hi]; rfl) (st_nil hi) ⟨bslc_ok hi (by rw [h0, hρ]; exact rowF32_ok hs (DVs.okAt ha 0 rfl) hv866), trivial⟩ hy⟩) rfl rfl
  · cases hr
/-! (impl.Matrix).row -/
noncomputable def impl_Matrix_row_LO (v862 : Int) (v863 : Int) (v864 : List Nat) (v865 : Int) : LOr := fun id e L =>
  match id with
  | _ => .fail
noncomputable def impl_Matrix_row_tab : List (FuncId × DFn × Bool) := [(76, slices_CloneF_F, true)]
theorem impl_Matrix_row_hO : OrcOk Try.prog (tabD impl_Matrix_row_tab) (tabM impl_Matrix_row_tab) := tabD_cons slices_CloneF_Fok (tabD_nil _)
noncomputable def impl_Matrix_row_T (v863 : Int) (v864 : List Nat) (v865 : Int) : Tree (Unit) :=
  (.grd (sok (IntKind.i64.wrap (v865 * v863)) (IntKind.i64.wrap ((IntKind.i64.wrap (v865 + (1 : Int))) * v863)) v864.length) <|
  (.call (slices_CloneF_g (AM.sub v864 (IntKind.i64.wrap (v865 * v863)) (IntKind.i64.wrap ((IntKind.i64.wrap (v865 + (1 : Int))) * v863)))) fun v867 =>
  .leaf ()))

noncomputable def impl_Matrix_row_g (v863 : Int) (v864 : List Nat) (v865 : Int) : Option (Unit) := (impl_Matrix_row_T v863 v864 v865).run
def impl_Matrix_row_enc (v862 : Int) (v863 : Int) (v864 : List Nat) (v865 : Int) (y : Unit) : Rs := (.own 0 0 ((([] : List Nat) ++ (AM.sub v864 (IntKind.i64.wrap (v865 * v863)) (IntKind.i64.wrap ((IntKind.i64.wrap (v865 + (1 : Int))) * v863)))).length), [.row (.f32 (([] : List Nat) ++ (AM.sub v864 (IntKind.i64.wrap (v865 * v863)) (IntKind.i64.wrap ((IntKind.i64.wrap (v865 + (1 : Int))) * v863))))) 0])
theorem impl_Matrix_row_den (v862 : Int) (v863 : Int) (v864 : List Nat) (v865 : Int) : (den TT (tabD impl_Matrix_row_tab) (tabM impl_Matrix_row_tab) (impl_Matrix_row_LO v862 v863 v864 v865) (codeOf Try.f168) ([.agg [.int .i64 v862, .int .i64 v863, .bslc (BR.root 0) (.f32 v864)], .int .i64 v865] ++ List.replicate (Try.f168.ntmps - ([.agg [.int .i64 v862, .int .i64 v863, .bslc (BR.root 0) (.f32 v864)], .int .i64 v865] : List DV).length) .undef) []).bind (retD TT Try.f168.results.toList 0) = (impl_Matrix_row_T v863 v864 v865).bind fun y => .leaf (impl_Matrix_row_enc v862 v863 v864 v865 y) := by kernel_rfl
theorem impl_Matrix_row_fn (v862 : Int) (v863 : Int) (v864 : List Nat) (v865 : Int) (F : Fr) (hm : F.ids.length = 0) (h0 : St F [] F.H0) (hA : DVs.Ok F [] [.agg [.int .i64 v862, .int .i64 v863, .bslc (BR.root 0) (.f32 v864)], .int .i64 v865]) {y : Unit} (hy : impl_Matrix_row_g v863 v864 v865 = some y) : ∃ H', FnOk Try.prog 168 (DVs.av F [.agg [.int .i64 v862, .int .i64 v863, .bslc (BR.root 0) (.f32 v864)], .int .i64 v865]) F.H0 ((impl_Matrix_row_enc v862 v863 v864 v865 y).1.av F) H' ∧ St F (impl_Matrix_row_enc v862 v863 v864 v865 y).2 H' ∧ (impl_Matrix_row_enc v862 v863 v864 v865 y).1.Ok F (impl_Matrix_row_enc v862 v863 v864 v865 y).2 :=
  fn_fin tok impl_Matrix_row_hO mixed Try.func168 Try.call168 (by kernel_rfl) (LoopsOk_eq (l := []) (by kernel_rfl) trivial) (impl_Matrix_row_den v862 v863 v864 v865) hy hm h0 hA
noncomputable def impl_Matrix_row_F : DFn := fun args L =>
  match args with
  | [.agg [.int .i64 v862, .int .i64 v863, a1], .int .i64 v865] =>
    optT (rowF32 L a1) fun v864 =>
    .call (impl_Matrix_row_g v863 v864 v865) fun y => .leaf (.own (L.length + 0) 0 ((([] : List Nat) ++ (AM.sub v864 (IntKind.i64.wrap (v865 * v863)) (IntKind.i64.wrap ((IntKind.i64.wrap (v865 + (1 : Int))) * v863)))).length), L ++ [.row (.f32 (([] : List Nat) ++ (AM.sub v864 (IntKind.i64.wrap (v865 * v863)) (IntKind.i64.wrap ((IntKind.i64.wrap (v865 + (1 : Int))) * v863))))) 0])
  | _ => .fail
theorem impl_Matrix_row_Fok : COk Try.prog 168 impl_Matrix_row_F true := by
  intro F L H args r L' hs ha hr
  unfold impl_Matrix_row_F at hr
  split at hr
  · rename_i v862 v863 a1 v865
    obtain ⟨v864, hv864, hr⟩ := optT_run hr
    simp only [Tree.run] at hr
    obtain ⟨y, hy, hr⟩ := Option.bind_eq_some_iff.1 hr
    simp only [Tree.run, Option.some.injEq, Prod.mk.injEq] at hr
    obtain ⟨rfl, rfl⟩ := hr
    exact call_ok1 hs (fun k => (([a1.av F] : List AV)[k]?).getD .top) [.agg [.int .i64 v862, .int .i64 v863, a1], .int .i64 v865] [.agg [.int .i64 v862, .int .i64 v863, .bslc (BR.root 0) (.f32 v864)], .int .i64 v865] (fun F' h0 hi hρ => ⟨by simp [DVs.av, DV.av, BR.av, hρ], impl_Matrix_row_fn v862 v863 v864 v865 F' (by rw [hi]; rfl) (st_nil hi) ⟨⟨trivial, trivial, bslc_ok hi (by rw [h0, hρ]; exact rowF32_ok hs (DVs.okAt (DVs.okAt ha 0 rfl) 2 rfl) hv864), trivial⟩, trivial, trivial⟩ hy⟩) rfl rfl
  · cases hr
/-! (impl.Matrix).column -/
noncomputable def impl_Matrix_column_l0_T (v869 : Int) (v870 : Int) (v871 : List Nat) (v872 : Int) (s : Int × (List Nat)) : Tree ((Int × (List Nat)) ⊕ ((List Nat))) :=
  (.br (decide (s.1 < v869)) (
   (.call (impl_Matrix_at_g v870 v871 s.1 v872) fun v880 =>
   (.grd (fits (s.2 ++ ([v880] : List Nat)).length) <|
   .leaf (.inl (IntKind.i64.wrap (s.1 + (1 : Int)), s.2 ++ ([v880] : List Nat)))))
  ) (
   .leaf (.inr s.2)
  ))

noncomputable def impl_Matrix_column_l0_g (v869 : Int) (v870 : Int) (v871 : List Nat) (v872 : Int) (s0 : Int × (List Nat)) : Option ((List Nat)) := whileM (fun s => (impl_Matrix_column_l0_T v869 v870 v871 v872 s).run) s0
def impl_Matrix_column_l0_E (v869 : Int) (v870 : Int) (v871 : List Nat) (v872 : Int) (s : Int × (List Nat)) : Sd := ([.top, .int .i64 v872, .ptr 0 (0 : Nat) 0 (3 : Nat), .top, .top, .own 1 0 ((s.2).length), .top, .top, .top, .int .i64 v869, .int .i64 s.1, .top, .top, .top, .top, .top, .top, .top, .top, .top, .top, .top], [.gen [.int .i64 v869, .int .i64 v870, .bslc (BR.root 0) (.f32 v871)] false 0, .row (.f32 s.2) 0])
def impl_Matrix_column_l0_X (v869 : Int) (v870 : Int) (v871 : List Nat) (v872 : Int) (x : (List Nat)) : Out := (.normal, [.top, .top, .top, .top, .top, .own 0 0 ((x).length), .top, .top, .top, .top, .top, .top, .top, .top, .top, .top, .top, .top, .top, .top, .top, .top], [.row (.f32 x) 0])
def impl_Matrix_column_l0_kill : List Nat := [1, 0, 0, 1, 1, 0, 1, 1, 1, 0, 0, 1, 1, 1, 1, 1, 1, 1, 1, 1, 1, 1]
def impl_Matrix_column_l0_nx : Exit → List Nat
  | .exit 0 => [1, 1, 1, 1, 1, 0, 1, 1, 1, 1, 1, 1, 1, 1, 1, 1, 1, 1, 1, 1, 1, 1]
  | .ret => [1, 1, 1, 1, 0, 1, 1, 1, 1, 1, 1, 1, 1, 1, 1, 1, 1, 1, 1, 1, 1, 1]
  | _ => []
noncomputable def impl_Matrix_column_LO (v869 : Int) (v870 : Int) (v871 : List Nat) (v872 : Int) : LOr := fun id e L =>
  match id with
  | 0 => .need (normA 0 impl_Matrix_column_l0_kill e L = some (impl_Matrix_column_l0_E v869 v870 v871 v872 ((gI (vAt e 10)), (gRF L (vAt e 5))))) (.call (impl_Matrix_column_l0_g v869 v870 v871 v872 ((gI (vAt e 10)), (gRF L (vAt e 5)))) fun x => .leaf (impl_Matrix_column_l0_X v869 v870 v871 v872 x))
  | _ => .fail
noncomputable def impl_Matrix_column_tab : List (FuncId × DFn × Bool) := [(93, impl_Matrix_at_F, true)]
theorem impl_Matrix_column_hO : OrcOk Try.prog (tabD impl_Matrix_column_tab) (tabM impl_Matrix_column_tab) := tabD_cons impl_Matrix_at_Fok (tabD_nil _)
theorem impl_Matrix_column_l0_be (v869 : Int) (v870 : Int) (v871 : List Nat) (v872 : Int) (s : Int × (List Nat)) : bodyT TT (tabD impl_Matrix_column_tab) (tabM impl_Matrix_column_tab) (impl_Matrix_column_LO v869 v870 v871 v872) 0 impl_Matrix_column_l0_kill impl_Matrix_column_l0_nx (bodyOf Try.f128 0) 0 (impl_Matrix_column_l0_E v869 v870 v871 v872 s) = (impl_Matrix_column_l0_T v869 v870 v871 v872 s).bind fun y => .leaf (outS (impl_Matrix_column_l0_E v869 v870 v871 v872) (impl_Matrix_column_l0_X v869 v870 v871 v872) y) := by kernel_rfl
theorem impl_Matrix_column_l0_ok (v869 : Int) (v870 : Int) (v871 : List Nat) (v872 : Int) : LSound Try.prog 0 (impl_Matrix_column_LO v869 v870 v871 v872) 0 (bodyOf Try.f128 0) := by
  intro e L out h
  exact lo_ok (E := impl_Matrix_column_l0_E v869 v870 v871 v872) (gT := impl_Matrix_column_l0_T v869 v870 v871 v872) (X := impl_Matrix_column_l0_X v869 v870 v871 v872) (s0 := ((gI (vAt e 10)), (gRF L (vAt e 5)))) tok impl_Matrix_column_hO mixed (LoopsOk_eq (l := []) (by kernel_rfl) trivial) (impl_Matrix_column_l0_be v869 v870 v871 v872) rfl (by intro x; rfl) h
noncomputable def impl_Matrix_column_T (v869 : Int) (v870 : Int) (v871 : List Nat) (v872 : Int) : Tree ((List Nat)) :=
  (.need (some (impl_Matrix_column_l0_E v869 v870 v871 v872 ((0 : Int), ([] : List Nat))) = some (impl_Matrix_column_l0_E v869 v870 v871 v872 ((0 : Int), ([] : List Nat)))) <|
  (.call (impl_Matrix_column_l0_g v869 v870 v871 v872 ((0 : Int), ([] : List Nat))) fun v881 =>
  .leaf v881))

noncomputable def impl_Matrix_column_g (v869 : Int) (v870 : Int) (v871 : List Nat) (v872 : Int) : Option ((List Nat)) := (impl_Matrix_column_T v869 v870 v871 v872).run
def impl_Matrix_column_enc (v869 : Int) (v870 : Int) (v871 : List Nat) (v872 : Int) (y : (List Nat)) : Rs := (.own 0 0 ((y).length), [.row (.f32 y) 0])
theorem impl_Matrix_column_den (v869 : Int) (v870 : Int) (v871 : List Nat) (v872 : Int) : (den TT (tabD impl_Matrix_column_tab) (tabM impl_Matrix_column_tab) (impl_Matrix_column_LO v869 v870 v871 v872) (codeOf Try.f128) ([.agg [.int .i64 v869, .int .i64 v870, .bslc (BR.root 0) (.f32 v871)], .int .i64 v872] ++ List.replicate (Try.f128.ntmps - ([.agg [.int .i64 v869, .int .i64 v870, .bslc (BR.root 0) (.f32 v871)], .int .i64 v872] : List DV).length) .undef) []).bind (retD TT Try.f128.results.toList 0) = (impl_Matrix_column_T v869 v870 v871 v872).bind fun y => .leaf (impl_Matrix_column_enc v869 v870 v871 v872 y) := by kernel_rfl
theorem impl_Matrix_column_fn (v869 : Int) (v870 : Int) (v871 : List Nat) (v872 : Int) (F : Fr) (hm : F.ids.length = 0) (h0 : St F [] F.H0) (hA : DVs.Ok F [] [.agg [.int .i64 v869, .int .i64 v870, .bslc (BR.root 0) (.f32 v871)], .int .i64 v872]) {y : (List Nat)} (hy : impl_Matrix_column_g v869 v870 v871 v872 = some y) : ∃ H', FnOk Try.prog 128 (DVs.av F [.agg [.int .i64 v869, .int .i64 v870, .bslc (BR.root 0) (.f32 v871)], .int .i64 v872]) F.H0 ((impl_Matrix_column_enc v869 v870 v871 v872 y).1.av F) H' ∧ St F (impl_Matrix_column_enc v869 v870 v871 v872 y).2 H' ∧ (impl_Matrix_column_enc v869 v870 v871 v872 y).1.Ok F (impl_Matrix_column_enc v869 v870 v871 v872 y).2 :=
  fn_fin tok impl_Matrix_column_hO mixed Try.func128 Try.call128 (by kernel_rfl) (LoopsOk_eq (l := [(0, bodyOf Try.f128 0)]) (by kernel_rfl) ⟨impl_Matrix_column_l0_ok v869 v870 v871 v872, trivial⟩) (impl_Matrix_column_den v869 v870 v871 v872) hy hm h0 hA
noncomputable def impl_Matrix_column_F : DFn := fun args L =>
  match args with
  | [.agg [.int .i64 v869, .int .i64 v870, a1], .int .i64 v872] =>
    optT (rowF32 L a1) fun v871 =>
    .call (impl_Matrix_column_g v869 v870 v871 v872) fun y => .leaf (.own (L.length + 0) 0 ((y).length), L ++ [.row (.f32 y) 0])
  | _ => .fail
theorem impl_Matrix_column_Fok : COk Try.prog 128 impl_Matrix_column_F true := by
  intro F L H args r L' hs ha hr
  unfold impl_Matrix_column_F at hr
  split at hr
  · rename_i v869 v870 a1 v872
    obtain ⟨v871, hv871, hr⟩ := optT_run hr
    simp only [Tree.run] at hr
    obtain ⟨y, hy, hr⟩ := Option.bind_eq_some_iff.1 hr
    simp only [Tree.run, Option.some.injEq, Prod.mk.injEq] at hr
    obtain ⟨rfl, rfl⟩ := hr
    exact call_ok1 hs (fun k => (([a1.av F] : List AV)[k]?).getD .top) [.agg [.int .i64 v869, .int .i64 v870, a1], .int .i64 v872] [.agg [.int .i64 v869, .int .i64 v870, .bslc (BR.root 0) (.f32 v871)], .int .i64 v872] (fun F' h0 hi hρ => ⟨by simp [DVs.av, DV.av, BR.av, hρ], impl_Matrix_column_fn v869 v870 v871 v872 F' (by rw [hi]; rfl) (st_nil hi) ⟨⟨trivial, trivial, bslc_ok hi (by rw [h0, hρ]; exact rowF32_ok hs (DVs.okAt (DVs.okAt ha 0 rfl) 2 rfl) hv871), trivial⟩, trivial, trivial⟩ hy⟩) rfl rfl
  · cases hr
/-! impl.dot -/
noncomputable def impl_dot_l0_T (v883 : List Nat) (v884 : List Nat) (s : Nat × Int) : Tree ((Nat × Int) ⊕ (Nat)) :=
  (.br (decide (s.2 < ((v883.length : Nat) : Int))) (
   (.grd (inb s.2 v883.length) <|
   (.grd (inb s.2 v884.length) <|
   .leaf (.inl (fadd .f32 s.1 (impl_mul_v (nth v883 (Int.toNat s.2)) (nth v884 (Int.toNat s.2))), IntKind.i64.wrap (s.2 + (1 : Int))))))
  ) (
   .leaf (.inr s.1)
  ))

noncomputable def impl_dot_l0_g (v883 : List Nat) (v884 : List Nat) (s0 : Nat × Int) : Option (Nat) := whileM (fun s => (impl_dot_l0_T v883 v884 s).run) s0
def impl_dot_l0_E (v883 : List Nat) (v884 : List Nat) (s : Nat × Int) : Sd := ([.top, .bslc (BR.root 1) (.f32 v884), .top, .top, .top, .flt .f32 s.1, .top, .top, .bslc (BR.root 0) (.f32 v883), .int .i64 ((v883.length : Nat) : Int), .int .i64 s.2, .top, .top, .top, .top, .top, .top, .top, .top, .top, .top, .top, .top, .top, .top], [])
def impl_dot_l0_X (v883 : List Nat) (v884 : List Nat) (x : Nat) : Out := (.normal, [.top, .top, .top, .top, .top, .flt .f32 x, .top, .top, .top, .top, .top, .top, .top, .top, .top, .top, .top, .top, .top, .top, .top, .top, .top, .top, .top], [])
def impl_dot_l0_kill : List Nat := [1, 0, 1, 1, 1, 0, 1, 1, 0, 0, 0, 1, 1, 1, 1, 1, 1, 1, 1, 1, 1, 1, 1, 1, 1]
def impl_dot_l0_nx : Exit → List Nat
  | .exit 0 => [1, 1, 1, 1, 1, 0, 1, 1, 1, 1, 1, 1, 1, 1, 1, 1, 1, 1, 1, 1, 1, 1, 1, 1, 1]
  | .ret => [1, 1, 1, 1, 0, 1, 1, 1, 1, 1, 1, 1, 1, 1, 1, 1, 1, 1, 1, 1, 1, 1, 1, 1, 1]
  | _ => []
noncomputable def impl_dot_LO (v883 : List Nat) (v884 : List Nat) : LOr := fun id e L =>
  match id with
  | 0 => .need (normA 0 impl_dot_l0_kill e L = some (impl_dot_l0_E v883 v884 ((gF (vAt e 5)), (gI (vAt e 10))))) (.call (impl_dot_l0_g v883 v884 ((gF (vAt e 5)), (gI (vAt e 10)))) fun x => .leaf (impl_dot_l0_X v883 v884 x))
  | _ => .fail
noncomputable def impl_dot_tab : List (FuncId × DFn × Bool) := [(80, impl_mul_F, true)]
theorem impl_dot_hO : OrcOk Try.prog (tabD impl_dot_tab) (tabM impl_dot_tab) := tabD_cons impl_mul_Fok (tabD_nil _)
theorem impl_dot_l0_be (v883 : List Nat) (v884 : List Nat) (s : Nat × Int) : bodyT TT (tabD impl_dot_tab) (tabM impl_dot_tab) (impl_dot_LO v883 v884) 0 impl_dot_l0_kill impl_dot_l0_nx (bodyOf Try.f167 0) 0 (impl_dot_l0_E v883 v884 s) = (impl_dot_l0_T v883 v884 s).bind fun y => .leaf (outS (impl_dot_l0_E v883 v884) (impl_dot_l0_X v883 v884) y) := by kernel_rfl
theorem impl_dot_l0_ok (v883 : List Nat) (v884 : List Nat) : LSound Try.prog 0 (impl_dot_LO v883 v884) 0 (bodyOf Try.f167 0) := by
  intro e L out h
  exact lo_ok (E := impl_dot_l0_E v883 v884) (gT := impl_dot_l0_T v883 v884) (X := impl_dot_l0_X v883 v884) (s0 := ((gF (vAt e 5)), (gI (vAt e 10)))) tok impl_dot_hO mixed (LoopsOk_eq (l := []) (by kernel_rfl) trivial) (impl_dot_l0_be v883 v884) rfl (by intro x; rfl) h
noncomputable def impl_dot_T (v883 : List Nat) (v884 : List Nat) : Tree (Nat) :=
  (.need (some (impl_dot_l0_E v883 v884 ((0 : Nat), (0 : Int))) = some (impl_dot_l0_E v883 v884 ((0 : Nat), (0 : Int)))) <|
  (.call (impl_dot_l0_g v883 v884 ((0 : Nat), (0 : Int))) fun v891 =>
  .leaf v891))

noncomputable def impl_dot_g (v883 : List Nat) (v884 : List Nat) : Option (Nat) := (impl_dot_T v883 v884).run
def impl_dot_enc (v883 : List Nat) (v884 : List Nat) (y : Nat) : Rs := (.flt .f32 y, [])
theorem impl_dot_den (v883 : List Nat) (v884 : List Nat) : (den TT (tabD impl_dot_tab) (tabM impl_dot_tab) (impl_dot_LO v883 v884) (codeOf Try.f167) ([.bslc (BR.root 0) (.f32 v883), .bslc (BR.root 1) (.f32 v884)] ++ List.replicate (Try.f167.ntmps - ([.bslc (BR.root 0) (.f32 v883), .bslc (BR.root 1) (.f32 v884)] : List DV).length) .undef) []).bind (retD TT Try.f167.results.toList 0) = (impl_dot_T v883 v884).bind fun y => .leaf (impl_dot_enc v883 v884 y) := by kernel_rfl
theorem impl_dot_fn (v883 : List Nat) (v884 : List Nat) (F : Fr) (hm : F.ids.length = 0) (h0 : St F [] F.H0) (hA : DVs.Ok F [] [.bslc (BR.root 0) (.f32 v883), .bslc (BR.root 1) (.f32 v884)]) {y : Nat} (hy : impl_dot_g v883 v884 = some y) : ∃ H', FnOk Try.prog 167 (DVs.av F [.bslc (BR.root 0) (.f32 v883), .bslc (BR.root 1) (.f32 v884)]) F.H0 ((impl_dot_enc v883 v884 y).1.av F) H' ∧ St F (impl_dot_enc v883 v884 y).2 H' ∧ (impl_dot_enc v883 v884 y).1.Ok F (impl_dot_enc v883 v884 y).2 :=
  fn_fin tok impl_dot_hO mixed Try.func167 Try.call167 (by kernel_rfl) (LoopsOk_eq (l := [(0, bodyOf Try.f167 0)]) (by kernel_rfl) ⟨impl_dot_l0_ok v883 v884, trivial⟩) (impl_dot_den v883 v884) hy hm h0 hA
noncomputable def impl_dot_F : DFn := fun args L =>
  match args with
  | [a1, a2] =>
    optT (rowF32 L a1) fun v883 =>
    optT (rowF32 L a2) fun v884 =>
    .call (impl_dot_g v883 v884) fun y => .leaf (.flt .f32 y, L)
  | _ => .fail
theorem impl_dot_Fok : COk Try.prog 167 impl_dot_F true := by
  intro F L H args r L' hs ha hr
  unfold impl_dot_F at hr
  split at hr
  · rename_i a1 a2
    obtain ⟨v883, hv883, hr⟩ := optT_run hr
    obtain ⟨v884, hv884, hr⟩ := optT_run hr
    simp only [Tree.run] at hr
    obtain ⟨y, hy, hr⟩ := Option.bind_eq_some_iff.1 hr
    simp only [Tree.run, Option.some.injEq, Prod.mk.injEq] at hr
    obtain ⟨rfl, rfl⟩ := hr
    exact call_ok0 hs (fun k => (([a1.av F, a2.av F] : List AV)[k]?).getD .top) [a1, a2] [.bslc (BR.root 0) (.f32 v883), .bslc (BR.root 1) (.f32 v884)] (fun F' h0 hi hρ => ⟨by simp [DVs.av, DV.av, BR.av, hρ], impl_dot_fn v883 v884 F' (by rw [hi]; rfl) (st_nil hi) ⟨bslc_ok hi (by rw [h0, hρ]; exact rowF32_ok hs (DVs.okAt ha 0 rfl) hv883), bslc_ok hi (by rw [h0, hρ]; exact rowF32_ok hs (DVs.okAt ha 1 rfl) hv884), trivial⟩ hy⟩) rfl
  · cases hr
/-! impl.product$1 -/
noncomputable def impl_product_1_LO (v854 : Int) (v855 : Int) (v856 : Int) (v857 : Int) (v858 : List Nat) (v859 : Int) (v860 : Int) (v861 : List Nat) : LOr := fun id e L =>
  match id with
  | _ => .fail
noncomputable def impl_product_1_tab : List (FuncId × DFn × Bool) := [(168, impl_Matrix_row_F, true), (128, impl_Matrix_column_F, true), (167, impl_dot_F, true)]
theorem impl_product_1_hO : OrcOk Try.prog (tabD impl_product_1_tab) (tabM impl_product_1_tab) := tabD_cons impl_Matrix_row_Fok (tabD_cons impl_Matrix_column_Fok (tabD_cons impl_dot_Fok (tabD_nil _)))
noncomputable def impl_product_1_T (v854 : Int) (v855 : Int) (v857 : Int) (v858 : List Nat) (v859 : Int) (v860 : Int) (v861 : List Nat) : Tree (Nat) :=
  (.call (impl_Matrix_row_g v857 v858 v854) fun v868 =>
  (.call (impl_Matrix_column_g v859 v860 v861 v855) fun v882 =>
  (.call (impl_dot_g (([] : List Nat) ++ (AM.sub v858 (IntKind.i64.wrap (v854 * v857)) (IntKind.i64.wrap ((IntKind.i64.wrap (v854 + (1 : Int))) * v857)))) v882) fun v892 =>
  .leaf v892)))

noncomputable def impl_product_1_g (v854 : Int) (v855 : Int) (v857 : Int) (v858 : List Nat) (v859 : Int) (v860 : Int) (v861 : List Nat) : Option (Nat) := (impl_product_1_T v854 v855 v857 v858 v859 v860 v861).run
def impl_product_1_enc (v854 : Int) (v855 : Int) (v856 : Int) (v857 : Int) (v858 : List Nat) (v859 : Int) (v860 : Int) (v861 : List Nat) (y : Nat) : Rs := (.flt .f32 y, [])
theorem impl_product_1_den (v854 : Int) (v855 : Int) (v856 : Int) (v857 : Int) (v858 : List Nat) (v859 : Int) (v860 : Int) (v861 : List Nat) : (den TT (tabD impl_product_1_tab) (tabM impl_product_1_tab) (impl_product_1_LO v854 v855 v856 v857 v858 v859 v860 v861) (codeOf Try.f166) ([.int .i64 v854, .int .i64 v855, .bptr (BR.root 0) [.int .i64 v856, .int .i64 v857, .bslc (BR.root 1) (.f32 v858)], .bptr (BR.root 2) [.int .i64 v859, .int .i64 v860, .bslc (BR.root 3) (.f32 v861)]] ++ List.replicate (Try.f166.ntmps - ([.int .i64 v854, .int .i64 v855, .bptr (BR.root 0) [.int .i64 v856, .int .i64 v857, .bslc (BR.root 1) (.f32 v858)], .bptr (BR.root 2) [.int .i64 v859, .int .i64 v860, .bslc (BR.root 3) (.f32 v861)]] : List DV).length) .undef) []).bind (retD TT Try.f166.results.toList 0) = (impl_product_1_T v854 v855 v857 v858 v859 v860 v861).bind fun y => .leaf (impl_product_1_enc v854 v855 v856 v857 v858 v859 v860 v861 y) := by kernel_rfl
theorem impl_product_1_fn (v854 : Int) (v855 : Int) (v856 : Int) (v857 : Int) (v858 : List Nat) (v859 : Int) (v860 : Int) (v861 : List Nat) (F : Fr) (hm : F.ids.length = 0) (h0 : St F [] F.H0) (hA : DVs.Ok F [] [.int .i64 v854, .int .i64 v855, .bptr (BR.root 0) [.int .i64 v856, .int .i64 v857, .bslc (BR.root 1) (.f32 v858)], .bptr (BR.root 2) [.int .i64 v859, .int .i64 v860, .bslc (BR.root 3) (.f32 v861)]]) {y : Nat} (hy : impl_product_1_g v854 v855 v857 v858 v859 v860 v861 = some y) : ∃ H', FnOk Try.prog 166 (DVs.av F [.int .i64 v854, .int .i64 v855, .bptr (BR.root 0) [.int .i64 v856, .int .i64 v857, .bslc (BR.root 1) (.f32 v858)], .bptr (BR.root 2) [.int .i64 v859, .int .i64 v860, .bslc (BR.root 3) (.f32 v861)]]) F.H0 ((impl_product_1_enc v854 v855 v856 v857 v858 v859 v860 v861 y).1.av F) H' ∧ St F (impl_product_1_enc v854 v855 v856 v857 v858 v859 v860 v861 y).2 H' ∧ (impl_product_1_enc v854 v855 v856 v857 v858 v859 v860 v861 y).1.Ok F (impl_product_1_enc v854 v855 v856 v857 v858 v859 v860 v861 y).2 :=
  fn_fin tok impl_product_1_hO mixed Try.func166 Try.call166 (by kernel_rfl) (LoopsOk_eq (l := []) (by kernel_rfl) trivial) (impl_product_1_den v854 v855 v856 v857 v858 v859 v860 v861) hy hm h0 hA
noncomputable def impl_product_1_F : DFn := fun args L =>
  match args with
  | [.int .i64 v854, .int .i64 v855, a1, a3] =>
    optT (cellsOf L 3 a1) fun cs0 =>
    (match cs0 with
    | [.int .i64 v856, .int .i64 v857, a2] =>
    optT (rowF32 L a2) fun v858 =>
    optT (cellsOf L 3 a3) fun cs2 =>
    (match cs2 with
    | [.int .i64 v859, .int .i64 v860, a4] =>
    optT (rowF32 L a4) fun v861 =>
    .call (impl_product_1_g v854 v855 v857 v858 v859 v860 v861) fun y => .leaf (.flt .f32 y, L)
    | _ => .fail)
    | _ => .fail)
  | _ => .fail
theorem impl_product_1_Fok : COk Try.prog 166 impl_product_1_F true := by
  intro F L H args r L' hs ha hr
  unfold impl_product_1_F at hr
  split at hr
  · rename_i v854 v855 a1 a3
    obtain ⟨cs0, hcp0, hr⟩ := optT_run hr
    split at hr
    · rename_i v856 v857 a2
      obtain ⟨v858, hv858, hr⟩ := optT_run hr
      obtain ⟨cs2, hcp2, hr⟩ := optT_run hr
      split at hr
      · rename_i v859 v860 a4
        obtain ⟨v861, hv861, hr⟩ := optT_run hr
        simp only [Tree.run] at hr
        obtain ⟨y, hy, hr⟩ := Option.bind_eq_some_iff.1 hr
        simp only [Tree.run, Option.some.injEq, Prod.mk.injEq] at hr
        obtain ⟨rfl, rfl⟩ := hr
        exact call_ok0 hs (fun k => (([a1.av F, a2.av F, a3.av F, a4.av F] : List AV)[k]?).getD .top) [.int .i64 v854, .int .i64 v855, a1, a3] [.int .i64 v854, .int .i64 v855, .bptr (BR.root 0) [.int .i64 v856, .int .i64 v857, .bslc (BR.root 1) (.f32 v858)], .bptr (BR.root 2) [.int .i64 v859, .int .i64 v860, .bslc (BR.root 3) (.f32 v861)]] (fun F' h0 hi hρ => ⟨by simp [DVs.av, DV.av, BR.av, hρ], impl_product_1_fn v854 v855 v856 v857 v858 v859 v860 v861 F' (by rw [hi]; rfl) (st_nil hi) ⟨trivial, trivial, bptr_ok hi (by rw [h0]; simpa [DVs.av, DV.av, BR.av, hρ] using (cellsOf_ok hs (DVs.okAt ha 2 rfl) hcp0).1) ⟨trivial, trivial, bslc_ok hi (by rw [h0, hρ]; exact rowF32_ok hs (DVs.okAt (cellsOf_ok hs (DVs.okAt ha 2 rfl) hcp0).2 2 rfl) hv858), trivial⟩, bptr_ok hi (by rw [h0]; simpa [DVs.av, DV.av, BR.av, hρ] using (cellsOf_ok hs (DVs.okAt ha 3 rfl) hcp2).1) ⟨trivial, trivial, bslc_ok hi (by rw [h0, hρ]; exact rowF32_ok hs (DVs.okAt (cellsOf_ok hs (DVs.okAt ha 3 rfl) hcp2).2 2 rfl) hv861), trivial⟩, trivial⟩ hy⟩) rfl
      · cases hr
    · cases hr
  · cases hr
/-! impl.made -/
noncomputable def impl_made_i2_l2_T (v839 : Int) (v841 : Int) (v842 : List Nat) (v843 : Int) (v844 : Int) (v845 : List Nat) (v954 : Int) (v956 : Int) (v957 : Int) (s : Int × (List Nat)) : Tree ((Int × (List Nat)) ⊕ ((List Nat))) :=
  (.br (decide (s.1 < v839)) (
   (.call (impl_product_1_g v954 s.1 v841 v842 v843 v844 v845) fun v959 =>
   (.call (impl_Matrix_set_g v957 s.2 v954 s.1) fun v960 =>
   (.grd (decide ((List.set s.2 (Int.toNat (IntKind.i64.wrap ((IntKind.i64.wrap (v954 * v957)) + s.1))) v959).length = s.2.length)) <|
   .leaf (.inl (IntKind.i64.wrap (s.1 + (1 : Int)), List.set s.2 (Int.toNat (IntKind.i64.wrap ((IntKind.i64.wrap (v954 * v957)) + s.1))) v959)))))
  ) (
   .leaf (.inr s.2)
  ))

noncomputable def impl_made_i2_l2_g (v839 : Int) (v841 : Int) (v842 : List Nat) (v843 : Int) (v844 : Int) (v845 : List Nat) (v954 : Int) (v956 : Int) (v957 : Int) (s0 : Int × (List Nat)) : Option ((List Nat)) := whileM (fun s => (impl_made_i2_l2_T v839 v841 v842 v843 v844 v845 v954 v956 v957 s).run) s0
def impl_made_i2_l2_E (v838 : Int) (v839 : Int) (v840 : Int) (v841 : Int) (v842 : List Nat) (v843 : Int) (v844 : Int) (v845 : List Nat) (v954 : Int) (v956 : Int) (v957 : Int) (s : Int × (List Nat)) : Sd := ([.top, .int .i64 v839, .fn 166 [.bptr (BR.root 0) [.int .i64 v840, .int .i64 v841, .bslc (BR.root 1) (.f32 v842)], .bptr (BR.root 2) [.int .i64 v843, .int .i64 v844, .bslc (BR.root 3) (.f32 v845)]], .top, .top, .top, .ptr 0 (0 : Nat) 0 (3 : Nat), .ptr 1 (0 : Nat) 0 (3 : Nat), .int .i64 v954, .top, .top, .top, .top, .int .i64 v838, .int .i64 v954, .top, .top, .int .i64 v839, .int .i64 s.1, .top, .top, .top, .top, .top, .top, .top, .top, .top, .top, .top, .top, .top], [.gen [.int .i64 (0 : Int), .int .i64 (0 : Int), .nilslc] false 0, .gen [.int .i64 v956, .int .i64 v957, .own 2 0 ((s.2).length)] false 0, .row (.f32 s.2) 0])
def impl_made_i2_l2_X (v838 : Int) (v839 : Int) (v840 : Int) (v841 : Int) (v842 : List Nat) (v843 : Int) (v844 : Int) (v845 : List Nat) (v954 : Int) (v956 : Int) (v957 : Int) (x : (List Nat)) : Out := (.normal, [.top, .int .i64 v839, .fn 166 [.bptr (BR.root 0) [.int .i64 v840, .int .i64 v841, .bslc (BR.root 1) (.f32 v842)], .bptr (BR.root 2) [.int .i64 v843, .int .i64 v844, .bslc (BR.root 3) (.f32 v845)]], .top, .top, .top, .ptr 0 (0 : Nat) 0 (3 : Nat), .ptr 1 (0 : Nat) 0 (3 : Nat), .top, .top, .top, .top, .top, .int .i64 v838, .int .i64 v954, .top, .top, .top, .top, .top, .top, .top, .top, .top, .top, .top, .top, .top, .top, .top, .top, .top], [.gen [.int .i64 (0 : Int), .int .i64 (0 : Int), .nilslc] false 0, .gen [.int .i64 v956, .int .i64 v957, .own 2 0 ((x).length)] false 0, .row (.f32 x) 0])
def impl_made_i2_l2_kill : List Nat := [1, 0, 0, 1, 1, 1, 0, 0, 0, 1, 1, 1, 1, 0, 0, 1, 1, 0, 0, 1, 1, 1, 1, 1, 1, 1, 1, 1, 1, 1, 1, 1]
def impl_made_i2_l2_nx : Exit → List Nat
  | .exit 0 => [1, 1, 1, 1, 1, 1, 0, 0, 1, 1, 1, 1, 1, 1, 1, 1, 1, 1, 1, 1, 1, 1, 1, 1, 1, 1, 1, 1, 1, 1, 1, 1]
  | .exit 1 => [1, 0, 0, 1, 1, 1, 0, 0, 1, 1, 1, 1, 1, 0, 0, 1, 1, 1, 1, 1, 1, 1, 1, 1, 1, 1, 1, 1, 1, 1, 1, 1]
  | .exit 2 => [1, 0, 0, 1, 1, 1, 0, 0, 1, 1, 1, 1, 1, 0, 0, 1, 1, 1, 1, 1, 1, 1, 1, 1, 1, 1, 1, 1, 1, 1, 1, 1]
  | .ret => [1, 1, 1, 1, 1, 1, 0, 1, 1, 1, 1, 1, 1, 1, 1, 1, 1, 1, 1, 1, 1, 1, 1, 1, 1, 1, 1, 1, 1, 1, 1, 1]
  | _ => []
noncomputable def impl_made_i2_l0_T (v838 : Int) (v839 : Int) (v840 : Int) (v841 : Int) (v842 : List Nat) (v843 : Int) (v844 : Int) (v845 : List Nat) (v937 : Int) (v938 : Int) (s : Int × (List Nat)) : Tree ((Int × (List Nat)) ⊕ ((List Nat))) :=
  (.br (decide (s.1 < v838)) (
   (.need (some (impl_made_i2_l2_E v838 v839 v840 v841 v842 v843 v844 v845 s.1 v937 v938 ((0 : Int), s.2)) = some (impl_made_i2_l2_E v838 v839 v840 v841 v842 v843 v844 v845 s.1 v937 v938 ((0 : Int), s.2))) <|
   (.call (impl_made_i2_l2_g v839 v841 v842 v843 v844 v845 s.1 v937 v938 ((0 : Int), s.2)) fun v961 =>
   .leaf (.inl (IntKind.i64.wrap (s.1 + (1 : Int)), v961))))
  ) (
   .leaf (.inr s.2)
  ))

noncomputable def impl_made_i2_l0_g (v838 : Int) (v839 : Int) (v840 : Int) (v841 : Int) (v842 : List Nat) (v843 : Int) (v844 : Int) (v845 : List Nat) (v937 : Int) (v938 : Int) (s0 : Int × (List Nat)) : Option ((List Nat)) := whileM (fun s => (impl_made_i2_l0_T v838 v839 v840 v841 v842 v843 v844 v845 v937 v938 s).run) s0
def impl_made_i2_l0_E (v838 : Int) (v839 : Int) (v840 : Int) (v841 : Int) (v842 : List Nat) (v843 : Int) (v844 : Int) (v845 : List Nat) (v937 : Int) (v938 : Int) (s : Int × (List Nat)) : Sd := ([.top, .int .i64 v839, .fn 166 [.bptr (BR.root 0) [.int .i64 v840, .int .i64 v841, .bslc (BR.root 1) (.f32 v842)], .bptr (BR.root 2) [.int .i64 v843, .int .i64 v844, .bslc (BR.root 3) (.f32 v845)]], .top, .top, .top, .ptr 0 (0 : Nat) 0 (3 : Nat), .ptr 1 (0 : Nat) 0 (3 : Nat), .top, .top, .top, .top, .top, .int .i64 v838, .int .i64 s.1, .top, .top, .top, .top, .top, .top, .top, .top, .top, .top, .top, .top, .top, .top, .top, .top, .top], [.gen [.int .i64 (0 : Int), .int .i64 (0 : Int), .nilslc] false 0, .gen [.int .i64 v937, .int .i64 v938, .own 2 0 ((s.2).length)] false 0, .row (.f32 s.2) 0])
def impl_made_i2_l0_X (v838 : Int) (v839 : Int) (v840 : Int) (v841 : Int) (v842 : List Nat) (v843 : Int) (v844 : Int) (v845 : List Nat) (v937 : Int) (v938 : Int) (x : (List Nat)) : Out := (.normal, [.top, .top, .top, .top, .top, .top, .ptr 0 (0 : Nat) 0 (3 : Nat), .ptr 1 (0 : Nat) 0 (3 : Nat), .top, .top, .top, .top, .top, .top, .top, .top, .top, .top, .top, .top, .top, .top, .top, .top, .top, .top, .top, .top, .top, .top, .top, .top], [.gen [.int .i64 (0 : Int), .int .i64 (0 : Int), .nilslc] false 0, .gen [.int .i64 v937, .int .i64 v938, .own 2 0 ((x).length)] false 0, .row (.f32 x) 0])
def impl_made_i2_l0_kill : List Nat := [1, 0, 0, 1, 1, 1, 0, 0, 1, 1, 1, 1, 1, 0, 0, 1, 1, 1, 1, 1, 1, 1, 1, 1, 1, 1, 1, 1, 1, 1, 1, 1]
def impl_made_i2_l0_nx : Exit → List Nat
  | .exit 0 => [1, 1, 1, 1, 1, 1, 0, 0, 1, 1, 1, 1, 1, 1, 1, 1, 1, 1, 1, 1, 1, 1, 1, 1, 1, 1, 1, 1, 1, 1, 1, 1]
  | .ret => [1, 1, 1, 1, 1, 1, 0, 1, 1, 1, 1, 1, 1, 1, 1, 1, 1, 1, 1, 1, 1, 1, 1, 1, 1, 1, 1, 1, 1, 1, 1, 1]
  | _ => []
noncomputable def impl_made_i2_LO (v838 : Int) (v839 : Int) (v840 : Int) (v841 : Int) (v842 : List Nat) (v843 : Int) (v844 : Int) (v845 : List Nat) : LOr := fun id e L =>
  match id with
  | 2 => .need (normA 0 impl_made_i2_l2_kill e L = some (impl_made_i2_l2_E v838 v839 v840 v841 v842 v843 v844 v845 (gI (vAt e 8)) (gI (cAt L (vAt e 7) 0)) (gI (cAt L (vAt e 7) 1)) ((gI (vAt e 18)), (gRF L (cAt L (vAt e 7) 2))))) (.call (impl_made_i2_l2_g v839 v841 v842 v843 v844 v845 (gI (vAt e 8)) (gI (cAt L (vAt e 7) 0)) (gI (cAt L (vAt e 7) 1)) ((gI (vAt e 18)), (gRF L (cAt L (vAt e 7) 2)))) fun x => .leaf (impl_made_i2_l2_X v838 v839 v840 v841 v842 v843 v844 v845 (gI (vAt e 8)) (gI (cAt L (vAt e 7) 0)) (gI (cAt L (vAt e 7) 1)) x))
  | 0 => .need (normA 0 impl_made_i2_l0_kill e L = some (impl_made_i2_l0_E v838 v839 v840 v841 v842 v843 v844 v845 (gI (cAt L (vAt e 7) 0)) (gI (cAt L (vAt e 7) 1)) ((gI (vAt e 14)), (gRF L (cAt L (vAt e 7) 2))))) (.call (impl_made_i2_l0_g v838 v839 v840 v841 v842 v843 v844 v845 (gI (cAt L (vAt e 7) 0)) (gI (cAt L (vAt e 7) 1)) ((gI (vAt e 14)), (gRF L (cAt L (vAt e 7) 2)))) fun x => .leaf (impl_made_i2_l0_X v838 v839 v840 v841 v842 v843 v844 v845 (gI (cAt L (vAt e 7) 0)) (gI (cAt L (vAt e 7) 1)) x))
  | _ => .fail
noncomputable def impl_made_i2_tab : List (FuncId × DFn × Bool) := [(125, impl_newMatrix_F, true), (166, impl_product_1_F, true), (142, impl_Matrix_set_F, false)]
theorem impl_made_i2_hO : OrcOk Try.prog (tabD impl_made_i2_tab) (tabM impl_made_i2_tab) := tabD_cons impl_newMatrix_Fok (tabD_cons impl_product_1_Fok (tabD_cons impl_Matrix_set_Fok (tabD_nil _)))
theorem impl_made_i2_l2_be (v838 : Int) (v839 : Int) (v840 : Int) (v841 : Int) (v842 : List Nat) (v843 : Int) (v844 : Int) (v845 : List Nat) (v954 : Int) (v956 : Int) (v957 : Int) (s : Int × (List Nat)) : bodyT TT (tabD impl_made_i2_tab) (tabM impl_made_i2_tab) (impl_made_i2_LO v838 v839 v840 v841 v842 v843 v844 v845) 0 impl_made_i2_l2_kill impl_made_i2_l2_nx (bodyOf Try.f91 2) 2 (impl_made_i2_l2_E v838 v839 v840 v841 v842 v843 v844 v845 v954 v956 v957 s) = (impl_made_i2_l2_T v839 v841 v842 v843 v844 v845 v954 v956 v957 s).bind fun y => .leaf (outS (impl_made_i2_l2_E v838 v839 v840 v841 v842 v843 v844 v845 v954 v956 v957) (impl_made_i2_l2_X v838 v839 v840 v841 v842 v843 v844 v845 v954 v956 v957) y) := by kernel_rfl
theorem impl_made_i2_l2_ok (v838 : Int) (v839 : Int) (v840 : Int) (v841 : Int) (v842 : List Nat) (v843 : Int) (v844 : Int) (v845 : List Nat) : LSound Try.prog 0 (impl_made_i2_LO v838 v839 v840 v841 v842 v843 v844 v845) 2 (bodyOf Try.f91 2) := by
  intro e L out h
  exact lo_ok (E := impl_made_i2_l2_E v838 v839 v840 v841 v842 v843 v844 v845 (gI (vAt e 8)) (gI (cAt L (vAt e 7) 0)) (gI (cAt L (vAt e 7) 1))) (gT := impl_made_i2_l2_T v839 v841 v842 v843 v844 v845 (gI (vAt e 8)) (gI (cAt L (vAt e 7) 0)) (gI (cAt L (vAt e 7) 1))) (X := impl_made_i2_l2_X v838 v839 v840 v841 v842 v843 v844 v845 (gI (vAt e 8)) (gI (cAt L (vAt e 7) 0)) (gI (cAt L (vAt e 7) 1))) (s0 := ((gI (vAt e 18)), (gRF L (cAt L (vAt e 7) 2)))) tok impl_made_i2_hO mixed (LoopsOk_eq (l := []) (by kernel_rfl) trivial) (impl_made_i2_l2_be v838 v839 v840 v841 v842 v843 v844 v845 (gI (vAt e 8)) (gI (cAt L (vAt e 7) 0)) (gI (cAt L (vAt e 7) 1))) rfl (by intro x; rfl) h
theorem impl_made_i2_l0_be (v838 : Int) (v839 : Int) (v840 : Int) (v841 : Int) (v842 : List Nat) (v843 : Int) (v844 : Int) (v845 : List Nat) (v937 : Int) (v938 : Int) (s : Int × (List Nat)) : bodyT TT (tabD impl_made_i2_tab) (tabM impl_made_i2_tab) (impl_made_i2_LO v838 v839 v840 v841 v842 v843 v844 v845) 0 impl_made_i2_l0_kill impl_made_i2_l0_nx (bodyOf Try.f91 0) 0 (impl_made_i2_l0_E v838 v839 v840 v841 v842 v843 v844 v845 v937 v938 s) = (impl_made_i2_l0_T v838 v839 v840 v841 v842 v843 v844 v845 v937 v938 s).bind fun y => .leaf (outS (impl_made_i2_l0_E v838 v839 v840 v841 v842 v843 v844 v845 v937 v938) (impl_made_i2_l0_X v838 v839 v840 v841 v842 v843 v844 v845 v937 v938) y) := by kernel_rfl
theorem impl_made_i2_l0_ok (v838 : Int) (v839 : Int) (v840 : Int) (v841 : Int) (v842 : List Nat) (v843 : Int) (v844 : Int) (v845 : List Nat) : LSound Try.prog 0 (impl_made_i2_LO v838 v839 v840 v841 v842 v843 v844 v845) 0 (bodyOf Try.f91 0) := by
  intro e L out h
  exact lo_ok (E := impl_made_i2_l0_E v838 v839 v840 v841 v842 v843 v844 v845 (gI (cAt L (vAt e 7) 0)) (gI (cAt L (vAt e 7) 1))) (gT := impl_made_i2_l0_T v838 v839 v840 v841 v842 v843 v844 v845 (gI (cAt L (vAt e 7) 0)) (gI (cAt L (vAt e 7) 1))) (X := impl_made_i2_l0_X v838 v839 v840 v841 v842 v843 v844 v845 (gI (cAt L (vAt e 7) 0)) (gI (cAt L (vAt e 7) 1))) (s0 := ((gI (vAt e 14)), (gRF L (cAt L (vAt e 7) 2)))) tok impl_made_i2_hO mixed (LoopsOk_eq (l := [(2, bodyOf Try.f91 2)]) (by kernel_rfl) ⟨impl_made_i2_l2_ok v838 v839 v840 v841 v842 v843 v844 v845, trivial⟩) (impl_made_i2_l0_be v838 v839 v840 v841 v842 v843 v844 v845 (gI (cAt L (vAt e 7) 0)) (gI (cAt L (vAt e 7) 1))) rfl (by intro x; rfl) h
noncomputable def impl_made_i2_T (v838 : Int) (v839 : Int) (v840 : Int) (v841 : Int) (v842 : List Nat) (v843 : Int) (v844 : Int) (v845 : List Nat) : Tree (Int × Int × (List Nat)) :=
  (.call (impl_newMatrix_g v838 v839) fun v846 =>
  (.need (some (impl_made_i2_l0_E v838 v839 v840 v841 v842 v843 v844 v845 v846.1 v846.2 ((0 : Int), List.replicate (Int.toNat (IntKind.i64.wrap (v838 * v839))) (0 : Nat))) = some (impl_made_i2_l0_E v838 v839 v840 v841 v842 v843 v844 v845 v846.1 v846.2 ((0 : Int), List.replicate (Int.toNat (IntKind.i64.wrap (v838 * v839))) (0 : Nat)))) <|
  (.call (impl_made_i2_l0_g v838 v839 v840 v841 v842 v843 v844 v845 v846.1 v846.2 ((0 : Int), List.replicate (Int.toNat (IntKind.i64.wrap (v838 * v839))) (0 : Nat))) fun v962 =>
  .leaf (v846.1, v846.2, v962))))

noncomputable def impl_made_i2_g (v838 : Int) (v839 : Int) (v840 : Int) (v841 : Int) (v842 : List Nat) (v843 : Int) (v844 : Int) (v845 : List Nat) : Option (Int × Int × (List Nat)) := (impl_made_i2_T v838 v839 v840 v841 v842 v843 v844 v845).run
def impl_made_i2_enc (v838 : Int) (v839 : Int) (v840 : Int) (v841 : Int) (v842 : List Nat) (v843 : Int) (v844 : Int) (v845 : List Nat) (y : Int × Int × (List Nat)) : Rs := (.agg [.int .i64 y.1, .int .i64 y.2.1, .own 0 0 ((y.2.2).length)], [.row (.f32 y.2.2) 0])
theorem impl_made_i2_den (v838 : Int) (v839 : Int) (v840 : Int) (v841 : Int) (v842 : List Nat) (v843 : Int) (v844 : Int) (v845 : List Nat) : (den TT (tabD impl_made_i2_tab) (tabM impl_made_i2_tab) (impl_made_i2_LO v838 v839 v840 v841 v842 v843 v844 v845) (codeOf Try.f91) ([.int .i64 v838, .int .i64 v839, .fn 166 [.bptr (BR.root 0) [.int .i64 v840, .int .i64 v841, .bslc (BR.root 1) (.f32 v842)], .bptr (BR.root 2) [.int .i64 v843, .int .i64 v844, .bslc (BR.root 3) (.f32 v845)]]] ++ List.replicate (Try.f91.ntmps - ([.int .i64 v838, .int .i64 v839, .fn 166 [.bptr (BR.root 0) [.int .i64 v840, .int .i64 v841, .bslc (BR.root 1) (.f32 v842)], .bptr (BR.root 2) [.int .i64 v843, .int .i64 v844, .bslc (BR.root 3) (.f32 v845)]]] : List DV).length) .undef) []).bind (retD TT Try.f91.results.toList 0) = (impl_made_i2_T v838 v839 v840 v841 v842 v843 v844 v845).bind fun y => .leaf (impl_made_i2_enc v838 v839 v840 v841 v842 v843 v844 v845 y) := by kernel_rfl
theorem impl_made_i2_fn (v838 : Int) (v839 : Int) (v840 : Int) (v841 : Int) (v842 : List Nat) (v843 : Int) (v844 : Int) (v845 : List Nat) (F : Fr) (hm : F.ids.length = 0) (h0 : St F [] F.H0) (hA : DVs.Ok F [] [.int .i64 v838, .int .i64 v839, .fn 166 [.bptr (BR.root 0) [.int .i64 v840, .int .i64 v841, .bslc (BR.root 1) (.f32 v842)], .bptr (BR.root 2) [.int .i64 v843, .int .i64 v844, .bslc (BR.root 3) (.f32 v845)]]]) {y : Int × Int × (List Nat)} (hy : impl_made_i2_g v838 v839 v840 v841 v842 v843 v844 v845 = some y) : ∃ H', FnOk Try.prog 91 (DVs.av F [.int .i64 v838, .int .i64 v839, .fn 166 [.bptr (BR.root 0) [.int .i64 v840, .int .i64 v841, .bslc (BR.root 1) (.f32 v842)], .bptr (BR.root 2) [.int .i64 v843, .int .i64 v844, .bslc (BR.root 3) (.f32 v845)]]]) F.H0 ((impl_made_i2_enc v838 v839 v840 v841 v842 v843 v844 v845 y).1.av F) H' ∧ St F (impl_made_i2_enc v838 v839 v840 v841 v842 v843 v844 v845 y).2 H' ∧ (impl_made_i2_enc v838 v839 v840 v841 v842 v843 v844 v845 y).1.Ok F (impl_made_i2_enc v838 v839 v840 v841 v842 v843 v844 v845 y).2 :=
  fn_fin tok impl_made_i2_hO mixed Try.func91 Try.call91 (by kernel_rfl) (LoopsOk_eq (l := [(0, bodyOf Try.f91 0)]) (by kernel_rfl) ⟨impl_made_i2_l0_ok v838 v839 v840 v841 v842 v843 v844 v845, trivial⟩) (impl_made_i2_den v838 v839 v840 v841 v842 v843 v844 v845) hy hm h0 hA
noncomputable def impl_made_i2_F : DFn := fun args L =>
  match args with
  | [.int .i64 v838, .int .i64 v839, .fn 166 [a1, a3]] =>
    optT (cellsOf L 3 a1) fun cs0 =>
    (match cs0 with
    | [.int .i64 v840, .int .i64 v841, a2] =>
    optT (rowF32 L a2) fun v842 =>
    optT (cellsOf L 3 a3) fun cs2 =>
    (match cs2 with
    | [.int .i64 v843, .int .i64 v844, a4] =>
    optT (rowF32 L a4) fun v845 =>
    .call (impl_made_i2_g v838 v839 v840 v841 v842 v843 v844 v845) fun y => .leaf (.agg [.int .i64 y.1, .int .i64 y.2.1, .own (L.length + 0) 0 ((y.2.2).length)], L ++ [.row (.f32 y.2.2) 0])
    | _ => .fail)
    | _ => .fail)
  | _ => .fail
theorem impl_made_i2_Fok : COk Try.prog 91 impl_made_i2_F true := by
  intro F L H args r L' hs ha hr
  unfold impl_made_i2_F at hr
  split at hr
  · rename_i v838 v839 a1 a3
    obtain ⟨cs0, hcp0, hr⟩ := optT_run hr
    split at hr
    · rename_i v840 v841 a2
      obtain ⟨v842, hv842, hr⟩ := optT_run hr
      obtain ⟨cs2, hcp2, hr⟩ := optT_run hr
      split at hr
      · rename_i v843 v844 a4
        obtain ⟨v845, hv845, hr⟩ := optT_run hr
        simp only [Tree.run] at hr
        obtain ⟨y, hy, hr⟩ := Option.bind_eq_some_iff.1 hr
        simp only [Tree.run, Option.some.injEq, Prod.mk.injEq] at hr
        obtain ⟨rfl, rfl⟩ := hr
        exact call_ok1 hs (fun k => (([a1.av F, a2.av F, a3.av F, a4.av F] : List AV)[k]?).getD .top) [.int .i64 v838, .int .i64 v839, .fn 166 [a1, a3]] [.int .i64 v838, .int .i64 v839, .fn 166 [.bptr (BR.root 0) [.int .i64 v840, .int .i64 v841, .bslc (BR.root 1) (.f32 v842)], .bptr (BR.root 2) [.int .i64 v843, .int .i64 v844, .bslc (BR.root 3) (.f32 v845)]]] (fun F' h0 hi hρ => ⟨by simp [DVs.av, DV.av, BR.av, hρ], impl_made_i2_fn v838 v839 v840 v841 v842 v843 v844 v845 F' (by rw [hi]; rfl) (st_nil hi) ⟨trivial, trivial, ⟨bptr_ok hi (by rw [h0]; simpa [DVs.av, DV.av, BR.av, hρ] using (cellsOf_ok hs (DVs.okAt (DVs.okAt ha 2 rfl) 0 rfl) hcp0).1) ⟨trivial, trivial, bslc_ok hi (by rw [h0, hρ]; exact rowF32_ok hs (DVs.okAt (cellsOf_ok hs (DVs.okAt (DVs.okAt ha 2 rfl) 0 rfl) hcp0).2 2 rfl) hv842), trivial⟩, bptr_ok hi (by rw [h0]; simpa [DVs.av, DV.av, BR.av, hρ] using (cellsOf_ok hs (DVs.okAt (DVs.okAt ha 2 rfl) 1 rfl) hcp2).1) ⟨trivial, trivial, bslc_ok hi (by rw [h0, hρ]; exact rowF32_ok hs (DVs.okAt (cellsOf_ok hs (DVs.okAt (DVs.okAt ha 2 rfl) 1 rfl) hcp2).2 2 rfl) hv845), trivial⟩, trivial⟩, trivial⟩ hy⟩) rfl rfl
      · cases hr
    · cases hr
  · cases hr
/-! impl.product -/
noncomputable def impl_product_LO (v832 : Int) (v833 : Int) (v834 : List Nat) (v835 : Int) (v836 : Int) (v837 : List Nat) : LOr := fun id e L =>
  match id with
  | _ => .fail
noncomputable def impl_product_tab : List (FuncId × DFn × Bool) := [(91, impl_made_i2_F, true)]
theorem impl_product_hO : OrcOk Try.prog (tabD impl_product_tab) (tabM impl_product_tab) := tabD_cons impl_made_i2_Fok (tabD_nil _)
noncomputable def impl_product_T (v832 : Int) (v833 : Int) (v834 : List Nat) (v835 : Int) (v836 : Int) (v837 : List Nat) : Tree (Int × Int × (List Nat)) :=
  (.call (impl_made_i2_g v832 v836 v832 v833 v834 v835 v836 v837) fun v963 =>
  .leaf (v963.1, v963.2.1, v963.2.2))

noncomputable def impl_product_g (v832 : Int) (v833 : Int) (v834 : List Nat) (v835 : Int) (v836 : Int) (v837 : List Nat) : Option (Int × Int × (List Nat)) := (impl_product_T v832 v833 v834 v835 v836 v837).run
def impl_product_enc (v832 : Int) (v833 : Int) (v834 : List Nat) (v835 : Int) (v836 : Int) (v837 : List Nat) (y : Int × Int × (List Nat)) : Rs := (.agg [.int .i64 y.1, .int .i64 y.2.1, .own 0 0 ((y.2.2).length)], [.row (.f32 y.2.2) 0])
theorem impl_product_den (v832 : Int) (v833 : Int) (v834 : List Nat) (v835 : Int) (v836 : Int) (v837 : List Nat) : (den TT (tabD impl_product_tab) (tabM impl_product_tab) (impl_product_LO v832 v833 v834 v835 v836 v837) (codeOf Try.f145) ([.agg [.int .i64 v832, .int .i64 v833, .bslc (BR.root 0) (.f32 v834)], .agg [.int .i64 v835, .int .i64 v836, .bslc (BR.root 1) (.f32 v837)]] ++ List.replicate (Try.f145.ntmps - ([.agg [.int .i64 v832, .int .i64 v833, .bslc (BR.root 0) (.f32 v834)], .agg [.int .i64 v835, .int .i64 v836, .bslc (BR.root 1) (.f32 v837)]] : List DV).length) .undef) []).bind (retD TT Try.f145.results.toList 0) = (impl_product_T v832 v833 v834 v835 v836 v837).bind fun y => .leaf (impl_product_enc v832 v833 v834 v835 v836 v837 y) := by kernel_rfl
theorem impl_product_fn (v832 : Int) (v833 : Int) (v834 : List Nat) (v835 : Int) (v836 : Int) (v837 : List Nat) (F : Fr) (hm : F.ids.length = 0) (h0 : St F [] F.H0) (hA : DVs.Ok F [] [.agg [.int .i64 v832, .int .i64 v833, .bslc (BR.root 0) (.f32 v834)], .agg [.int .i64 v835, .int .i64 v836, .bslc (BR.root 1) (.f32 v837)]]) {y : Int × Int × (List Nat)} (hy : impl_product_g v832 v833 v834 v835 v836 v837 = some y) : ∃ H', FnOk Try.prog 145 (DVs.av F [.agg [.int .i64 v832, .int .i64 v833, .bslc (BR.root 0) (.f32 v834)], .agg [.int .i64 v835, .int .i64 v836, .bslc (BR.root 1) (.f32 v837)]]) F.H0 ((impl_product_enc v832 v833 v834 v835 v836 v837 y).1.av F) H' ∧ St F (impl_product_enc v832 v833 v834 v835 v836 v837 y).2 H' ∧ (impl_product_enc v832 v833 v834 v835 v836 v837 y).1.Ok F (impl_product_enc v832 v833 v834 v835 v836 v837 y).2 :=
  fn_fin tok impl_product_hO mixed Try.func145 Try.call145 (by kernel_rfl) (LoopsOk_eq (l := []) (by kernel_rfl) trivial) (impl_product_den v832 v833 v834 v835 v836 v837) hy hm h0 hA
noncomputable def impl_product_F : DFn := fun args L =>
  match args with
  | [.agg [.int .i64 v832, .int .i64 v833, a1], .agg [.int .i64 v835, .int .i64 v836, a2]] =>
    optT (rowF32 L a1) fun v834 =>
    optT (rowF32 L a2) fun v837 =>
    .call (impl_product_g v832 v833 v834 v835 v836 v837) fun y => .leaf (.agg [.int .i64 y.1, .int .i64 y.2.1, .own (L.length + 0) 0 ((y.2.2).length)], L ++ [.row (.f32 y.2.2) 0])
  | _ => .fail
theorem impl_product_Fok : COk Try.prog 145 impl_product_F true := by
  intro F L H args r L' hs ha hr
  unfold impl_product_F at hr
  split at hr
  · rename_i v832 v833 a1 v835 v836 a2
    obtain ⟨v834, hv834, hr⟩ := optT_run hr
    obtain ⟨v837, hv837, hr⟩ := optT_run hr
    simp only [Tree.run] at hr
    obtain ⟨y, hy, hr⟩ := Option.bind_eq_some_iff.1 hr
    simp only [Tree.run, Option.some.injEq, Prod.mk.injEq] at hr
    obtain ⟨rfl, rfl⟩ := hr
    exact call_ok1 hs (fun k => (([a1.av F, a2.av F] : List AV)[k]?).getD .top) [.agg [.int .i64 v832, .int .i64 v833, a1], .agg [.int .i64 v835, .int .i64 v836, a2]] [.agg [.int .i64 v832, .int .i64 v833, .bslc (BR.root 0) (.f32 v834)], .agg [.int .i64 v835, .int .i64 v836, .bslc (BR.root 1) (.f32 v837)]] (fun F' h0 hi hρ => ⟨by simp [DVs.av, DV.av, BR.av, hρ], impl_product_fn v832 v833 v834 v835 v836 v837 F' (by rw [hi]; rfl) (st_nil hi) ⟨⟨trivial, trivial, bslc_ok hi (by rw [h0, hρ]; exact rowF32_ok hs (DVs.okAt (DVs.okAt ha 0 rfl) 2 rfl) hv834), trivial⟩, ⟨trivial, trivial, bslc_ok hi (by rw [h0, hρ]; exact rowF32_ok hs (DVs.okAt (DVs.okAt ha 1 rfl) 2 rfl) hv837), trivial⟩, trivial⟩ hy⟩) rfl rfl
  · cases hr
/-! (impl.Matrix).valid -/
noncomputable def impl_Matrix_valid_LO (v965 : Int) (v966 : Int) (v967 : List Nat) : LOr := fun id e L =>
  match id with
  | _ => .fail
noncomputable def impl_Matrix_valid_tab : List (FuncId × DFn × Bool) := [(98, impl_ValidMatrix_F, true)]
theorem impl_Matrix_valid_hO : OrcOk Try.prog (tabD impl_Matrix_valid_tab) (tabM impl_Matrix_valid_tab) := tabD_cons impl_ValidMatrix_Fok (tabD_nil _)
noncomputable def impl_Matrix_valid_T (v965 : Int) (v966 : Int) (v967 : List Nat) : Tree ((Unit) ⊕ (Int × Int)) :=
  (.call (impl_ValidMatrix_g v965 v966 v967) fun v968 =>
  (.br (!v968) (
   .leaf (.inl ())
  ) (
   .leaf (.inr (v965, v966))
  )))

noncomputable def impl_Matrix_valid_g (v965 : Int) (v966 : Int) (v967 : List Nat) : Option ((Unit) ⊕ (Int × Int)) := (impl_Matrix_valid_T v965 v966 v967).run
def impl_Matrix_valid_enc (v965 : Int) (v966 : Int) (v967 : List Nat) (y : (Unit) ⊕ (Int × Int)) : Rs := (match y with | .inl y => (.tup [.agg [.int .i64 (0 : Int), .int .i64 (0 : Int), .nilslc], .lit false], []) | .inr y => (.tup [.agg [.int .i64 y.1, .int .i64 y.2, .bslc (BR.root 0) (.f32 v967)], .lit true], []))
theorem impl_Matrix_valid_den (v965 : Int) (v966 : Int) (v967 : List Nat) : (den TT (tabD impl_Matrix_valid_tab) (tabM impl_Matrix_valid_tab) (impl_Matrix_valid_LO v965 v966 v967) (codeOf Try.f129) ([.agg [.int .i64 v965, .int .i64 v966, .bslc (BR.root 0) (.f32 v967)]] ++ List.replicate (Try.f129.ntmps - ([.agg [.int .i64 v965, .int .i64 v966, .bslc (BR.root 0) (.f32 v967)]] : List DV).length) .undef) []).bind (retD TT Try.f129.results.toList 0) = (impl_Matrix_valid_T v965 v966 v967).bind fun y => .leaf (impl_Matrix_valid_enc v965 v966 v967 y) := by kernel_rfl
theorem impl_Matrix_valid_fn (v965 : Int) (v966 : Int) (v967 : List Nat) (F : Fr) (hm : F.ids.length = 0) (h0 : St F [] F.H0) (hA : DVs.Ok F [] [.agg [.int .i64 v965, .int .i64 v966, .bslc (BR.root 0) (.f32 v967)]]) {y : (Unit) ⊕ (Int × Int)} (hy : impl_Matrix_valid_g v965 v966 v967 = some y) : ∃ H', FnOk Try.prog 129 (DVs.av F [.agg [.int .i64 v965, .int .i64 v966, .bslc (BR.root 0) (.f32 v967)]]) F.H0 ((impl_Matrix_valid_enc v965 v966 v967 y).1.av F) H' ∧ St F (impl_Matrix_valid_enc v965 v966 v967 y).2 H' ∧ (impl_Matrix_valid_enc v965 v966 v967 y).1.Ok F (impl_Matrix_valid_enc v965 v966 v967 y).2 :=
  fn_fin tok impl_Matrix_valid_hO mixed Try.func129 Try.call129 (by kernel_rfl) (LoopsOk_eq (l := []) (by kernel_rfl) trivial) (impl_Matrix_valid_den v965 v966 v967) hy hm h0 hA
noncomputable def impl_Matrix_valid_F : DFn := fun args L =>
  match args with
  | [.agg [.int .i64 v965, .int .i64 v966, a1]] =>
    optT (rowF32 L a1) fun v967 =>
    .call (impl_Matrix_valid_g v965 v966 v967) fun y => .sum y (fun y0 => .leaf (.tup [.agg [.int .i64 (0 : Int), .int .i64 (0 : Int), .nilslc], .lit false], L)) (fun z0 => .leaf (.tup [.agg [.int .i64 z0.1, .int .i64 z0.2, a1], .lit true], L))
  | _ => .fail
theorem impl_Matrix_valid_Fok : COk Try.prog 129 impl_Matrix_valid_F true := by
  intro F L H args r L' hs ha hr
  unfold impl_Matrix_valid_F at hr
  split at hr
  · rename_i v965 v966 a1
    obtain ⟨v967, hv967, hr⟩ := optT_run hr
    simp only [Tree.run] at hr
    obtain ⟨y, hy, hr⟩ := Option.bind_eq_some_iff.1 hr
    cases y with
    | inl y =>
      simp only [Tree.run, Option.some.injEq, Prod.mk.injEq] at hr
      obtain ⟨rfl, rfl⟩ := hr
      exact call_ok0 hs (fun k => (([a1.av F] : List AV)[k]?).getD .top) [.agg [.int .i64 v965, .int .i64 v966, a1]] [.agg [.int .i64 v965, .int .i64 v966, .bslc (BR.root 0) (.f32 v967)]] (fun F' h0 hi hρ => ⟨by simp [DVs.av, DV.av, BR.av, hρ], impl_Matrix_valid_fn v965 v966 v967 F' (by rw [hi]; rfl) (st_nil hi) ⟨⟨trivial, trivial, bslc_ok hi (by rw [h0, hρ]; exact rowF32_ok hs (DVs.okAt (DVs.okAt ha 0 rfl) 2 rfl) hv967), trivial⟩, trivial⟩ hy⟩) rfl
    | inr y =>
      simp only [Tree.run, Option.some.injEq, Prod.mk.injEq] at hr
      obtain ⟨rfl, rfl⟩ := hr
      exact call_al0 hs (fun k => (([a1.av F] : List AV)[k]?).getD .top) [.agg [.int .i64 v965, .int .i64 v966, a1]] [.agg [.int .i64 v965, .int .i64 v966, .bslc (BR.root 0) (.f32 v967)]] (fun F' h0 hi hρ => ⟨by simp [DVs.av, DV.av, BR.av, hρ], impl_Matrix_valid_fn v965 v966 v967 F' (by rw [hi]; rfl) (st_nil hi) ⟨⟨trivial, trivial, bslc_ok hi (by rw [h0, hρ]; exact rowF32_ok hs (DVs.okAt (DVs.okAt ha 0 rfl) 2 rfl) hv967), trivial⟩, trivial⟩ hy⟩) (fun F' h0 hi hρ => by simp [impl_Matrix_valid_enc, DVs.av, DV.av, BR.av, hρ]) ⟨⟨trivial, trivial, (DVs.okAt (DVs.okAt ha 0 rfl) 2 rfl), trivial⟩, trivial, trivial⟩
  · cases hr
/-! impl.MulMatrices -/
noncomputable def impl_MulMatrices_LO (v817 : Int) (v818 : Int) (v819 : List Nat) (v820 : Int) (v821 : Int) (v822 : List Nat) : LOr := fun id e L =>
  match id with
  | _ => .fail
noncomputable def impl_MulMatrices_tab : List (FuncId × DFn × Bool) := [(144, impl_areFactors_F, true), (145, impl_product_F, true), (129, impl_Matrix_valid_F, true)]
theorem impl_MulMatrices_hO : OrcOk Try.prog (tabD impl_MulMatrices_tab) (tabM impl_MulMatrices_tab) := tabD_cons impl_areFactors_Fok (tabD_cons impl_product_Fok (tabD_cons impl_Matrix_valid_Fok (tabD_nil _)))
noncomputable def impl_MulMatrices_T (v817 : Int) (v818 : Int) (v819 : List Nat) (v820 : Int) (v821 : Int) (v822 : List Nat) : Tree ((Unit) ⊕ (Int × Int × (List Nat))) :=
  (.call (impl_areFactors_g v817 v818 v819 v820 v821 v822) fun v831 =>
  (.br (!v831) (
   .leaf (.inl ())
  ) (
   (.call (impl_product_g v817 v818 v819 v820 v821 v822) fun v964 =>
   (.call (impl_Matrix_valid_g v964.1 v964.2.1 v964.2.2) fun v969 =>
   (.sum v969 (fun v970 =>
    .leaf (.inl ())
   ) (fun v971 =>
    .leaf (.inr (v971.1, v971.2, v964.2.2))
   ))))
  )))

noncomputable def impl_MulMatrices_g (v817 : Int) (v818 : Int) (v819 : List Nat) (v820 : Int) (v821 : Int) (v822 : List Nat) : Option ((Unit) ⊕ (Int × Int × (List Nat))) := (impl_MulMatrices_T v817 v818 v819 v820 v821 v822).run
def impl_MulMatrices_enc (v817 : Int) (v818 : Int) (v819 : List Nat) (v820 : Int) (v821 : Int) (v822 : List Nat) (y : (Unit) ⊕ (Int × Int × (List Nat))) : Rs := (match y with | .inl y => (.tup [.agg [.int .i64 (0 : Int), .int .i64 (0 : Int), .nilslc], .lit false], []) | .inr y => (.tup [.agg [.int .i64 y.1, .int .i64 y.2.1, .own 0 0 ((y.2.2).length)], .lit true], [.row (.f32 y.2.2) 0]))
theorem impl_MulMatrices_den (v817 : Int) (v818 : Int) (v819 : List Nat) (v820 : Int) (v821 : Int) (v822 : List Nat) : (den TT (tabD impl_MulMatrices_tab) (tabM impl_MulMatrices_tab) (impl_MulMatrices_LO v817 v818 v819 v820 v821 v822) (codeOf Try.f95) ([.agg [.int .i64 v817, .int .i64 v818, .bslc (BR.root 0) (.f32 v819)], .agg [.int .i64 v820, .int .i64 v821, .bslc (BR.root 1) (.f32 v822)]] ++ List.replicate (Try.f95.ntmps - ([.agg [.int .i64 v817, .int .i64 v818, .bslc (BR.root 0) (.f32 v819)], .agg [.int .i64 v820, .int .i64 v821, .bslc (BR.root 1) (.f32 v822)]] : List DV).length) .undef) []).bind (retD TT Try.f95.results.toList 0) = (impl_MulMatrices_T v817 v818 v819 v820 v821 v822).bind fun y => .leaf (impl_MulMatrices_enc v817 v818 v819 v820 v821 v822 y) := by kernel_rfl
theorem impl_MulMatrices_fn (v817 : Int) (v818 : Int) (v819 : List Nat) (v820 : Int) (v821 : Int) (v822 : List Nat) (F : Fr) (hm : F.ids.length = 0) (h0 : St F [] F.H0) (hA : DVs.Ok F [] [.agg [.int .i64 v817, .int .i64 v818, .bslc (BR.root 0) (.f32 v819)], .agg [.int .i64 v820, .int .i64 v821, .bslc (BR.root 1) (.f32 v822)]]) {y : (Unit) ⊕ (Int × Int × (List Nat))} (hy : impl_MulMatrices_g v817 v818 v819 v820 v821 v822 = some y) : ∃ H', FnOk Try.prog 95 (DVs.av F [.agg [.int .i64 v817, .int .i64 v818, .bslc (BR.root 0) (.f32 v819)], .agg [.int .i64 v820, .int .i64 v821, .bslc (BR.root 1) (.f32 v822)]]) F.H0 ((impl_MulMatrices_enc v817 v818 v819 v820 v821 v822 y).1.av F) H' ∧ St F (impl_MulMatrices_enc v817 v818 v819 v820 v821 v822 y).2 H' ∧ (impl_MulMatrices_enc v817 v818 v819 v820 v821 v822 y).1.Ok F (impl_MulMatrices_enc v817 v818 v819 v820 v821 v822 y).2 :=
  fn_fin tok impl_MulMatrices_hO mixed Try.func95 Try.call95 (by kernel_rfl) (LoopsOk_eq (l := []) (by kernel_rfl) trivial) (impl_MulMatrices_den v817 v818 v819 v820 v821 v822) hy hm h0 hA
noncomputable def impl_MulMatrices_F : DFn := fun args L =>
  match args with
  | [.agg [.int .i64 v817, .int .i64 v818, a1], .agg [.int .i64 v820, .int .i64 v821, a2]] =>
    optT (rowF32 L a1) fun v819 =>
    optT (rowF32 L a2) fun v822 =>
    .call (impl_MulMatrices_g v817 v818 v819 v820 v821 v822) fun y => .sum y (fun y0 => .leaf (.tup [.agg [.int .i64 (0 : Int), .int .i64 (0 : Int), .nilslc], .lit false], L)) (fun z0 => .leaf (.tup [.agg [.int .i64 z0.1, .int .i64 z0.2.1, .own (L.length + 0) 0 ((z0.2.2).length)], .lit true], L ++ [.row (.f32 z0.2.2) 0]))
  | _ => .fail
theorem impl_MulMatrices_Fok : COk Try.prog 95 impl_MulMatrices_F true := by
  intro F L H args r L' hs ha hr
  unfold impl_MulMatrices_F at hr
  split at hr
  · rename_i v817 v818 a1 v820 v821 a2
    obtain ⟨v819, hv819, hr⟩ := optT_run hr
    obtain ⟨v822, hv822, hr⟩ := optT_run hr
    simp only [Tree.run] at hr
    obtain ⟨y, hy, hr⟩ := Option.bind_eq_some_iff.1 hr
    cases y with
    | inl y =>
      simp only [Tree.run, Option.some.injEq, Prod.mk.injEq] at hr
      obtain ⟨rfl, rfl⟩ := hr
      exact call_ok0 hs (fun k => (([a1.av F, a2.av F] : List AV)[k]?).getD .top) [.agg [.int .i64 v817, .int .i64 v818, a1], .agg [.int .i64 v820, .int .i64 v821, a2]] [.agg [.int .i64 v817, .int .i64 v818, .bslc (BR.root 0) (.f32 v819)], .agg [.int .i64 v820, .int .i64 v821, .bslc (BR.root 1) (.f32 v822)]] (fun F' h0 hi hρ => ⟨by simp [DVs.av, DV.av, BR.av, hρ], impl_MulMatrices_fn v817 v818 v819 v820 v821 v822 F' (by rw [hi]; rfl) (st_nil hi) ⟨⟨trivial, trivial, bslc_ok hi (by rw [h0, hρ]; exact rowF32_ok hs (DVs.okAt (DVs.okAt ha 0 rfl) 2 rfl) hv819), trivial⟩, ⟨trivial, trivial, bslc_ok hi (by rw [h0, hρ]; exact rowF32_ok hs (DVs.okAt (DVs.okAt ha 1 rfl) 2 rfl) hv822), trivial⟩, trivial⟩ hy⟩) rfl
    | inr y =>
      simp only [Tree.run, Option.some.injEq, Prod.mk.injEq] at hr
      obtain ⟨rfl, rfl⟩ := hr
      exact call_ok1 hs (fun k => (([a1.av F, a2.av F] : List AV)[k]?).getD .top) [.agg [.int .i64 v817, .int .i64 v818, a1], .agg [.int .i64 v820, .int .i64 v821, a2]] [.agg [.int .i64 v817, .int .i64 v818, .bslc (BR.root 0) (.f32 v819)], .agg [.int .i64 v820, .int .i64 v821, .bslc (BR.root 1) (.f32 v822)]] (fun F' h0 hi hρ => ⟨by simp [DVs.av, DV.av, BR.av, hρ], impl_MulMatrices_fn v817 v818 v819 v820 v821 v822 F' (by rw [hi]; rfl) (st_nil hi) ⟨⟨trivial, trivial, bslc_ok hi (by rw [h0, hρ]; exact rowF32_ok hs (DVs.okAt (DVs.okAt ha 0 rfl) 2 rfl) hv819), trivial⟩, ⟨trivial, trivial, bslc_ok hi (by rw [h0, hρ]; exact rowF32_ok hs (DVs.okAt (DVs.okAt ha 1 rfl) 2 rfl) hv822), trivial⟩, trivial⟩ hy⟩) rfl rfl
  · cases hr
/-! impl.ExpMatrix$2 -/
noncomputable def impl_ExpMatrix_2_LO (v989 : Int) (v990 : Int) (v991 : Int) (v992 : Int) (v993 : List Nat) (v994 : Int) : LOr := fun id e L =>
  match id with
  | _ => .fail
noncomputable def impl_ExpMatrix_2_tab : List (FuncId × DFn × Bool) := [(93, impl_Matrix_at_F, true)]
theorem impl_ExpMatrix_2_hO : OrcOk Try.prog (tabD impl_ExpMatrix_2_tab) (tabM impl_ExpMatrix_2_tab) := tabD_cons impl_Matrix_at_Fok (tabD_nil _)
noncomputable def impl_ExpMatrix_2_T (v989 : Int) (v990 : Int) (v992 : Int) (v993 : List Nat) (v994 : Int) : Tree (Nat) :=
  (.call (impl_Matrix_at_g v992 v993 v989 v990) fun v995 =>
  .leaf (fdiv .f32 v995 (fofint .f32 v994)))

noncomputable def impl_ExpMatrix_2_g (v989 : Int) (v990 : Int) (v992 : Int) (v993 : List Nat) (v994 : Int) : Option (Nat) := (impl_ExpMatrix_2_T v989 v990 v992 v993 v994).run
def impl_ExpMatrix_2_enc (v989 : Int) (v990 : Int) (v991 : Int) (v992 : Int) (v993 : List Nat) (v994 : Int) (y : Nat) : Rs := (.flt .f32 y, [])
theorem impl_ExpMatrix_2_den (v989 : Int) (v990 : Int) (v991 : Int) (v992 : Int) (v993 : List Nat) (v994 : Int) : (den TT (tabD impl_ExpMatrix_2_tab) (tabM impl_ExpMatrix_2_tab) (impl_ExpMatrix_2_LO v989 v990 v991 v992 v993 v994) (codeOf Try.f96) ([.int .i64 v989, .int .i64 v990, .bptr (BR.root 0) [.int .i64 v991, .int .i64 v992, .bslc (BR.root 1) (.f32 v993)], .bptr (BR.root 2) [.int .i64 v994]] ++ List.replicate (Try.f96.ntmps - ([.int .i64 v989, .int .i64 v990, .bptr (BR.root 0) [.int .i64 v991, .int .i64 v992, .bslc (BR.root 1) (.f32 v993)], .bptr (BR.root 2) [.int .i64 v994]] : List DV).length) .undef) []).bind (retD TT Try.f96.results.toList 0) = (impl_ExpMatrix_2_T v989 v990 v992 v993 v994).bind fun y => .leaf (impl_ExpMatrix_2_enc v989 v990 v991 v992 v993 v994 y) := by kernel_rfl
theorem impl_ExpMatrix_2_fn (v989 : Int) (v990 : Int) (v991 : Int) (v992 : Int) (v993 : List Nat) (v994 : Int) (F : Fr) (hm : F.ids.length = 0) (h0 : St F [] F.H0) (hA : DVs.Ok F [] [.int .i64 v989, .int .i64 v990, .bptr (BR.root 0) [.int .i64 v991, .int .i64 v992, .bslc (BR.root 1) (.f32 v993)], .bptr (BR.root 2) [.int .i64 v994]]) {y : Nat} (hy : impl_ExpMatrix_2_g v989 v990 v992 v993 v994 = some y) : ∃ H', FnOk Try.prog 96 (DVs.av F [.int .i64 v989, .int .i64 v990, .bptr (BR.root 0) [.int .i64 v991, .int .i64 v992, .bslc (BR.root 1) (.f32 v993)], .bptr (BR.root 2) [.int .i64 v994]]) F.H0 ((impl_ExpMatrix_2_enc v989 v990 v991 v992 v993 v994 y).1.av F) H' ∧ St F (impl_ExpMatrix_2_enc v989 v990 v991 v992 v993 v994 y).2 H' ∧ (impl_ExpMatrix_2_enc v989 v990 v991 v992 v993 v994 y).1.Ok F (impl_ExpMatrix_2_enc v989 v990 v991 v992 v993 v994 y).2 :=
  fn_fin tok impl_ExpMatrix_2_hO mixed Try.func96 Try.call96 (by kernel_rfl) (LoopsOk_eq (l := []) (by kernel_rfl) trivial) (impl_ExpMatrix_2_den v989 v990 v991 v992 v993 v994) hy hm h0 hA
noncomputable def impl_ExpMatrix_2_F : DFn := fun args L =>
  match args with
  | [.int .i64 v989, .int .i64 v990, a1, a3] =>
    optT (cellsOf L 3 a1) fun cs0 =>
    (match cs0 with
    | [.int .i64 v991, .int .i64 v992, a2] =>
    optT (rowF32 L a2) fun v993 =>
    optT (cellsOf L 1 a3) fun cs2 =>
    (match cs2 with
    | [.int .i64 v994] =>
    .call (impl_ExpMatrix_2_g v989 v990 v992 v993 v994) fun y => .leaf (.flt .f32 y, L)
    | _ => .fail)
    | _ => .fail)
  | _ => .fail
theorem impl_ExpMatrix_2_Fok : COk Try.prog 96 impl_ExpMatrix_2_F true := by
  intro F L H args r L' hs ha hr
  unfold impl_ExpMatrix_2_F at hr
  split at hr
  · rename_i v989 v990 a1 a3
    obtain ⟨cs0, hcp0, hr⟩ := optT_run hr
    split at hr
    · rename_i v991 v992 a2
      obtain ⟨v993, hv993, hr⟩ := optT_run hr
      obtain ⟨cs2, hcp2, hr⟩ := optT_run hr
      split at hr
      · rename_i v994
        simp only [Tree.run] at hr
        obtain ⟨y, hy, hr⟩ := Option.bind_eq_some_iff.1 hr
        simp only [Tree.run, Option.some.injEq, Prod.mk.injEq] at hr
        obtain ⟨rfl, rfl⟩ := hr
        exact call_ok0 hs (fun k => (([a1.av F, a2.av F, a3.av F] : List AV)[k]?).getD .top) [.int .i64 v989, .int .i64 v990, a1, a3] [.int .i64 v989, .int .i64 v990, .bptr (BR.root 0) [.int .i64 v991, .int .i64 v992, .bslc (BR.root 1) (.f32 v993)], .bptr (BR.root 2) [.int .i64 v994]] (fun F' h0 hi hρ => ⟨by simp [DVs.av, DV.av, BR.av, hρ], impl_ExpMatrix_2_fn v989 v990 v991 v992 v993 v994 F' (by rw [hi]; rfl) (st_nil hi) ⟨trivial, trivial, bptr_ok hi (by rw [h0]; simpa [DVs.av, DV.av, BR.av, hρ] using (cellsOf_ok hs (DVs.okAt ha 2 rfl) hcp0).1) ⟨trivial, trivial, bslc_ok hi (by rw [h0, hρ]; exact rowF32_ok hs (DVs.okAt (cellsOf_ok hs (DVs.okAt ha 2 rfl) hcp0).2 2 rfl) hv993), trivial⟩, bptr_ok hi (by rw [h0]; simpa [DVs.av, DV.av, BR.av, hρ] using (cellsOf_ok hs (DVs.okAt ha 3 rfl) hcp2).1) ⟨trivial, trivial⟩, trivial⟩ hy⟩) rfl
      · cases hr
    · cases hr
  · cases hr
/-! impl.made -/
noncomputable def impl_made_i3_l2_T (v976 : Int) (v978 : Int) (v979 : List Nat) (v980 : Int) (v1057 : Int) (v1059 : Int) (v1060 : Int) (s : Int × (List Nat)) : Tree ((Int × (List Nat)) ⊕ ((List Nat))) :=
  (.br (decide (s.1 < v976)) (
   (.call (impl_ExpMatrix_2_g v1057 s.1 v978 v979 v980) fun v1062 =>
   (.call (impl_Matrix_set_g v1060 s.2 v1057 s.1) fun v1063 =>
   (.grd (decide ((List.set s.2 (Int.toNat (IntKind.i64.wrap ((IntKind.i64.wrap (v1057 * v1060)) + s.1))) v1062).length = s.2.length)) <|
   .leaf (.inl (IntKind.i64.wrap (s.1 + (1 : Int)), List.set s.2 (Int.toNat (IntKind.i64.wrap ((IntKind.i64.wrap (v1057 * v1060)) + s.1))) v1062)))))
  ) (
   .leaf (.inr s.2)
  ))

noncomputable def impl_made_i3_l2_g (v976 : Int) (v978 : Int) (v979 : List Nat) (v980 : Int) (v1057 : Int) (v1059 : Int) (v1060 : Int) (s0 : Int × (List Nat)) : Option ((List Nat)) := whileM (fun s => (impl_made_i3_l2_T v976 v978 v979 v980 v1057 v1059 v1060 s).run) s0
def impl_made_i3_l2_E (v975 : Int) (v976 : Int) (v977 : Int) (v978 : Int) (v979 : List Nat) (v980 : Int) (v1057 : Int) (v1059 : Int) (v1060 : Int) (s : Int × (List Nat)) : Sd := ([.top, .int .i64 v976, .fn 96 [.bptr (BR.root 0) [.int .i64 v977, .int .i64 v978, .bslc (BR.root 1) (.f32 v979)], .bptr (BR.root 2) [.int .i64 v980]], .top, .top, .top, .ptr 0 (0 : Nat) 0 (3 : Nat), .ptr 1 (0 : Nat) 0 (3 : Nat), .int .i64 v1057, .top, .top, .top, .top, .int .i64 v975, .int .i64 v1057, .top, .top, .int .i64 v976, .int .i64 s.1, .top, .top, .top, .top, .top, .top, .top, .top, .top, .top, .top, .top, .top], [.gen [.int .i64 (0 : Int), .int .i64 (0 : Int), .nilslc] false 0, .gen [.int .i64 v1059, .int .i64 v1060, .own 2 0 ((s.2).length)] false 0, .row (.f32 s.2) 0])
def impl_made_i3_l2_X (v975 : Int) (v976 : Int) (v977 : Int) (v978 : Int) (v979 : List Nat) (v980 : Int) (v1057 : Int) (v1059 : Int) (v1060 : Int) (x : (List Nat)) : Out := (.normal, [.top, .int .i64 v976, .fn 96 [.bptr (BR.root 0) [.int .i64 v977, .int .i64 v978, .bslc (BR.root 1) (.f32 v979)], .bptr (BR.root 2) [.int .i64 v980]], .top, .top, .top, .ptr 0 (0 : Nat) 0 (3 : Nat), .ptr 1 (0 : Nat) 0 (3 : Nat), .top, .top, .top, .top, .top, .int .i64 v975, .int .i64 v1057, .top, .top, .top, .top, .top, .top, .top, .top, .top, .top, .top, .top, .top, .top, .top, .top, .top], [.gen [.int .i64 (0 : Int), .int .i64 (0 : Int), .nilslc] false 0, .gen [.int .i64 v1059, .int .i64 v1060, .own 2 0 ((x).length)] false 0, .row (.f32 x) 0])
def impl_made_i3_l2_kill : List Nat := [1, 0, 0, 1, 1, 1, 0, 0, 0, 1, 1, 1, 1, 0, 0, 1, 1, 0, 0, 1, 1, 1, 1, 1, 1, 1, 1, 1, 1, 1, 1, 1]
def impl_made_i3_l2_nx : Exit → List Nat
  | .exit 0 => [1, 1, 1, 1, 1, 1, 0, 0, 1, 1, 1, 1, 1, 1, 1, 1, 1, 1, 1, 1, 1, 1, 1, 1, 1, 1, 1, 1, 1, 1, 1, 1]
  | .exit 1 => [1, 0, 0, 1, 1, 1, 0, 0, 1, 1, 1, 1, 1, 0, 0, 1, 1, 1, 1, 1, 1, 1, 1, 1, 1, 1, 1, 1, 1, 1, 1, 1]
  | .exit 2 => [1, 0, 0, 1, 1, 1, 0, 0, 1, 1, 1, 1, 1, 0, 0, 1, 1, 1, 1, 1, 1, 1, 1, 1, 1, 1, 1, 1, 1, 1, 1, 1]
  | .ret => [1, 1, 1, 1, 1, 1, 0, 1, 1, 1, 1, 1, 1, 1, 1, 1, 1, 1, 1, 1, 1, 1, 1, 1, 1, 1, 1, 1, 1, 1, 1, 1]
  | _ => []
noncomputable def impl_made_i3_l0_T (v975 : Int) (v976 : Int) (v977 : Int) (v978 : Int) (v979 : List Nat) (v980 : Int) (v1040 : Int) (v1041 : Int) (s : Int × (List Nat)) : Tree ((Int × (List Nat)) ⊕ ((List Nat))) :=
  (.br (decide (s.1 < v975)) (
   (.need (some (impl_made_i3_l2_E v975 v976 v977 v978 v979 v980 s.1 v1040 v1041 ((0 : Int), s.2)) = some (impl_made_i3_l2_E v975 v976 v977 v978 v979 v980 s.1 v1040 v1041 ((0 : Int), s.2))) <|
   (.call (impl_made_i3_l2_g v976 v978 v979 v980 s.1 v1040 v1041 ((0 : Int), s.2)) fun v1064 =>
   .leaf (.inl (IntKind.i64.wrap (s.1 + (1 : Int)), v1064))))
  ) (
   .leaf (.inr s.2)
  ))

noncomputable def impl_made_i3_l0_g (v975 : Int) (v976 : Int) (v977 : Int) (v978 : Int) (v979 : List Nat) (v980 : Int) (v1040 : Int) (v1041 : Int) (s0 : Int × (List Nat)) : Option ((List Nat)) := whileM (fun s => (impl_made_i3_l0_T v975 v976 v977 v978 v979 v980 v1040 v1041 s).run) s0
def impl_made_i3_l0_E (v975 : Int) (v976 : Int) (v977 : Int) (v978 : Int) (v979 : List Nat) (v980 : Int) (v1040 : Int) (v1041 : Int) (s : Int × (List Nat)) : Sd := ([.top, .int .i64 v976, .fn 96 [.bptr (BR.root 0) [.int .i64 v977, .int .i64 v978, .bslc (BR.root 1) (.f32 v979)], .bptr (BR.root 2) [.int .i64 v980]], .top, .top, .top, .ptr 0 (0 : Nat) 0 (3 : Nat), .ptr 1 (0 : Nat) 0 (3 : Nat), .top, .top, .top, .top, .top, .int .i64 v975, .int .i64 s.1, .top, .top, .top, .top, .top, .top, .top, .top, .top, .top, .top, .top, .top, .top, .top, .top, .top], [.gen [.int .i64 (0 : Int), .int .i64 (0 : Int), .nilslc] false 0, .gen [.int .i64 v1040, .int .i64 v1041, .own 2 0 ((s.2).length)] false 0, .row (.f32 s.2) 0])
def impl_made_i3_l0_X (v975 : Int) (v976 : Int) (v977 : Int) (v978 : Int) (v979 : List Nat) (v980 : Int) (v1040 : Int) (v1041 : Int) (x : (List Nat)) : Out := (.normal, [.top, .top, .top, .top, .top, .top, .ptr 0 (0 : Nat) 0 (3 : Nat), .ptr 1 (0 : Nat) 0 (3 : Nat), .top, .top, .top, .top, .top, .top, .top, .top, .top, .top, .top, .top, .top, .top, .top, .top, .top, .top, .top, .top, .top, .top, .top, .top], [.gen [.int .i64 (0 : Int), .int .i64 (0 : Int), .nilslc] false 0, .gen [.int .i64 v1040, .int .i64 v1041, .own 2 0 ((x).length)] false 0, .row (.f32 x) 0])
def impl_made_i3_l0_kill : List Nat := [1, 0, 0, 1, 1, 1, 0, 0, 1, 1, 1, 1, 1, 0, 0, 1, 1, 1, 1, 1, 1, 1, 1, 1, 1, 1, 1, 1, 1, 1, 1, 1]
def impl_made_i3_l0_nx : Exit → List Nat
  | .exit 0 => [1, 1, 1, 1, 1, 1, 0, 0, 1, 1, 1, 1, 1, 1, 1, 1, 1, 1, 1, 1, 1, 1, 1, 1, 1, 1, 1, 1, 1, 1, 1, 1]
  | .ret => [1, 1, 1, 1, 1, 1, 0, 1, 1, 1, 1, 1, 1, 1, 1, 1, 1, 1, 1, 1, 1, 1, 1, 1, 1, 1, 1, 1, 1, 1, 1, 1]
  | _ => []
noncomputable def impl_made_i3_LO (v975 : Int) (v976 : Int) (v977 : Int) (v978 : Int) (v979 : List Nat) (v980 : Int) : LOr := fun id e L =>
  match id with
  | 2 => .need (normA 0 impl_made_i3_l2_kill e L = some (impl_made_i3_l2_E v975 v976 v977 v978 v979 v980 (gI (vAt e 8)) (gI (cAt L (vAt e 7) 0)) (gI (cAt L (vAt e 7) 1)) ((gI (vAt e 18)), (gRF L (cAt L (vAt e 7) 2))))) (.call (impl_made_i3_l2_g v976 v978 v979 v980 (gI (vAt e 8)) (gI (cAt L (vAt e 7) 0)) (gI (cAt L (vAt e 7) 1)) ((gI (vAt e 18)), (gRF L (cAt L (vAt e 7) 2)))) fun x => .leaf (impl_made_i3_l2_X v975 v976 v977 v978 v979 v980 (gI (vAt e 8)) (gI (cAt L (vAt e 7) 0)) (gI (cAt L (vAt e 7) 1)) x))
  | 0 => .need (normA 0 impl_made_i3_l0_kill e L = some (impl_made_i3_l0_E v975 v976 v977 v978 v979 v980 (gI (cAt L (vAt e 7) 0)) (gI (cAt L (vAt e 7) 1)) ((gI (vAt e 14)), (gRF L (cAt L (vAt e 7) 2))))) (.call (impl_made_i3_l0_g v975 v976 v977 v978 v979 v980 (gI (cAt L (vAt e 7) 0)) (gI (cAt L (vAt e 7) 1)) ((gI (vAt e 14)), (gRF L (cAt L (vAt e 7) 2)))) fun x => .leaf (impl_made_i3_l0_X v975 v976 v977 v978 v979 v980 (gI (cAt L (vAt e 7) 0)) (gI (cAt L (vAt e 7) 1)) x))
  | _ => .fail
noncomputable def impl_made_i3_tab : List (FuncId × DFn × Bool) := [(125, impl_newMatrix_F, true), (96, impl_ExpMatrix_2_F, true), (142, impl_Matrix_set_F, false)]
theorem impl_made_i3_hO : OrcOk Try.prog (tabD impl_made_i3_tab) (tabM impl_made_i3_tab) := tabD_cons impl_newMatrix_Fok (tabD_cons impl_ExpMatrix_2_Fok (tabD_cons impl_Matrix_set_Fok (tabD_nil _)))
theorem impl_made_i3_l2_be (v975 : Int) (v976 : Int) (v977 : Int) (v978 : Int) (v979 : List Nat) (v980 : Int) (v1057 : Int) (v1059 : Int) (v1060 : Int) (s : Int × (List Nat)) : bodyT TT (tabD impl_made_i3_tab) (tabM impl_made_i3_tab) (impl_made_i3_LO v975 v976 v977 v978 v979 v980) 0 impl_made_i3_l2_kill impl_made_i3_l2_nx (bodyOf Try.f91 2) 2 (impl_made_i3_l2_E v975 v976 v977 v978 v979 v980 v1057 v1059 v1060 s) = (impl_made_i3_l2_T v976 v978 v979 v980 v1057 v1059 v1060 s).bind fun y => .leaf (outS (impl_made_i3_l2_E v975 v976 v977 v978 v979 v980 v1057 v1059 v1060) (impl_made_i3_l2_X v975 v976 v977 v978 v979 v980 v1057 v1059 v1060) y) := by kernel_rfl
theorem impl_made_i3_l2_ok (v975 : Int) (v976 : Int) (v977 : Int) (v978 : Int) (v979 : List Nat) (v980 : Int) : LSound Try.prog 0 (impl_made_i3_LO v975 v976 v977 v978 v979 v980) 2 (bodyOf Try.f91 2) := by
  intro e L out h
  exact lo_ok (E := impl_made_i3_l2_E v975 v976 v977 v978 v979 v980 (gI (vAt e 8)) (gI (cAt L (vAt e 7) 0)) (gI (cAt L (vAt e 7) 1))) (gT := impl_made_i3_l2_T v976 v978 v979 v980 (gI (vAt e 8)) (gI (cAt L (vAt e 7) 0)) (gI (cAt L (vAt e 7) 1))) (X := impl_made_i3_l2_X v975 v976 v977 v978 v979 v980 (gI (vAt e 8)) (gI (cAt L (vAt e 7) 0)) (gI (cAt L (vAt e 7) 1))) (s0 := ((gI (vAt e 18)), (gRF L (cAt L (vAt e 7) 2)))) tok impl_made_i3_hO mixed (LoopsOk_eq (l := []) (by kernel_rfl) trivial) (impl_made_i3_l2_be v975 v976 v977 v978 v979 v980 (gI (vAt e 8)) (gI (cAt L (vAt e 7) 0)) (gI (cAt L (vAt e 7) 1))) rfl (by intro x; rfl) h
theorem impl_made_i3_l0_be (v975 : Int) (v976 : Int) (v977 : Int) (v978 : Int) (v979 : List Nat) (v980 : Int) (v1040 : Int) (v1041 : Int) (s : Int × (List Nat)) : bodyT TT (tabD impl_made_i3_tab) (tabM impl_made_i3_tab) (impl_made_i3_LO v975 v976 v977 v978 v979 v980) 0 impl_made_i3_l0_kill impl_made_i3_l0_nx (bodyOf Try.f91 0) 0 (impl_made_i3_l0_E v975 v976 v977 v978 v979 v980 v1040 v1041 s) = (impl_made_i3_l0_T v975 v976 v977 v978 v979 v980 v1040 v1041 s).bind fun y => .leaf (outS (impl_made_i3_l0_E v975 v976 v977 v978 v979 v980 v1040 v1041) (impl_made_i3_l0_X v975 v976 v977 v978 v979 v980 v1040 v1041) y) := by kernel_rfl
theorem impl_made_i3_l0_ok (v975 : Int) (v976 : Int) (v977 : Int) (v978 : Int) (v979 : List Nat) (v980 : Int) : LSound Try.prog 0 (impl_made_i3_LO v975 v976 v977 v978 v979 v980) 0 (bodyOf Try.f91 0) := by
  intro e L out h
  exact lo_ok (E := impl_made_i3_l0_E v975 v976 v977 v978 v979 v980 (gI (cAt L (vAt e 7) 0)) (gI (cAt L (vAt e 7) 1))) (gT := impl_made_i3_l0_T v975 v976 v977 v978 v979 v980 (gI (cAt L (vAt e 7) 0)) (gI (cAt L (vAt e 7) 1))) (X := impl_made_i3_l0_X v975 v976 v977 v978 v979 v980 (gI (cAt L (vAt e 7) 0)) (gI (cAt L (vAt e 7) 1))) (s0 := ((gI (vAt e 14)), (gRF L (cAt L (vAt e 7) 2)))) tok impl_made_i3_hO mixed (LoopsOk_eq (l := [(2, bodyOf Try.f91 2)]) (by kernel_rfl) ⟨impl_made_i3_l2_ok v975 v976 v977 v978 v979 v980, trivial⟩) (impl_made_i3_l0_be v975 v976 v977 v978 v979 v980 (gI (cAt L (vAt e 7) 0)) (gI (cAt L (vAt e 7) 1))) rfl (by intro x; rfl) h
noncomputable def impl_made_i3_T (v975 : Int) (v976 : Int) (v977 : Int) (v978 : Int) (v979 : List Nat) (v980 : Int) : Tree (Int × Int × (List Nat)) :=
  (.call (impl_newMatrix_g v975 v976) fun v981 =>
  (.need (some (impl_made_i3_l0_E v975 v976 v977 v978 v979 v980 v981.1 v981.2 ((0 : Int), List.replicate (Int.toNat (IntKind.i64.wrap (v975 * v976))) (0 : Nat))) = some (impl_made_i3_l0_E v975 v976 v977 v978 v979 v980 v981.1 v981.2 ((0 : Int), List.replicate (Int.toNat (IntKind.i64.wrap (v975 * v976))) (0 : Nat)))) <|
  (.call (impl_made_i3_l0_g v975 v976 v977 v978 v979 v980 v981.1 v981.2 ((0 : Int), List.replicate (Int.toNat (IntKind.i64.wrap (v975 * v976))) (0 : Nat))) fun v1065 =>
  .leaf (v981.1, v981.2, v1065))))

noncomputable def impl_made_i3_g (v975 : Int) (v976 : Int) (v977 : Int) (v978 : Int) (v979 : List Nat) (v980 : Int) : Option (Int × Int × (List Nat)) := (impl_made_i3_T v975 v976 v977 v978 v979 v980).run
def impl_made_i3_enc (v975 : Int) (v976 : Int) (v977 : Int) (v978 : Int) (v979 : List Nat) (v980 : Int) (y : Int × Int × (List Nat)) : Rs := (.agg [.int .i64 y.1, .int .i64 y.2.1, .own 0 0 ((y.2.2).length)], [.row (.f32 y.2.2) 0])
theorem impl_made_i3_den (v975 : Int) (v976 : Int) (v977 : Int) (v978 : Int) (v979 : List Nat) (v980 : Int) : (den TT (tabD impl_made_i3_tab) (tabM impl_made_i3_tab) (impl_made_i3_LO v975 v976 v977 v978 v979 v980) (codeOf Try.f91) ([.int .i64 v975, .int .i64 v976, .fn 96 [.bptr (BR.root 0) [.int .i64 v977, .int .i64 v978, .bslc (BR.root 1) (.f32 v979)], .bptr (BR.root 2) [.int .i64 v980]]] ++ List.replicate (Try.f91.ntmps - ([.int .i64 v975, .int .i64 v976, .fn 96 [.bptr (BR.root 0) [.int .i64 v977, .int .i64 v978, .bslc (BR.root 1) (.f32 v979)], .bptr (BR.root 2) [.int .i64 v980]]] : List DV).length) .undef) []).bind (retD TT Try.f91.results.toList 0) = (impl_made_i3_T v975 v976 v977 v978 v979 v980).bind fun y => .leaf (impl_made_i3_enc v975 v976 v977 v978 v979 v980 y) := by kernel_rfl
theorem impl_made_i3_fn (v975 : Int) (v976 : Int) (v977 : Int) (v978 : Int) (v979 : List Nat) (v980 : Int) (F : Fr) (hm : F.ids.length = 0) (h0 : St F [] F.H0) (hA : DVs.Ok F [] [.int .i64 v975, .int .i64 v976, .fn 96 [.bptr (BR.root 0) [.int .i64 v977, .int .i64 v978, .bslc (BR.root 1) (.f32 v979)], .bptr (BR.root 2) [.int .i64 v980]]]) {y : Int × Int × (List Nat)} (hy : impl_made_i3_g v975 v976 v977 v978 v979 v980 = some y) : ∃ H', FnOk Try.prog 91 (DVs.av F [.int .i64 v975, .int .i64 v976, .fn 96 [.bptr (BR.root 0) [.int .i64 v977, .int .i64 v978, .bslc (BR.root 1) (.f32 v979)], .bptr (BR.root 2) [.int .i64 v980]]]) F.H0 ((impl_made_i3_enc v975 v976 v977 v978 v979 v980 y).1.av F) H' ∧ St F (impl_made_i3_enc v975 v976 v977 v978 v979 v980 y).2 H' ∧ (impl_made_i3_enc v975 v976 v977 v978 v979 v980 y).1.Ok F (impl_made_i3_enc v975 v976 v977 v978 v979 v980 y).2 :=
  fn_fin tok impl_made_i3_hO mixed Try.func91 Try.call91 (by kernel_rfl) (LoopsOk_eq (l := [(0, bodyOf Try.f91 0)]) (by kernel_rfl) ⟨impl_made_i3_l0_ok v975 v976 v977 v978 v979 v980, trivial⟩) (impl_made_i3_den v975 v976 v977 v978 v979 v980) hy hm h0 hA
noncomputable def impl_made_i3_F : DFn := fun args L =>
  match args with
  | [.int .i64 v975, .int .i64 v976, .fn 96 [a1, a3]] =>
    optT (cellsOf L 3 a1) fun cs0 =>
    (match cs0 with
    | [.int .i64 v977, .int .i64 v978, a2] =>
    optT (rowF32 L a2) fun v979 =>
    optT (cellsOf L 1 a3) fun cs2 =>
    (match cs2 with
    | [.int .i64 v980] =>
    .call (impl_made_i3_g v975 v976 v977 v978 v979 v980) fun y => .leaf (.agg [.int .i64 y.1, .int .i64 y.2.1, .own (L.length + 0) 0 ((y.2.2).length)], L ++ [.row (.f32 y.2.2) 0])
    | _ => .fail)
    | _ => .fail)
  | _ => .fail
theorem impl_made_i3_Fok : COk Try.prog 91 impl_made_i3_F true := by
  intro F L H args r L' hs ha hr
  unfold impl_made_i3_F at hr
  split at hr
  · rename_i v975 v976 a1 a3
    obtain ⟨cs0, hcp0, hr⟩ := optT_run hr
    split at hr
    · rename_i v977 v978 a2
      obtain ⟨v979, hv979, hr⟩ := optT_run hr
      obtain ⟨cs2, hcp2, hr⟩ := optT_run hr
      split at hr
      · rename_i v980
        simp only [Tree.run] at hr
        obtain ⟨y, hy, hr⟩ := Option.bind_eq_some_iff.1 hr
        simp only [Tree.run, Option.some.injEq, Prod.mk.injEq] at hr
        obtain ⟨rfl, rfl⟩ := hr
        exact call_ok1 hs (fun k => (([a1.av F, a2.av F, a3.av F] : List AV)[k]?).getD .top) [.int .i64 v975, .int .i64 v976, .fn 96 [a1, a3]] [.int .i64 v975, .int .i64 v976, .fn 96 [.bptr (BR.root 0) [.int .i64 v977, .int .i64 v978, .bslc (BR.root 1) (.f32 v979)], .bptr (BR.root 2) [.int .i64 v980]]] (fun F' h0 hi hρ => ⟨by simp [DVs.av, DV.av, BR.av, hρ], impl_made_i3_fn v975 v976 v977 v978 v979 v980 F' (by rw [hi]; rfl) (st_nil hi) ⟨trivial, trivial, ⟨bptr_ok hi (by rw [h0]; simpa [DVs.av, DV.av, BR.av, hρ] using (cellsOf_ok hs (DVs.okAt (DVs.okAt ha 2 rfl) 0 rfl) hcp0).1) ⟨trivial, trivial, bslc_ok hi (by rw [h0, hρ]; exact rowF32_ok hs (DVs.okAt (cellsOf_ok hs (DVs.okAt (DVs.okAt ha 2 rfl) 0 rfl) hcp0).2 2 rfl) hv979), trivial⟩, bptr_ok hi (by rw [h0]; simpa [DVs.av, DV.av, BR.av, hρ] using (cellsOf_ok hs (DVs.okAt (DVs.okAt ha 2 rfl) 1 rfl) hcp2).1) ⟨trivial, trivial⟩, trivial⟩, trivial⟩ hy⟩) rfl rfl
      · cases hr
    · cases hr
  · cases hr
/-! impl.ExpMatrix$3 -/
noncomputable def impl_ExpMatrix_3_LO (v1083 : Int) (v1084 : Int) (v1085 : Int) (v1086 : Int) (v1087 : List Nat) (v1088 : Int) (v1089 : Int) (v1090 : List Nat) : LOr := fun id e L =>
  match id with
  | _ => .fail
noncomputable def impl_ExpMatrix_3_tab : List (FuncId × DFn × Bool) := [(93, impl_Matrix_at_F, true)]
theorem impl_ExpMatrix_3_hO : OrcOk Try.prog (tabD impl_ExpMatrix_3_tab) (tabM impl_ExpMatrix_3_tab) := tabD_cons impl_Matrix_at_Fok (tabD_nil _)
noncomputable def impl_ExpMatrix_3_T (v1083 : Int) (v1084 : Int) (v1086 : Int) (v1087 : List Nat) (v1089 : Int) (v1090 : List Nat) : Tree (Nat) :=
  (.call (impl_Matrix_at_g v1086 v1087 v1083 v1084) fun v1091 =>
  (.call (impl_Matrix_at_g v1089 v1090 v1083 v1084) fun v1092 =>
  .leaf (fadd .f32 v1091 v1092)))

noncomputable def impl_ExpMatrix_3_g (v1083 : Int) (v1084 : Int) (v1086 : Int) (v1087 : List Nat) (v1089 : Int) (v1090 : List Nat) : Option (Nat) := (impl_ExpMatrix_3_T v1083 v1084 v1086 v1087 v1089 v1090).run
def impl_ExpMatrix_3_enc (v1083 : Int) (v1084 : Int) (v1085 : Int) (v1086 : Int) (v1087 : List Nat) (v1088 : Int) (v1089 : Int) (v1090 : List Nat) (y : Nat) : Rs := (.flt .f32 y, [])
theorem impl_ExpMatrix_3_den (v1083 : Int) (v1084 : Int) (v1085 : Int) (v1086 : Int) (v1087 : List Nat) (v1088 : Int) (v1089 : Int) (v1090 : List Nat) : (den TT (tabD impl_ExpMatrix_3_tab) (tabM impl_ExpMatrix_3_tab) (impl_ExpMatrix_3_LO v1083 v1084 v1085 v1086 v1087 v1088 v1089 v1090) (codeOf Try.f97) ([.int .i64 v1083, .int .i64 v1084, .bptr (BR.root 0) [.int .i64 v1085, .int .i64 v1086, .bslc (BR.root 1) (.f32 v1087)], .bptr (BR.root 2) [.int .i64 v1088, .int .i64 v1089, .bslc (BR.root 3) (.f32 v1090)]] ++ List.replicate (Try.f97.ntmps - ([.int .i64 v1083, .int .i64 v1084, .bptr (BR.root 0) [.int .i64 v1085, .int .i64 v1086, .bslc (BR.root 1) (.f32 v1087)], .bptr (BR.root 2) [.int .i64 v1088, .int .i64 v1089, .bslc (BR.root 3) (.f32 v1090)]] : List DV).length) .undef) []).bind (retD TT Try.f97.results.toList 0) = (impl_ExpMatrix_3_T v1083 v1084 v1086 v1087 v1089 v1090).bind fun y => .leaf (impl_ExpMatrix_3_enc v1083 v1084 v1085 v1086 v1087 v1088 v1089 v1090 y) := by kernel_rfl
theorem impl_ExpMatrix_3_fn (v1083 : Int) (v1084 : Int) (v1085 : Int) (v1086 : Int) (v1087 : List Nat) (v1088 : Int) (v1089 : Int) (v1090 : List Nat) (F : Fr) (hm : F.ids.length = 0) (h0 : St F [] F.H0) (hA : DVs.Ok F [] [.int .i64 v1083, .int .i64 v1084, .bptr (BR.root 0) [.int .i64 v1085, .int .i64 v1086, .bslc (BR.root 1) (.f32 v1087)], .bptr (BR.root 2) [.int .i64 v1088, .int .i64 v1089, .bslc (BR.root 3) (.f32 v1090)]]) {y : Nat} (hy : impl_ExpMatrix_3_g v1083 v1084 v1086 v1087 v1089 v1090 = some y) : ∃ H', FnOk Try.prog 97 (DVs.av F [.int .i64 v1083, .int .i64 v1084, .bptr (BR.root 0) [.int .i64 v1085, .int .i64 v1086, .bslc (BR.root 1) (.f32 v1087)], .bptr (BR.root 2) [.int .i64 v1088, .int .i64 v1089, .bslc (BR.root 3) (.f32 v1090)]]) F.H0 ((impl_ExpMatrix_3_enc v1083 v1084 v1085 v1086 v1087 v1088 v1089 v1090 y).1.av F) H' ∧ St F (impl_ExpMatrix_3_enc v1083 v1084 v1085 v1086 v1087 v1088 v1089 v1090 y).2 H' ∧ (impl_ExpMatrix_3_enc v1083 v1084 v1085 v1086 v1087 v1088 v1089 v1090 y).1.Ok F (impl_ExpMatrix_3_enc v1083 v1084 v1085 v1086 v1087 v1088 v1089 v1090 y).2 :=
  fn_fin tok impl_ExpMatrix_3_hO mixed Try.func97 Try.call97 (by kernel_rfl) (LoopsOk_eq (l := []) (by kernel_rfl) trivial) (impl_ExpMatrix_3_den v1083 v1084 v1085 v1086 v1087 v1088 v1089 v1090) hy hm h0 hA
noncomputable def impl_ExpMatrix_3_F : DFn := fun args L =>
  match args with
  | [.int .i64 v1083, .int .i64 v1084, a1, a3] =>
    optT (cellsOf L 3 a1) fun cs0 =>
    (match cs0 with
    | [.int .i64 v1085, .int .i64 v1086, a2] =>
    optT (rowF32 L a2) fun v1087 =>
    optT (cellsOf L 3 a3) fun cs2 =>
    (match cs2 with
    | [.int .i64 v1088, .int .i64 v1089, a4] =>
    optT (rowF32 L a4) fun v1090 =>
    .call (impl_ExpMatrix_3_g v1083 v1084 v1086 v1087 v1089 v1090) fun y => .leaf (.flt .f32 y, L)
    | _ => .fail)
    | _ => .fail)
  | _ => .fail
theorem impl_ExpMatrix_3_Fok : COk Try.prog 97 impl_ExpMatrix_3_F true := by
  intro F L H args r L' hs ha hr
  unfold impl_ExpMatrix_3_F at hr
  split at hr
  · rename_i v1083 v1084 a1 a3
    obtain ⟨cs0, hcp0, hr⟩ := optT_run hr
    split at hr
    · rename_i v1085 v1086 a2
      obtain ⟨v1087, hv1087, hr⟩ := optT_run hr
      obtain ⟨cs2, hcp2, hr⟩ := optT_run hr
      split at hr
      · rename_i v1088 v1089 a4
        obtain ⟨v1090, hv1090, hr⟩ := optT_run hr
        simp only [Tree.run] at hr
        obtain ⟨y, hy, hr⟩ := Option.bind_eq_some_iff.1 hr
        simp only [Tree.run, Option.some.injEq, Prod.mk.injEq] at hr
        obtain ⟨rfl, rfl⟩ := hr
        exact call_ok0 hs (fun k => (([a1.av F, a2.av F, a3.av F, a4.av F] : List AV)[k]?).getD .top) [.int .i64 v1083, .int .i64 v1084, a1, a3] [.int .i64 v1083, .int .i64 v1084, .bptr (BR.root 0) [.int .i64 v1085, .int .i64 v1086, .bslc (BR.root 1) (.f32 v1087)], .bptr (BR.root 2) [.int .i64 v1088, .int .i64 v1089, .bslc (BR.root 3) (.f32 v1090)]] (fun F' h0 hi hρ => ⟨by simp [DVs.av, DV.av, BR.av, hρ], impl_ExpMatrix_3_fn v1083 v1084 v1085 v1086 v1087 v1088 v1089 v1090 F' (by rw [hi]; rfl) (st_nil hi) ⟨trivial, trivial, bptr_ok hi (by rw [h0]; simpa [DVs.av, DV.av, BR.av, hρ] using (cellsOf_ok hs (DVs.okAt ha 2 rfl) hcp0).1) ⟨trivial, trivial, bslc_ok hi (by rw [h0, hρ]; exact rowF32_ok hs (DVs.okAt (cellsOf_ok hs (DVs.okAt ha 2 rfl) hcp0).2 2 rfl) hv1087), trivial⟩, bptr_ok hi (by rw [h0]; simpa [DVs.av, DV.av, BR.av, hρ] using (cellsOf_ok hs (DVs.okAt ha 3 rfl) hcp2).1) ⟨trivial, trivial, bslc_ok hi (by rw [h0, hρ]; exact rowF32_ok hs (DVs.okAt (cellsOf_ok hs (DVs.okAt ha 3 rfl) hcp2).2 2 rfl) hv1090), trivial⟩, trivial⟩ hy⟩) rfl
      · cases hr
    · cases hr
  · cases hr
/-! impl.made -/
noncomputable def impl_made_i4_l2_T (v1068 : Int) (v1070 : Int) (v1071 : List Nat) (v1073 : Int) (v1074 : List Nat) (v1154 : Int) (v1156 : Int) (v1157 : Int) (s : Int × (List Nat)) : Tree ((Int × (List Nat)) ⊕ ((List Nat))) :=
  (.br (decide (s.1 < v1068)) (
   (.call (impl_ExpMatrix_3_g v1154 s.1 v1070 v1071 v1073 v1074) fun v1159 =>
   (.call (impl_Matrix_set_g v1157 s.2 v1154 s.1) fun v1160 =>
   (.grd (decide ((List.set s.2 (Int.toNat (IntKind.i64.wrap ((IntKind.i64.wrap (v1154 * v1157)) + s.1))) v1159).length = s.2.length)) <|
   .leaf (.inl (IntKind.i64.wrap (s.1 + (1 : Int)), List.set s.2 (Int.toNat (IntKind.i64.wrap ((IntKind.i64.wrap (v1154 * v1157)) + s.1))) v1159)))))
  ) (
   .leaf (.inr s.2)
  ))

noncomputable def impl_made_i4_l2_g (v1068 : Int) (v1070 : Int) (v1071 : List Nat) (v1073 : Int) (v1074 : List Nat) (v1154 : Int) (v1156 : Int) (v1157 : Int) (s0 : Int × (List Nat)) : Option ((List Nat)) := whileM (fun s => (impl_made_i4_l2_T v1068 v1070 v1071 v1073 v1074 v1154 v1156 v1157 s).run) s0
def impl_made_i4_l2_E (v1067 : Int) (v1068 : Int) (v1069 : Int) (v1070 : Int) (v1071 : List Nat) (v1072 : Int) (v1073 : Int) (v1074 : List Nat) (v1154 : Int) (v1156 : Int) (v1157 : Int) (s : Int × (List Nat)) : Sd := ([.top, .int .i64 v1068, .fn 97 [.bptr (BR.root 0) [.int .i64 v1069, .int .i64 v1070, .bslc (BR.root 1) (.f32 v1071)], .bptr (BR.root 2) [.int .i64 v1072, .int .i64 v1073, .bslc (BR.root 3) (.f32 v1074)]], .top, .top, .top, .ptr 0 (0 : Nat) 0 (3 : Nat), .ptr 1 (0 : Nat) 0 (3 : Nat), .int .i64 v1154, .top, .top, .top, .top, .int .i64 v1067, .int .i64 v1154, .top, .top, .int .i64 v1068, .int .i64 s.1, .top, .top, .top, .top, .top, .top, .top, .top, .top, .top, .top, .top, .top], [.gen [.int .i64 (0 : Int), .int .i64 (0 : Int), .nilslc] false 0, .gen [.int .i64 v1156, .int .i64 v1157, .own 2 0 ((s.2).length)] false 0, .row (.f32 s.2) 0])
def impl_made_i4_l2_X (v1067 : Int) (v1068 : Int) (v1069 : Int) (v1070 : Int) (v1071 : List Nat) (v1072 : Int) (v1073 : Int) (v1074 : List Nat) (v1154 : Int) (v1156 : Int) (v1157 : Int) (x : (List Nat)) : Out := (.normal, [.top, .int .i64 v1068, .fn 97 [.bptr (BR.root 0) [.int .i64 v1069, .int .i64 v1070, .bslc (BR.root 1) (.f32 v1071)], .bptr (BR.root 2) [.int .i64 v1072, .int .i64 v1073, .bslc (BR.root 3) (.f32 v1074)]], .top, .top, .top, .ptr 0 (0 : Nat) 0 (3 : Nat), .ptr 1 (0 : Nat) 0 (3 : Nat), .top, .top, .top, .top, .top, .int .i64 v1067, .int .i64 v1154, .top, .top, .top, .top, .top, .top, .top, .top, .top, .top, .top, .top, .top, .top, .top, .top, .top], [.gen [.int .i64 (0 : Int), .int .i64 (0 : Int), .nilslc] false 0, .gen [.int .i64 v1156, .int .i64 v1157, .own 2 0 ((x).length)] false 0, .row (.f32 x) 0])
def impl_made_i4_l2_kill : List Nat := [1, 0, 0, 1, 1, 1, 0, 0, 0, 1, 1, 1, 1, 0, 0, 1, 1, 0, 0, 1, 1, 1, 1, 1, 1, 1, 1, 1, 1, 1, 1, 1]
def impl_made_i4_l2_nx : Exit → List Nat
  | .exit 0 => [1, 1, 1, 1, 1, 1, 0, 0, 1, 1, 1, 1, 1, 1, 1, 1, 1, 1, 1, 1, 1, 1, 1, 1, 1, 1, 1, 1, 1, 1, 1, 1]
  | .exit 1 => [1, 0, 0, 1, 1, 1, 0, 0, 1, 1, 1, 1, 1, 0, 0, 1, 1, 1, 1, 1, 1, 1, 1, 1, 1, 1, 1, 1, 1, 1, 1, 1]
  | .exit 2 => [1, 0, 0, 1, 1, 1, 0, 0, 1, 1, 1, 1, 1, 0, 0, 1, 1, 1, 1, 1, 1, 1, 1, 1, 1, 1, 1, 1, 1, 1, 1, 1]
  | .ret => [1, 1, 1, 1, 1, 1, 0, 1, 1, 1, 1, 1, 1, 1, 1, 1, 1, 1, 1, 1, 1, 1, 1, 1, 1, 1, 1, 1, 1, 1, 1, 1]
  | _ => []
noncomputable def impl_made_i4_l0_T (v1067 : Int) (v1068 : Int) (v1069 : Int) (v1070 : Int) (v1071 : List Nat) (v1072 : Int) (v1073 : Int) (v1074 : List Nat) (v1137 : Int) (v1138 : Int) (s : Int × (List Nat)) : Tree ((Int × (List Nat)) ⊕ ((List Nat))) :=
  (.br (decide (s.1 < v1067)) (
   (.need (some (impl_made_i4_l2_E v1067 v1068 v1069 v1070 v1071 v1072 v1073 v1074 s.1 v1137 v1138 ((0 : Int), s.2)) = some (impl_made_i4_l2_E v1067 v1068 v1069 v1070 v1071 v1072 v1073 v1074 s.1 v1137 v1138 ((0 : Int), s.2))) <|
   (.call (impl_made_i4_l2_g v1068 v1070 v1071 v1073 v1074 s.1 v1137 v1138 ((0 : Int), s.2)) fun v1161 =>
   .leaf (.inl (IntKind.i64.wrap (s.1 + (1 : Int)), v1161))))
  ) (
   .leaf (.inr s.2)
  ))

noncomputable def impl_made_i4_l0_g (v1067 : Int) (v1068 : Int) (v1069 : Int) (v1070 : Int) (v1071 : List Nat) (v1072 : Int) (v1073 : Int) (v1074 : List Nat) (v1137 : Int) (v1138 : Int) (s0 : Int × (List Nat)) : Option ((List Nat)) := whileM (fun s => (impl_made_i4_l0_T v1067 v1068 v1069 v1070 v1071 v1072 v1073 v1074 v1137 v1138 s).run) s0
def impl_made_i4_l0_E (v1067 : Int) (v1068 : Int) (v1069 : Int) (v1070 : Int) (v1071 : List Nat) (v1072 : Int) (v1073 : Int) (v1074 : List Nat) (v1137 : Int) (v1138 : Int) (s : Int × (List Nat)) : Sd := ([.top, .int .i64 v1068, .fn 97 [.bptr (BR.root 0) [.int .i64 v1069, .int .i64 v1070, .bslc (BR.root 1) (.f32 v1071)], .bptr (BR.root 2) [.int .i64 v1072, .int .i64 v1073, .bslc (BR.root 3) (.f32 v1074)]], .top, .top, .top, .ptr 0 (0 : Nat) 0 (3 : Nat), .ptr 1 (0 : Nat) 0 (3 : Nat), .top, .top, .top, .top, .top, .int .i64 v1067, .int .i64 s.1, .top, .top, .top, .top, .top, .top, .top, .top, .top, .top, .top, .top, .top, .top, .top, .top, .top], [.gen [.int .i64 (0 : Int), .int .i64 (0 : Int), .nilslc] false 0, .gen [.int .i64 v1137, .int .i64 v1138, .own 2 0 ((s.2).length)] false 0, .row (.f32 s.2) 0])
def impl_made_i4_l0_X (v1067 : Int) (v1068 : Int) (v1069 : Int) (v1070 : Int) (v1071 : List Nat) (v1072 : Int) (v1073 : Int) (v1074 : List Nat) (v1137 : Int) (v1138 : Int) (x : (List Nat)) : Out := (.normal, [.top, .top, .top, .top, .top, .top, .ptr 0 (0 : Nat) 0 (3 : Nat), .ptr 1 (0 : Nat) 0 (3 : Nat), .top, .top, .top, .top, .top, .top, .top, .top, .top, .top, .top, .top, .top, .top, .top, .top, .top, .top, .top, .top, .top, .top, .top, .top], [.gen [.int .i64 (0 : Int), .int .i64 (0 : Int), .nilslc] false 0, .gen [.int .i64 v1137, .int .i64 v1138, .own 2 0 ((x).length)] false 0, .row (.f32 x) 0])
def impl_made_i4_l0_kill : List Nat := [1, 0, 0, 1, 1, 1, 0, 0, 1, 1, 1, 1, 1, 0, 0, 1, 1, 1, 1, 1, 1, 1, 1, 1, 1, 1, 1, 1, 1, 1, 1, 1]
def impl_made_i4_l0_nx : Exit → List Nat
  | .exit 0 => [1, 1, 1, 1, 1, 1, 0, 0, 1, 1, 1, 1, 1, 1, 1, 1, 1, 1, 1, 1, 1, 1, 1, 1, 1, 1, 1, 1, 1, 1, 1, 1]
  | .ret => [1, 1, 1, 1, 1, 1, 0, 1, 1, 1, 1, 1, 1, 1, 1, 1, 1, 1, 1, 1, 1, 1, 1, 1, 1, 1, 1, 1, 1, 1, 1, 1]
  | _ => []
noncomputable def impl_made_i4_LO (v1067 : Int) (v1068 : Int) (v1069 : Int) (v1070 : Int) (v1071 : List Nat) (v1072 : Int) (v1073 : Int) (v1074 : List Nat) : LOr := fun id e L =>
  match id with
  | 2 => .need (normA 0 impl_made_i4_l2_kill e L = some (impl_made_i4_l2_E v1067 v1068 v1069 v1070 v1071 v1072 v1073 v1074 (gI (vAt e 8)) (gI (cAt L (vAt e 7) 0)) (gI (cAt L (vAt e 7) 1)) ((gI (vAt e 18)), (gRF L (cAt L (vAt e 7) 2))))) (.call (impl_made_i4_l2_g v1068 v1070 v1071 v1073 v1074 (gI (vAt e 8)) (gI (cAt L (vAt e 7) 0)) (gI (cAt L (vAt e 7) 1)) ((gI (vAt e 18)), (gRF L (cAt L (vAt e 7) 2)))) fun x => .leaf (impl_made_i4_l2_X v1067 v1068 v1069 v1070 v1071 v1072 v1073 v1074 (gI (vAt e 8)) (gI (cAt L (vAt e 7) 0)) (gI (cAt L (vAt e 7) 1)) x))
  | 0 => .need (normA 0 impl_made_i4_l0_kill e L = some (impl_made_i4_l0_E v1067 v1068 v1069 v1070 v1071 v1072 v1073 v1074 (gI (cAt L (vAt e 7) 0)) (gI (cAt L (vAt e 7) 1)) ((gI (vAt e 14)), (gRF L (cAt L (vAt e 7) 2))))) (.call (impl_made_i4_l0_g v1067 v1068 v1069 v1070 v1071 v1072 v1073 v1074 (gI (cAt L (vAt e 7) 0)) (gI (cAt L (vAt e 7) 1)) ((gI (vAt e 14)), (gRF L (cAt L (vAt e 7) 2)))) fun x => .leaf (impl_made_i4_l0_X v1067 v1068 v1069 v1070 v1071 v1072 v1073 v1074 (gI (cAt L (vAt e 7) 0)) (gI (cAt L (vAt e 7) 1)) x))
  | _ => .fail
noncomputable def impl_made_i4_tab : List (FuncId × DFn × Bool) := [(125, impl_newMatrix_F, true), (97, impl_ExpMatrix_3_F, true), (142, impl_Matrix_set_F, false)]
theorem impl_made_i4_hO : OrcOk Try.prog (tabD impl_made_i4_tab) (tabM impl_made_i4_tab) := tabD_cons impl_newMatrix_Fok (tabD_cons impl_ExpMatrix_3_Fok (tabD_cons impl_Matrix_set_Fok (tabD_nil _)))
theorem impl_made_i4_l2_be (v1067 : Int) (v1068 : Int) (v1069 : Int) (v1070 : Int) (v1071 : List Nat) (v1072 : Int) (v1073 : Int) (v1074 : List Nat) (v1154 : Int) (v1156 : Int) (v1157 : Int) (s : Int × (List Nat)) : bodyT TT (tabD impl_made_i4_tab) (tabM impl_made_i4_tab) (impl_made_i4_LO v1067 v1068 v1069 v1070 v1071 v1072 v1073 v1074) 0 impl_made_i4_l2_kill impl_made_i4_l2_nx (bodyOf Try.f91 2) 2 (impl_made_i4_l2_E v1067 v1068 v1069 v1070 v1071 v1072 v1073 v1074 v1154 v1156 v1157 s) = (impl_made_i4_l2_T v1068 v1070 v1071 v1073 v1074 v1154 v1156 v1157 s).bind fun y => .leaf (outS (impl_made_i4_l2_E v1067 v1068 v1069 v1070 v1071 v1072 v1073 v1074 v1154 v1156 v1157) (impl_made_i4_l2_X v1067 v1068 v1069 v1070 v1071 v1072 v1073 v1074 v1154 v1156 v1157) y) := by kernel_rfl
theorem impl_made_i4_l2_ok (v1067 : Int) (v1068 : Int) (v1069 : Int) (v1070 : Int) (v1071 : List Nat) (v1072 : Int) (v1073 : Int) (v1074 : List Nat) : LSound Try.prog 0 (impl_made_i4_LO v1067 v1068 v1069 v1070 v1071 v1072 v1073 v1074) 2 (bodyOf Try.f91 2) := by
  intro e L out h
  exact lo_ok (E := impl_made_i4_l2_E v1067 v1068 v1069 v1070 v1071 v1072 v1073 v1074 (gI (vAt e 8)) (gI (cAt L (vAt e 7) 0)) (gI (cAt L (vAt e 7) 1))) (gT := impl_made_i4_l2_T v1068 v1070 v1071 v1073 v1074 (gI (vAt e 8)) (gI (cAt L (vAt e 7) 0)) (gI (cAt L (vAt e 7) 1))) (X := impl_made_i4_l2_X v1067 v1068 v1069 v1070 v1071 v1072 v1073 v1074 (gI (vAt e 8)) (gI (cAt L (vAt e 7) 0)) (gI (cAt L (vAt e 7) 1))) (s0 := ((gI (vAt e 18)), (gRF L (cAt L (vAt e 7) 2)))) tok impl_made_i4_hO mixed (LoopsOk_eq (l := []) (by kernel_rfl) trivial) (impl_made_i4_l2_be v1067 v1068 v1069 v1070 v1071 v1072 v1073 v1074 (gI (vAt e 8)) (gI (cAt L (vAt e 7) 0)) (gI (cAt L (vAt e 7) 1))) rfl (by intro x; rfl) h
theorem impl_made_i4_l0_be (v1067 : Int) (v1068 : Int) (v1069 : Int) (v1070 : Int) (v1071 : List Nat) (v1072 : Int) (v1073 : Int) (v1074 : List Nat) (v1137 : Int) (v1138 : Int) (s : Int × (List Nat)) : bodyT TT (tabD impl_made_i4_tab) (tabM impl_made_i4_tab) (impl_made_i4_LO v1067 v1068 v1069 v1070 v1071 v1072 v1073 v1074) 0 impl_made_i4_l0_kill impl_made_i4_l0_nx (bodyOf Try.f91 0) 0 (impl_made_i4_l0_E v1067 v1068 v1069 v1070 v1071 v1072 v1073 v1074 v1137 v1138 s) = (impl_made_i4_l0_T v1067 v1068 v1069 v1070 v1071 v1072 v1073 v1074 v1137 v1138 s).bind fun y => .leaf (outS (impl_made_i4_l0_E v1067 v1068 v1069 v1070 v1071 v1072 v1073 v1074 v1137 v1138) (impl_made_i4_l0_X v1067 v1068 v1069 v1070 v1071 v1072 v1073 v1074 v1137 v1138) y) := by kernel_rfl
theorem impl_made_i4_l0_ok (v1067 : Int) (v1068 : Int) (v1069 : Int) (v1070 : Int) (v1071 : List Nat) (v1072 : Int) (v1073 : Int) (v1074 : List Nat) : LSound Try.prog 0 (impl_made_i4_LO v1067 v1068 v1069 v1070 v1071 v1072 v1073 v1074) 0 (bodyOf Try.f91 0) := by
  intro e L out h
  exact lo_ok (E := impl_made_i4_l0_E v1067 v1068 v1069 v1070 v1071 v1072 v1073 v1074 (gI (cAt L (vAt e 7) 0)) (gI (cAt L (vAt e 7) 1))) (gT := impl_made_i4_l0_T v1067 v1068 v1069 v1070 v1071 v1072 v1073 v1074 (gI (cAt L (vAt e 7) 0)) (gI (cAt L (vAt e 7) 1))) (X := impl_made_i4_l0_X v1067 v1068 v1069 v1070 v1071 v1072 v1073 v1074 (gI (cAt L (vAt e 7) 0)) (gI (cAt L (vAt e 7) 1))) (s0 := ((gI (vAt e 14)), (gRF L (cAt L (vAt e 7) 2)))) tok impl_made_i4_hO mixed (LoopsOk_eq (l := [(2, bodyOf Try.f91 2)]) (by kernel_rfl) ⟨impl_made_i4_l2_ok v1067 v1068 v1069 v1070 v1071 v1072 v1073 v1074, trivial⟩) (impl_made_i4_l0_be v1067 v1068 v1069 v1070 v1071 v1072 v1073 v1074 (gI (cAt L (vAt e 7) 0)) (gI (cAt L (vAt e 7) 1))) rfl (by intro x; rfl) h
noncomputable def impl_made_i4_T (v1067 : Int) (v1068 : Int) (v1069 : Int) (v1070 : Int) (v1071 : List Nat) (v1072 : Int) (v1073 : Int) (v1074 : List Nat) : Tree (Int × Int × (List Nat)) :=
  (.call (impl_newMatrix_g v1067 v1068) fun v1075 =>
  (.need (some (impl_made_i4_l0_E v1067 v1068 v1069 v1070 v1071 v1072 v1073 v1074 v1075.1 v1075.2 ((0 : Int), List.replicate (Int.toNat (IntKind.i64.wrap (v1067 * v1068))) (0 : Nat))) = some (impl_made_i4_l0_E v1067 v1068 v1069 v1070 v1071 v1072 v1073 v1074 v1075.1 v1075.2 ((0 : Int), List.replicate (Int.toNat (IntKind.i64.wrap (v1067 * v1068))) (0 : Nat)))) <|
  (.call (impl_made_i4_l0_g v1067 v1068 v1069 v1070 v1071 v1072 v1073 v1074 v1075.1 v1075.2 ((0 : Int), List.replicate (Int.toNat (IntKind.i64.wrap (v1067 * v1068))) (0 : Nat))) fun v1162 =>
  .leaf (v1075.1, v1075.2, v1162))))

noncomputable def impl_made_i4_g (v1067 : Int) (v1068 : Int) (v1069 : Int) (v1070 : Int) (v1071 : List Nat) (v1072 : Int) (v1073 : Int) (v1074 : List Nat) : Option (Int × Int × (List Nat)) := (impl_made_i4_T v1067 v1068 v1069 v1070 v1071 v1072 v1073 v1074).run
def impl_made_i4_enc (v1067 : Int) (v1068 : Int) (v1069 : Int) (v1070 : Int) (v1071 : List Nat) (v1072 : Int) (v1073 : Int) (v1074 : List Nat) (y : Int × Int × (List Nat)) : Rs := (.agg [.int .i64 y.1, .int .i64 y.2.1, .own 0 0 ((y.2.2).length)], [.row (.f32 y.2.2) 0])
theorem impl_made_i4_den (v1067 : Int) (v1068 : Int) (v1069 : Int) (v1070 : Int) (v1071 : List Nat) (v1072 : Int) (v1073 : Int) (v1074 : List Nat) : (den TT (tabD impl_made_i4_tab) (tabM impl_made_i4_tab) (impl_made_i4_LO v1067 v1068 v1069 v1070 v1071 v1072 v1073 v1074) (codeOf Try.f91) ([.int .i64 v1067, .int .i64 v1068, .fn 97 [.bptr (BR.root 0) [.int .i64 v1069, .int .i64 v1070, .bslc (BR.root 1) (.f32 v1071)], .bptr (BR.root 2) [.int .i64 v1072, .int .i64 v1073, .bslc (BR.root 3) (.f32 v1074)]]] ++ List.replicate (Try.f91.ntmps - ([.int .i64 v1067, .int .i64 v1068, .fn 97 [.bptr (BR.root 0) [.int .i64 v1069, .int .i64 v1070, .bslc (BR.root 1) (.f32 v1071)], .bptr (BR.root 2) [.int .i64 v1072, .int .i64 v1073, .bslc (BR.root 3) (.f32 v1074)]]] : List DV).length) .undef) []).bind (retD TT Try.f91.results.toList 0) = (impl_made_i4_T v1067 v1068 v1069 v1070 v1071 v1072 v1073 v1074).bind fun y => .leaf (impl_made_i4_enc v1067 v1068 v1069 v1070 v1071 v1072 v1073 v1074 y) := by kernel_rfl
theorem impl_made_i4_fn (v1067 : Int) (v1068 : Int) (v1069 : Int) (v1070 : Int) (v1071 : List Nat) (v1072 : Int) (v1073 : Int) (v1074 : List Nat) (F : Fr) (hm : F.ids.length = 0) (h0 : St F [] F.H0) (hA : DVs.Ok F [] [.int .i64 v1067, .int .i64 v1068, .fn 97 [.bptr (BR.root 0) [.int .i64 v1069, .int .i64 v1070, .bslc (BR.root 1) (.f32 v1071)], .bptr (BR.root 2) [.int .i64 v1072, .int .i64 v1073, .bslc (BR.root 3) (.f32 v1074)]]]) {y : Int × Int × (List Nat)} (hy : impl_made_i4_g v1067 v1068 v1069 v1070 v1071 v1072 v1073 v1074 = some y) : ∃ H', FnOk Try.prog 91 (DVs.av F [.int .i64 v1067, .int .i64 v1068, .fn 97 [.bptr (BR.root 0) [.int .i64 v1069, .int .i64 v1070, .bslc (BR.root 1) (.f32 v1071)], .bptr (BR.root 2) [.int .i64 v1072, .int .i64 v1073, .bslc (BR.root 3) (.f32 v1074)]]]) F.H0 ((impl_made_i4_enc v1067 v1068 v1069 v1070 v1071 v1072 v1073 v1074 y).1.av F) H' ∧ St F (impl_made_i4_enc v1067 v1068 v1069 v1070 v1071 v1072 v1073 v1074 y).2 H' ∧ (impl_made_i4_enc v1067 v1068 v1069 v1070 v1071 v1072 v1073 v1074 y).1.Ok F (impl_made_i4_enc v1067 v1068 v1069 v1070 v1071 v1072 v1073 v1074 y).2 :=
  fn_fin tok impl_made_i4_hO mixed Try.func91 Try.call91 (by kernel_rfl) (LoopsOk_eq (l := [(0, bodyOf Try.f91 0)]) (by kernel_rfl) ⟨impl_made_i4_l0_ok v1067 v1068 v1069 v1070 v1071 v1072 v1073 v1074, trivial⟩) (impl_made_i4_den v1067 v1068 v1069 v1070 v1071 v1072 v1073 v1074) hy hm h0 hA
noncomputable def impl_made_i4_F : DFn := fun args L =>
  match args with
  | [.int .i64 v1067, .int .i64 v1068, .fn 97 [a1, a3]] =>
    optT (cellsOf L 3 a1) fun cs0 =>
    (match cs0 with
    | [.int .i64 v1069, .int .i64 v1070, a2] =>
    optT (rowF32 L a2) fun v1071 =>
    optT (cellsOf L 3 a3) fun cs2 =>
    (match cs2 with
    | [.int .i64 v1072, .int .i64 v1073, a4] =>
    optT (rowF32 L a4) fun v1074 =>
    .call (impl_made_i4_g v1067 v1068 v1069 v1070 v1071 v1072 v1073 v1074) fun y => .leaf (.agg [.int .i64 y.1, .int .i64 y.2.1, .own (L.length + 0) 0 ((y.2.2).length)], L ++ [.row (.f32 y.2.2) 0])
    | _ => .fail)
    | _ => .fail)
  | _ => .fail
theorem impl_made_i4_Fok : COk Try.prog 91 impl_made_i4_F true := by
  intro F L H args r L' hs ha hr
  unfold impl_made_i4_F at hr
  split at hr
  · rename_i v1067 v1068 a1 a3
    obtain ⟨cs0, hcp0, hr⟩ := optT_run hr
    split at hr
    · rename_i v1069 v1070 a2
      obtain ⟨v1071, hv1071, hr⟩ := optT_run hr
      obtain ⟨cs2, hcp2, hr⟩ := optT_run hr
      split at hr
      · rename_i v1072 v1073 a4
        obtain ⟨v1074, hv1074, hr⟩ := optT_run hr
        simp only [Tree.run] at hr
        obtain ⟨y, hy, hr⟩ := Option.bind_eq_some_iff.1 hr
        simp only [Tree.run, Option.some.injEq, Prod.mk.injEq] at hr
        obtain ⟨rfl, rfl⟩ := hr
        exact call_ok1 hs (fun k => (([a1.av F, a2.av F, a3.av F, a4.av F] : List AV)[k]?).getD .top) [.int .i64 v1067, .int .i64 v1068, .fn 97 [a1, a3]] [.int .i64 v1067, .int .i64 v1068, .fn 97 [.bptr (BR.root 0) [.int .i64 v1069, .int .i64 v1070, .bslc (BR.root 1) (.f32 v1071)], .bptr (BR.root 2) [.int .i64 v1072, .int .i64 v1073, .bslc (BR.root 3) (.f32 v1074)]]] (fun F' h0 hi hρ => ⟨by simp [DVs.av, DV.av, BR.av, hρ], impl_made_i4_fn v1067 v1068 v1069 v1070 v1071 v1072 v1073 v1074 F' (by rw [hi]; rfl) (st_nil hi) ⟨trivial, trivial, ⟨bptr_ok hi (by rw [h0]; simpa [DVs.av, DV.av, BR.av, hρ] using (cellsOf_ok hs (DVs.okAt (DVs.okAt ha 2 rfl) 0 rfl) hcp0).1) ⟨trivial, trivial, bslc_ok hi (by rw [h0, hρ]; exact rowF32_ok hs (DVs.okAt (cellsOf_ok hs (DVs.okAt (DVs.okAt ha 2 rfl) 0 rfl) hcp0).2 2 rfl) hv1071), trivial⟩, bptr_ok hi (by rw [h0]; simpa [DVs.av, DV.av, BR.av, hρ] using (cellsOf_ok hs (DVs.okAt (DVs.okAt ha 2 rfl) 1 rfl) hcp2).1) ⟨trivial, trivial, bslc_ok hi (by rw [h0, hρ]; exact rowF32_ok hs (DVs.okAt (cellsOf_ok hs (DVs.okAt (DVs.okAt ha 2 rfl) 1 rfl) hcp2).2 2 rfl) hv1074), trivial⟩, trivial⟩, trivial⟩ hy⟩) rfl rfl
      · cases hr
    · cases hr
  · cases hr
/-! impl.ExpMatrix -/
noncomputable def impl_ExpMatrix_l0_T (v462 : List Nat) (s : (Int × Int × Int) ⊕ (Int × Int × Int × (List Nat))) : Tree (((Int × Int × Int) ⊕ (Int × Int × Int × (List Nat))) ⊕ ((Unit) ⊕ ((Int × Int × Int) ⊕ (Int × Int × Int × (List Nat))))) :=
  (match s with
  | .inl s => (
  (.call (impl_RowNorm_g s.2.1 s.2.2 v462) fun v718 =>
  (.sum v718 (fun v719 =>
   .leaf (.inr (.inl ()))
  ) (fun v720 =>
   (.br (!(fgrt .f32 v720 (1056964608 : Nat))) (
    .leaf (.inr (.inr (.inl (s.1, s.2.1, s.2.2))))
   ) (
    (.br (decide (s.1 = (64 : Int))) (
     .leaf (.inr (.inr (.inl (s.1, s.2.1, s.2.2))))
    ) (
     (.call (impl_made_g s.2.1 s.2.1 s.2.1 s.2.2 v462) fun v721 =>
     .leaf (.inl (.inr (IntKind.i64.wrap (s.1 + (1 : Int)), v721.1, v721.2.1, v721.2.2))))
    ))
   ))
  ))))
  | .inr s => (
  (.call (impl_RowNorm_g s.2.1 s.2.2.1 s.2.2.2) fun v722 =>
  (.sum v722 (fun v723 =>
   .leaf (.inr (.inl ()))
  ) (fun v724 =>
   (.br (!(fgrt .f32 v724 (1056964608 : Nat))) (
    .leaf (.inr (.inr (.inr (s.1, s.2.1, s.2.2.1, s.2.2.2))))
   ) (
    (.br (decide (s.1 = (64 : Int))) (
     .leaf (.inr (.inr (.inr (s.1, s.2.1, s.2.2.1, s.2.2.2))))
    ) (
     (.call (impl_made_g s.2.1 s.2.1 s.2.1 s.2.2.1 s.2.2.2) fun v725 =>
     .leaf (.inl (.inr (IntKind.i64.wrap (s.1 + (1 : Int)), v725.1, v725.2.1, v725.2.2))))
    ))
   ))
  )))))

noncomputable def impl_ExpMatrix_l0_g (v462 : List Nat) (s0 : (Int × Int × Int) ⊕ (Int × Int × Int × (List Nat))) : Option ((Unit) ⊕ ((Int × Int × Int) ⊕ (Int × Int × Int × (List Nat)))) := whileM (fun s => (impl_ExpMatrix_l0_T v462 s).run) s0
def impl_ExpMatrix_l0_E (v460 : Int) (v461 : Int) (v462 : List Nat) (v463 : Int) (s : (Int × Int × Int) ⊕ (Int × Int × Int × (List Nat))) : Sd := (match s with | .inl s => ( ([.top, .int .i64 v463, .ptr 0 (0 : Nat) 0 (3 : Nat), .top, .ptr 1 (0 : Nat) 0 (3 : Nat), .top, .int .i64 s.1, .top, .top, .top, .top, .top, .top, .top, .top, .top, .top, .top, .top, .top, .top, .top, .top, .top, .top, .top, .top, .top, .top, .top, .top, .top, .top, .top, .top, .top, .top, .top, .top, .top, .top, .top, .top, .top, .top, .top, .top, .top, .top, .top, .top, .top, .top, .top, .top, .top, .top, .top, .top, .top, .top, .top, .top, .top, .top, .top, .top, .top, .top, .top, .top, .top, .top, .top, .top, .top, .top, .top, .top, .top, .top, .top, .top, .top, .top, .top, .top, .top, .top, .top, .top, .top, .top, .top, .top, .top, .top, .top, .top, .top, .top, .top, .top, .top], [.gen [.int .i64 s.2.1, .int .i64 s.2.2, .bslc (BR.root 0) (.f32 v462)] false 0, .gen [.int .i64 (0 : Int), .int .i64 (0 : Int), .nilslc] false 0])) | .inr s => ( ([.top, .int .i64 v463, .ptr 0 (0 : Nat) 0 (3 : Nat), .top, .ptr 1 (0 : Nat) 0 (3 : Nat), .top, .int .i64 s.1, .top, .top, .top, .top, .top, .top, .top, .top, .top, .top, .top, .top, .top, .top, .top, .top, .top, .top, .top, .top, .top, .top, .top, .top, .top, .top, .top, .top, .top, .top, .top, .top, .top, .top, .top, .top, .top, .top, .top, .top, .top, .top, .top, .top, .top, .top, .top, .top, .top, .top, .top, .top, .top, .top, .top, .top, .top, .top, .top, .top, .top, .top, .top, .top, .top, .top, .top, .top, .top, .top, .top, .top, .top, .top, .top, .top, .top, .top, .top, .top, .top, .top, .top, .top, .top, .top, .top, .top, .top, .top, .top, .top, .top, .top, .top, .top, .top], [.gen [.int .i64 s.2.1, .int .i64 s.2.2.1, .own 2 0 ((s.2.2.2).length)] false 0, .gen [.int .i64 (0 : Int), .int .i64 (0 : Int), .nilslc] false 0, .row (.f32 s.2.2.2) 0]))) 
def impl_ExpMatrix_l0_X (v460 : Int) (v461 : Int) (v462 : List Nat) (v463 : Int) (x : (Unit) ⊕ ((Int × Int × Int) ⊕ (Int × Int × Int × (List Nat)))) : Out := (match x with | .inl x => (.ret, [.top, .top, .top, .top, .ptr 0 (0 : Nat) 0 (3 : Nat), .lit false, .top, .top, .top, .top, .top, .top, .top, .top, .top, .top, .top, .top, .top, .top, .top, .top, .top, .top, .top, .top, .top, .top, .top, .top, .top, .top, .top, .top, .top, .top, .top, .top, .top, .top, .top, .top, .top, .top, .top, .top, .top, .top, .top, .top, .top, .top, .top, .top, .top, .top, .top, .top, .top, .top, .top, .top, .top, .top, .top, .top, .top, .top, .top, .top, .top, .top, .top, .top, .top, .top, .top, .top, .top, .top, .top, .top, .top, .top, .top, .top, .top, .top, .top, .top, .top, .top, .top, .top, .top, .top, .top, .top, .top, .top, .top, .top, .top, .top], [.gen [.int .i64 (0 : Int), .int .i64 (0 : Int), .nilslc] false 0]) | .inr x => (match x with | .inl x => (.normal, [.top, .int .i64 v463, .ptr 0 (0 : Nat) 0 (3 : Nat), .top, .ptr 1 (0 : Nat) 0 (3 : Nat), .top, .int .i64 x.1, .top, .top, .top, .top, .top, .top, .top, .top, .top, .top, .top, .top, .top, .top, .top, .top, .top, .top, .top, .top, .top, .top, .top, .top, .top, .top, .top, .top, .top, .top, .top, .top, .top, .top, .top, .top, .top, .top, .top, .top, .top, .top, .top, .top, .top, .top, .top, .top, .top, .top, .top, .top, .top, .top, .top, .top, .top, .top, .top, .top, .top, .top, .top, .top, .top, .top, .top, .top, .top, .top, .top, .top, .top, .top, .top, .top, .top, .top, .top, .top, .top, .top, .top, .top, .top, .top, .top, .top, .top, .top, .top, .top, .top, .top, .top, .top, .top], [.gen [.int .i64 x.2.1, .int .i64 x.2.2, .bslc (BR.root 0) (.f32 v462)] false 0, .gen [.int .i64 (0 : Int), .int .i64 (0 : Int), .nilslc] false 0]) | .inr x => (.normal, [.top, .int .i64 v463, .ptr 0 (0 : Nat) 0 (3 : Nat), .top, .ptr 1 (0 : Nat) 0 (3 : Nat), .top, .int .i64 x.1, .top, .top, .top, .top, .top, .top, .top, .top, .top, .top, .top, .top, .top, .top, .top, .top, .top, .top, .top, .top, .top, .top, .top, .top, .top, .top, .top, .top, .top, .top, .top, .top, .top, .top, .top, .top, .top, .top, .top, .top, .top, .top, .top, .top, .top, .top, .top, .top, .top, .top, .top, .top, .top, .top, .top, .top, .top, .top, .top, .top, .top, .top, .top, .top, .top, .top, .top, .top, .top, .top, .top, .top, .top, .top, .top, .top, .top, .top, .top, .top, .top, .top, .top, .top, .top, .top, .top, .top, .top, .top, .top, .top, .top, .top, .top, .top, .top], [.gen [.int .i64 x.2.1, .int .i64 x.2.2.1, .own 2 0 ((x.2.2.2).length)] false 0, .gen [.int .i64 (0 : Int), .int .i64 (0 : Int), .nilslc] false 0, .row (.f32 x.2.2.2) 0])))
def impl_ExpMatrix_l0_kill : List Nat := [1, 0, 0, 1, 0, 1, 0, 1, 1, 1, 1, 1, 1, 1, 1, 1, 1, 1, 1, 1, 1, 1, 1, 1, 1, 1, 1, 1, 1, 1, 1, 1, 1, 1, 1, 1, 1, 1, 1, 1, 1, 1, 1, 1, 1, 1, 1, 1, 1, 1, 1, 1, 1, 1, 1, 1, 1, 1, 1, 1, 1, 1, 1, 1, 1, 1, 1, 1, 1, 1, 1, 1, 1, 1, 1, 1, 1, 1, 1, 1, 1, 1, 1, 1, 1, 1, 1, 1, 1, 1, 1, 1, 1, 1, 1, 1, 1, 1, 1, 1, 1, 1, 1, 1]
def impl_ExpMatrix_l0_nx : Exit → List Nat
  | .exit 0 => [1, 0, 0, 1, 0, 1, 0, 1, 1, 1, 1, 1, 1, 1, 1, 1, 1, 1, 1, 1, 1, 1, 1, 1, 1, 1, 1, 1, 1, 1, 1, 1, 1, 1, 1, 1, 1, 1, 1, 1, 1, 1, 1, 1, 1, 1, 1, 1, 1, 1, 1, 1, 1, 1, 1, 1, 1, 1, 1, 1, 1, 1, 1, 1, 1, 1, 1, 1, 1, 1, 1, 1, 1, 1, 1, 1, 1, 1, 1, 1, 1, 1, 1, 1, 1, 1, 1, 1, 1, 1, 1, 1, 1, 1, 1, 1, 1, 1, 1, 1, 1, 1, 1, 1]
  | .ret => [1, 1, 1, 1, 0, 0, 1, 1, 1, 1, 1, 1, 1, 1, 1, 1, 1, 1, 1, 1, 1, 1, 1, 1, 1, 1, 1, 1, 1, 1, 1, 1, 1, 1, 1, 1, 1, 1, 1, 1, 1, 1, 1, 1, 1, 1, 1, 1, 1, 1, 1, 1, 1, 1, 1, 1, 1, 1, 1, 1, 1, 1, 1, 1, 1, 1, 1, 1, 1, 1, 1, 1, 1, 1, 1, 1, 1, 1, 1, 1, 1, 1, 1, 1, 1, 1, 1, 1, 1, 1, 1, 1, 1, 1, 1, 1, 1, 1, 1, 1, 1, 1, 1, 1]
  | _ => []
noncomputable def impl_ExpMatrix_l2_T (v462 : List Nat) (v463 : Int) (v1181 : Int) (v1182 : Int) (v1183 : Int) (s : Int × Int × Int × Int × Int × (List Nat) × (List Nat)) : Tree ((Int × Int × Int × Int × Int × (List Nat) × (List Nat)) ⊕ ((Unit) ⊕ (Int × Int × (List Nat)))) :=
  (.br (decide (s.2.2.2.2.1 ≤ v463)) (
   (.call (impl_MulMatrices_g s.2.2.1 s.2.2.2.1 s.2.2.2.2.2.2 v1182 v1183 v462) fun v1191 =>
   (.sum v1191 (fun v1192 =>
    .leaf (.inr (.inl ()))
   ) (fun v1193 =>
    (.call (impl_made_i3_g v1182 v1182 v1193.1 v1193.2.1 v1193.2.2 s.2.2.2.2.1) fun v1194 =>
    (.call (impl_made_i4_g v1182 v1182 s.1 s.2.1 s.2.2.2.2.2.1 v1194.1 v1194.2.1 v1194.2.2) fun v1195 =>
    (.call (impl_ValidMatrix_g v1195.1 v1195.2.1 v1195.2.2) fun v1196 =>
    (.br (!v1196) (
     .leaf (.inr (.inl ()))
    ) (
     .leaf (.inl (v1195.1, v1195.2.1, v1194.1, v1194.2.1, IntKind.i64.wrap (s.2.2.2.2.1 + (1 : Int)), v1195.2.2, v1194.2.2))
    )))))
   )))
  ) (
   .leaf (.inr (.inr (s.1, s.2.1, s.2.2.2.2.2.1)))
  ))

noncomputable def impl_ExpMatrix_l2_g (v462 : List Nat) (v463 : Int) (v1181 : Int) (v1182 : Int) (v1183 : Int) (s0 : Int × Int × Int × Int × Int × (List Nat) × (List Nat)) : Option ((Unit) ⊕ (Int × Int × (List Nat))) := whileM (fun s => (impl_ExpMatrix_l2_T v462 v463 v1181 v1182 v1183 s).run) s0
def impl_ExpMatrix_l2_E (v460 : Int) (v461 : Int) (v462 : List Nat) (v463 : Int) (v1181 : Int) (v1182 : Int) (v1183 : Int) (s : Int × Int × Int × Int × Int × (List Nat) × (List Nat)) : Sd := ([.top, .int .i64 v463, .ptr 0 (0 : Nat) 0 (3 : Nat), .top, .ptr 1 (0 : Nat) 0 (3 : Nat), .top, .int .i64 v1181, .top, .top, .top, .ptr 2 (0 : Nat) 0 (3 : Nat), .ptr 3 (0 : Nat) 0 (3 : Nat), .ptr 4 (0 : Nat) 0 (1 : Nat), .top, .top, .top, .top, .top, .top, .top, .top, .top, .top, .top, .top, .top, .top, .top, .top, .top, .top, .top, .top, .top, .top, .top, .top, .top, .top, .top, .top, .top, .top, .top, .top, .top, .top, .top, .top, .top, .top, .top, .top, .top, .top, .top, .top, .top, .top, .top, .top, .top, .top, .top, .top, .top, .top, .top, .top, .top, .top, .top, .top, .top, .top, .top, .top, .top, .top, .top, .top, .top, .top, .top, .top, .top, .top, .top, .top, .top, .top, .top, .top, .top, .top, .top, .top, .top, .top, .top, .top, .top, .top, .top], [.gen [.int .i64 v1182, .int .i64 v1183, .bslc (BR.root 0) (.f32 v462)] false 0, .gen [.int .i64 (0 : Int), .int .i64 (0 : Int), .nilslc] false 0, .gen [.int .i64 s.1, .int .i64 s.2.1, .own 5 0 ((s.2.2.2.2.2.1).length)] false 0, .gen [.int .i64 s.2.2.1, .int .i64 s.2.2.2.1, .own 6 0 ((s.2.2.2.2.2.2).length)] false 0, .gen [.int .i64 s.2.2.2.2.1] true 0, .row (.f32 s.2.2.2.2.2.1) 0, .row (.f32 s.2.2.2.2.2.2) 0])
def impl_ExpMatrix_l2_X (v460 : Int) (v461 : Int) (v462 : List Nat) (v463 : Int) (v1181 : Int) (v1182 : Int) (v1183 : Int) (x : (Unit) ⊕ (Int × Int × (List Nat))) : Out := (match x with | .inl x => (.ret, [.top, .top, .top, .top, .ptr 0 (0 : Nat) 0 (3 : Nat), .lit false, .top, .top, .top, .top, .top, .top, .top, .top, .top, .top, .top, .top, .top, .top, .top, .top, .top, .top, .top, .top, .top, .top, .top, .top, .top, .top, .top, .top, .top, .top, .top, .top, .top, .top, .top, .top, .top, .top, .top, .top, .top, .top, .top, .top, .top, .top, .top, .top, .top, .top, .top, .top, .top, .top, .top, .top, .top, .top, .top, .top, .top, .top, .top, .top, .top, .top, .top, .top, .top, .top, .top, .top, .top, .top, .top, .top, .top, .top, .top, .top, .top, .top, .top, .top, .top, .top, .top, .top, .top, .top, .top, .top, .top, .top, .top, .top, .top, .top], [.gen [.int .i64 (0 : Int), .int .i64 (0 : Int), .nilslc] false 0]) | .inr x => (.normal, [.top, .top, .top, .top, .ptr 0 (0 : Nat) 0 (3 : Nat), .top, .int .i64 v1181, .top, .top, .top, .ptr 1 (0 : Nat) 0 (3 : Nat), .top, .top, .top, .top, .top, .top, .top, .top, .top, .top, .top, .top, .top, .top, .top, .top, .top, .top, .top, .top, .top, .top, .top, .top, .top, .top, .top, .top, .top, .top, .top, .top, .top, .top, .top, .top, .top, .top, .top, .top, .top, .top, .top, .top, .top, .top, .top, .top, .top, .top, .top, .top, .top, .top, .top, .top, .top, .top, .top, .top, .top, .top, .top, .top, .top, .top, .top, .top, .top, .top, .top, .top, .top, .top, .top, .top, .top, .top, .top, .top, .top, .top, .top, .top, .top, .top, .top, .top, .top, .top, .top, .top, .top], [.gen [.int .i64 (0 : Int), .int .i64 (0 : Int), .nilslc] false 0, .gen [.int .i64 x.1, .int .i64 x.2.1, .own 2 0 ((x.2.2).length)] false 0, .row (.f32 x.2.2) 0]))
def impl_ExpMatrix_l2_kill : List Nat := [1, 0, 0, 1, 0, 1, 0, 1, 1, 1, 0, 0, 0, 1, 1, 1, 1, 1, 1, 1, 1, 1, 1, 1, 1, 1, 1, 1, 1, 1, 1, 1, 1, 1, 1, 1, 1, 1, 1, 1, 1, 1, 1, 1, 1, 1, 1, 1, 1, 1, 1, 1, 1, 1, 1, 1, 1, 1, 1, 1, 1, 1, 1, 1, 1, 1, 1, 1, 1, 1, 1, 1, 1, 1, 1, 1, 1, 1, 1, 1, 1, 1, 1, 1, 1, 1, 1, 1, 1, 1, 1, 1, 1, 1, 1, 1, 1, 1, 1, 1, 1, 1, 1, 1]
def impl_ExpMatrix_l2_nx : Exit → List Nat
  | .exit 2 => [1, 1, 1, 1, 0, 1, 0, 1, 1, 1, 0, 1, 1, 1, 1, 1, 1, 1, 1, 1, 1, 1, 1, 1, 1, 1, 1, 1, 1, 1, 1, 1, 1, 1, 1, 1, 1, 1, 1, 1, 1, 1, 1, 1, 1, 1, 1, 1, 1, 1, 1, 1, 1, 1, 1, 1, 1, 1, 1, 1, 1, 1, 1, 1, 1, 1, 1, 1, 1, 1, 1, 1, 1, 1, 1, 1, 1, 1, 1, 1, 1, 1, 1, 1, 1, 1, 1, 1, 1, 1, 1, 1, 1, 1, 1, 1, 1, 1, 1, 1, 1, 1, 1, 1]
  | .ret => [1, 1, 1, 1, 0, 0, 1, 1, 1, 1, 1, 1, 1, 1, 1, 1, 1, 1, 1, 1, 1, 1, 1, 1, 1, 1, 1, 1, 1, 1, 1, 1, 1, 1, 1, 1, 1, 1, 1, 1, 1, 1, 1, 1, 1, 1, 1, 1, 1, 1, 1, 1, 1, 1, 1, 1, 1, 1, 1, 1, 1, 1, 1, 1, 1, 1, 1, 1, 1, 1, 1, 1, 1, 1, 1, 1, 1, 1, 1, 1, 1, 1, 1, 1, 1, 1, 1, 1, 1, 1, 1, 1, 1, 1, 1, 1, 1, 1, 1, 1, 1, 1, 1, 1]
  | _ => []
noncomputable def impl_ExpMatrix_l4_T (v1216 : Int) (s : Int × Int × Int × (List Nat)) : Tree ((Int × Int × Int × (List Nat)) ⊕ ((Unit) ⊕ (Int × Int × (List Nat)))) :=
  (.br (decide (s.1 < v1216)) (
   (.call (impl_MulMatrices_g s.2.1 s.2.2.1 s.2.2.2 s.2.1 s.2.2.1 s.2.2.2) fun v1221 =>
   (.sum v1221 (fun v1222 =>
    .leaf (.inr (.inl ()))
   ) (fun v1223 =>
    .leaf (.inl (IntKind.i64.wrap (s.1 + (1 : Int)), v1223.1, v1223.2.1, v1223.2.2))
   )))
  ) (
   .leaf (.inr (.inr (s.2.1, s.2.2.1, s.2.2.2)))
  ))

noncomputable def impl_ExpMatrix_l4_g (v1216 : Int) (s0 : Int × Int × Int × (List Nat)) : Option ((Unit) ⊕ (Int × Int × (List Nat))) := whileM (fun s => (impl_ExpMatrix_l4_T v1216 s).run) s0
def impl_ExpMatrix_l4_E (v460 : Int) (v461 : Int) (v462 : List Nat) (v463 : Int) (v1216 : Int) (s : Int × Int × Int × (List Nat)) : Sd := ([.top, .top, .top, .top, .ptr 0 (0 : Nat) 0 (3 : Nat), .top, .top, .top, .top, .top, .ptr 1 (0 : Nat) 0 (3 : Nat), .top, .top, .top, .top, .top, .top, .top, .top, .top, .top, .top, .top, .top, .top, .top, .top, .top, .top, .top, .top, .top, .top, .top, .top, .top, .top, .top, .top, .top, .top, .top, .top, .top, .top, .top, .top, .top, .top, .top, .top, .top, .top, .top, .top, .top, .top, .top, .top, .top, .top, .top, .top, .top, .top, .top, .top, .top, .top, .top, .top, .top, .top, .top, .top, .top, .top, .top, .top, .top, .top, .top, .top, .top, .top, .top, .top, .top, .top, .int .i64 v1216, .int .i64 s.1, .top, .top, .top, .top, .top, .top, .top, .top, .top, .top, .top, .top, .top], [.gen [.int .i64 (0 : Int), .int .i64 (0 : Int), .nilslc] false 0, .gen [.int .i64 s.2.1, .int .i64 s.2.2.1, .own 2 0 ((s.2.2.2).length)] false 0, .row (.f32 s.2.2.2) 0])
def impl_ExpMatrix_l4_X (v460 : Int) (v461 : Int) (v462 : List Nat) (v463 : Int) (v1216 : Int) (x : (Unit) ⊕ (Int × Int × (List Nat))) : Out := (match x with | .inl x => (.ret, [.top, .top, .top, .top, .ptr 0 (0 : Nat) 0 (3 : Nat), .lit false, .top, .top, .top, .top, .top, .top, .top, .top, .top, .top, .top, .top, .top, .top, .top, .top, .top, .top, .top, .top, .top, .top, .top, .top, .top, .top, .top, .top, .top, .top, .top, .top, .top, .top, .top, .top, .top, .top, .top, .top, .top, .top, .top, .top, .top, .top, .top, .top, .top, .top, .top, .top, .top, .top, .top, .top, .top, .top, .top, .top, .top, .top, .top, .top, .top, .top, .top, .top, .top, .top, .top, .top, .top, .top, .top, .top, .top, .top, .top, .top, .top, .top, .top, .top, .top, .top, .top, .top, .top, .top, .top, .top, .top, .top, .top, .top, .top, .top], [.gen [.int .i64 (0 : Int), .int .i64 (0 : Int), .nilslc] false 0]) | .inr x => (.normal, [.top, .top, .top, .top, .ptr 0 (0 : Nat) 0 (3 : Nat), .top, .top, .top, .top, .top, .ptr 1 (0 : Nat) 0 (3 : Nat), .top, .top, .top, .top, .top, .top, .top, .top, .top, .top, .top, .top, .top, .top, .top, .top, .top, .top, .top, .top, .top, .top, .top, .top, .top, .top, .top, .top, .top, .top, .top, .top, .top, .top, .top, .top, .top, .top, .top, .top, .top, .top, .top, .top, .top, .top, .top, .top, .top, .top, .top, .top, .top, .top, .top, .top, .top, .top, .top, .top, .top, .top, .top, .top, .top, .top, .top, .top, .top, .top, .top, .top, .top, .top, .top, .top, .top, .top, .top, .top, .top, .top, .top, .top, .top, .top, .top, .top, .top, .top, .top, .top, .top], [.gen [.int .i64 (0 : Int), .int .i64 (0 : Int), .nilslc] false 0, .gen [.int .i64 x.1, .int .i64 x.2.1, .own 2 0 ((x.2.2).length)] false 0, .row (.f32 x.2.2) 0]))
def impl_ExpMatrix_l4_kill : List Nat := [1, 1, 1, 1, 0, 1, 1, 1, 1, 1, 0, 1, 1, 1, 1, 1, 1, 1, 1, 1, 1, 1, 1, 1, 1, 1, 1, 1, 1, 1, 1, 1, 1, 1, 1, 1, 1, 1, 1, 1, 1, 1, 1, 1, 1, 1, 1, 1, 1, 1, 1, 1, 1, 1, 1, 1, 1, 1, 1, 1, 1, 1, 1, 1, 1, 1, 1, 1, 1, 1, 1, 1, 1, 1, 1, 1, 1, 1, 1, 1, 1, 1, 1, 1, 1, 1, 1, 1, 1, 0, 0, 1, 1, 1, 1, 1, 1, 1, 1, 1, 1, 1, 1, 1]
def impl_ExpMatrix_l4_nx : Exit → List Nat
  | .exit 4 => [1, 1, 1, 1, 0, 1, 1, 1, 1, 1, 0, 1, 1, 1, 1, 1, 1, 1, 1, 1, 1, 1, 1, 1, 1, 1, 1, 1, 1, 1, 1, 1, 1, 1, 1, 1, 1, 1, 1, 1, 1, 1, 1, 1, 1, 1, 1, 1, 1, 1, 1, 1, 1, 1, 1, 1, 1, 1, 1, 1, 1, 1, 1, 1, 1, 1, 1, 1, 1, 1, 1, 1, 1, 1, 1, 1, 1, 1, 1, 1, 1, 1, 1, 1, 1, 1, 1, 1, 1, 1, 1, 1, 1, 1, 1, 1, 1, 1, 1, 1, 1, 1, 1, 1]
  | .ret => [1, 1, 1, 1, 0, 0, 1, 1, 1, 1, 1, 1, 1, 1, 1, 1, 1, 1, 1, 1, 1, 1, 1, 1, 1, 1, 1, 1, 1, 1, 1, 1, 1, 1, 1, 1, 1, 1, 1, 1, 1, 1, 1, 1, 1, 1, 1, 1, 1, 1, 1, 1, 1, 1, 1, 1, 1, 1, 1, 1, 1, 1, 1, 1, 1, 1, 1, 1, 1, 1, 1, 1, 1, 1, 1, 1, 1, 1, 1, 1, 1, 1, 1, 1, 1, 1, 1, 1, 1, 1, 1, 1, 1, 1, 1, 1, 1, 1, 1, 1, 1, 1, 1, 1]
  | _ => []
noncomputable def impl_ExpMatrix_l2_1_T (v463 : Int) (v1262 : Int) (v1263 : Int) (v1264 : Int) (v1270 : List Nat) (s : Int × Int × Int × Int × Int × (List Nat) × (List Nat)) : Tree ((Int × Int × Int × Int × Int × (List Nat) × (List Nat)) ⊕ ((Unit) ⊕ (Int × Int × (List Nat)))) :=
  (.br (decide (s.2.2.2.2.1 ≤ v463)) (
   (.call (impl_MulMatrices_g s.2.2.1 s.2.2.2.1 s.2.2.2.2.2.2 v1263 v1264 v1270) fun v1273 =>
   (.sum v1273 (fun v1274 =>
    .leaf (.inr (.inl ()))
   ) (fun v1275 =>
    (.call (impl_made_i3_g v1263 v1263 v1275.1 v1275.2.1 v1275.2.2 s.2.2.2.2.1) fun v1276 =>
    (.call (impl_made_i4_g v1263 v1263 s.1 s.2.1 s.2.2.2.2.2.1 v1276.1 v1276.2.1 v1276.2.2) fun v1277 =>
    (.call (impl_ValidMatrix_g v1277.1 v1277.2.1 v1277.2.2) fun v1278 =>
    (.br (!v1278) (
     .leaf (.inr (.inl ()))
    ) (
     .leaf (.inl (v1277.1, v1277.2.1, v1276.1, v1276.2.1, IntKind.i64.wrap (s.2.2.2.2.1 + (1 : Int)), v1277.2.2, v1276.2.2))
    )))))
   )))
  ) (
   .leaf (.inr (.inr (s.1, s.2.1, s.2.2.2.2.2.1)))
  ))

noncomputable def impl_ExpMatrix_l2_1_g (v463 : Int) (v1262 : Int) (v1263 : Int) (v1264 : Int) (v1270 : List Nat) (s0 : Int × Int × Int × Int × Int × (List Nat) × (List Nat)) : Option ((Unit) ⊕ (Int × Int × (List Nat))) := whileM (fun s => (impl_ExpMatrix_l2_1_T v463 v1262 v1263 v1264 v1270 s).run) s0
def impl_ExpMatrix_l2_1_E (v460 : Int) (v461 : Int) (v462 : List Nat) (v463 : Int) (v1262 : Int) (v1263 : Int) (v1264 : Int) (v1270 : List Nat) (s : Int × Int × Int × Int × Int × (List Nat) × (List Nat)) : Sd := ([.top, .int .i64 v463, .ptr 0 (0 : Nat) 0 (3 : Nat), .top, .ptr 1 (0 : Nat) 0 (3 : Nat), .top, .int .i64 v1262, .top, .top, .top, .ptr 2 (0 : Nat) 0 (3 : Nat), .ptr 3 (0 : Nat) 0 (3 : Nat), .ptr 4 (0 : Nat) 0 (1 : Nat), .top, .top, .top, .top, .top, .top, .top, .top, .top, .top, .top, .top, .top, .top, .top, .top, .top, .top, .top, .top, .top, .top, .top, .top, .top, .top, .top, .top, .top, .top, .top, .top, .top, .top, .top, .top, .top, .top, .top, .top, .top, .top, .top, .top, .top, .top, .top, .top, .top, .top, .top, .top, .top, .top, .top, .top, .top, .top, .top, .top, .top, .top, .top, .top, .top, .top, .top, .top, .top, .top, .top, .top, .top, .top, .top, .top, .top, .top, .top, .top, .top, .top, .top, .top, .top, .top, .top, .top, .top, .top, .top], [.gen [.int .i64 v1263, .int .i64 v1264, .own 5 0 ((v1270).length)] false 0, .gen [.int .i64 (0 : Int), .int .i64 (0 : Int), .nilslc] false 0, .gen [.int .i64 s.1, .int .i64 s.2.1, .own 6 0 ((s.2.2.2.2.2.1).length)] false 0, .gen [.int .i64 s.2.2.1, .int .i64 s.2.2.2.1, .own 7 0 ((s.2.2.2.2.2.2).length)] false 0, .gen [.int .i64 s.2.2.2.2.1] true 0, .row (.f32 v1270) 0, .row (.f32 s.2.2.2.2.2.1) 0, .row (.f32 s.2.2.2.2.2.2) 0])
def impl_ExpMatrix_l2_1_X (v460 : Int) (v461 : Int) (v462 : List Nat) (v463 : Int) (v1262 : Int) (v1263 : Int) (v1264 : Int) (v1270 : List Nat) (x : (Unit) ⊕ (Int × Int × (List Nat))) : Out := (match x with | .inl x => (.ret, [.top, .top, .top, .top, .ptr 0 (0 : Nat) 0 (3 : Nat), .lit false, .top, .top, .top, .top, .top, .top, .top, .top, .top, .top, .top, .top, .top, .top, .top, .top, .top, .top, .top, .top, .top, .top, .top, .top, .top, .top, .top, .top, .top, .top, .top, .top, .top, .top, .top, .top, .top, .top, .top, .top, .top, .top, .top, .top, .top, .top, .top, .top, .top, .top, .top, .top, .top, .top, .top, .top, .top, .top, .top, .top, .top, .top, .top, .top, .top, .top, .top, .top, .top, .top, .top, .top, .top, .top, .top, .top, .top, .top, .top, .top, .top, .top, .top, .top, .top, .top, .top, .top, .top, .top, .top, .top, .top, .top, .top, .top, .top, .top], [.gen [.int .i64 (0 : Int), .int .i64 (0 : Int), .nilslc] false 0]) | .inr x => (.normal, [.top, .top, .top, .top, .ptr 0 (0 : Nat) 0 (3 : Nat), .top, .int .i64 v1262, .top, .top, .top, .ptr 1 (0 : Nat) 0 (3 : Nat), .top, .top, .top, .top, .top, .top, .top, .top, .top, .top, .top, .top, .top, .top, .top, .top, .top, .top, .top, .top, .top, .top, .top, .top, .top, .top, .top, .top, .top, .top, .top, .top, .top, .top, .top, .top, .top, .top, .top, .top, .top, .top, .top, .top, .top, .top, .top, .top, .top, .top, .top, .top, .top, .top, .top, .top, .top, .top, .top, .top, .top, .top, .top, .top, .top, .top, .top, .top, .top, .top, .top, .top, .top, .top, .top, .top, .top, .top, .top, .top, .top, .top, .top, .top, .top, .top, .top, .top, .top, .top, .top, .top, .top], [.gen [.int .i64 (0 : Int), .int .i64 (0 : Int), .nilslc] false 0, .gen [.int .i64 x.1, .int .i64 x.2.1, .own 2 0 ((x.2.2).length)] false 0, .row (.f32 x.2.2) 0]))
def impl_ExpMatrix_l2_1_kill : List Nat := [1, 0, 0, 1, 0, 1, 0, 1, 1, 1, 0, 0, 0, 1, 1, 1, 1, 1, 1, 1, 1, 1, 1, 1, 1, 1, 1, 1, 1, 1, 1, 1, 1, 1, 1, 1, 1, 1, 1, 1, 1, 1, 1, 1, 1, 1, 1, 1, 1, 1, 1, 1, 1, 1, 1, 1, 1, 1, 1, 1, 1, 1, 1, 1, 1, 1, 1, 1, 1, 1, 1, 1, 1, 1, 1, 1, 1, 1, 1, 1, 1, 1, 1, 1, 1, 1, 1, 1, 1, 1, 1, 1, 1, 1, 1, 1, 1, 1, 1, 1, 1, 1, 1, 1]
def impl_ExpMatrix_l2_1_nx : Exit → List Nat
  | .exit 2 => [1, 1, 1, 1, 0, 1, 0, 1, 1, 1, 0, 1, 1, 1, 1, 1, 1, 1, 1, 1, 1, 1, 1, 1, 1, 1, 1, 1, 1, 1, 1, 1, 1, 1, 1, 1, 1, 1, 1, 1, 1, 1, 1, 1, 1, 1, 1, 1, 1, 1, 1, 1, 1, 1, 1, 1, 1, 1, 1, 1, 1, 1, 1, 1, 1, 1, 1, 1, 1, 1, 1, 1, 1, 1, 1, 1, 1, 1, 1, 1, 1, 1, 1, 1, 1, 1, 1, 1, 1, 1, 1, 1, 1, 1, 1, 1, 1, 1, 1, 1, 1, 1, 1, 1]
  | .ret => [1, 1, 1, 1, 0, 0, 1, 1, 1, 1, 1, 1, 1, 1, 1, 1, 1, 1, 1, 1, 1, 1, 1, 1, 1, 1, 1, 1, 1, 1, 1, 1, 1, 1, 1, 1, 1, 1, 1, 1, 1, 1, 1, 1, 1, 1, 1, 1, 1, 1, 1, 1, 1, 1, 1, 1, 1, 1, 1, 1, 1, 1, 1, 1, 1, 1, 1, 1, 1, 1, 1, 1, 1, 1, 1, 1, 1, 1, 1, 1, 1, 1, 1, 1, 1, 1, 1, 1, 1, 1, 1, 1, 1, 1, 1, 1, 1, 1, 1, 1, 1, 1, 1, 1]
  | _ => []
noncomputable def impl_ExpMatrix_LO (v460 : Int) (v461 : Int) (v462 : List Nat) (v463 : Int) : LOr := fun id e L =>
  match id with
  | 0 => .need (normA 0 impl_ExpMatrix_l0_kill e L = some (impl_ExpMatrix_l0_E v460 v461 v462 v463 (.inl ((gI (vAt e 6)), (gI (cAt L (vAt e 2) 0)), (gI (cAt L (vAt e 2) 1)))))) (.call (impl_ExpMatrix_l0_g v462 (.inl ((gI (vAt e 6)), (gI (cAt L (vAt e 2) 0)), (gI (cAt L (vAt e 2) 1))))) fun x => .sum x (fun b0 => .leaf (impl_ExpMatrix_l0_X v460 v461 v462 v463 (.inl b0))) (fun c0 => .sum c0 (fun b1 => .leaf (impl_ExpMatrix_l0_X v460 v461 v462 v463 (.inr (.inl b1)))) (fun c1 => .leaf (impl_ExpMatrix_l0_X v460 v461 v462 v463 (.inr (.inr c1))))))
  | 2 => (match (match (cAt L (vAt e 2) 2) with | .bslc .. => true | _ => false) with | true => .need (normA 0 impl_ExpMatrix_l2_kill e L = some (impl_ExpMatrix_l2_E v460 v461 v462 v463 (gI (vAt e 6)) (gI (cAt L (vAt e 2) 0)) (gI (cAt L (vAt e 2) 1)) ((gI (cAt L (vAt e 10) 0)), (gI (cAt L (vAt e 10) 1)), (gI (cAt L (vAt e 11) 0)), (gI (cAt L (vAt e 11) 1)), (gI (cAt L (vAt e 12) 0)), (gRF L (cAt L (vAt e 10) 2)), (gRF L (cAt L (vAt e 11) 2))))) (.call (impl_ExpMatrix_l2_g v462 v463 (gI (vAt e 6)) (gI (cAt L (vAt e 2) 0)) (gI (cAt L (vAt e 2) 1)) ((gI (cAt L (vAt e 10) 0)), (gI (cAt L (vAt e 10) 1)), (gI (cAt L (vAt e 11) 0)), (gI (cAt L (vAt e 11) 1)), (gI (cAt L (vAt e 12) 0)), (gRF L (cAt L (vAt e 10) 2)), (gRF L (cAt L (vAt e 11) 2)))) fun x => .sum x (fun b0 => .leaf (impl_ExpMatrix_l2_X v460 v461 v462 v463 (gI (vAt e 6)) (gI (cAt L (vAt e 2) 0)) (gI (cAt L (vAt e 2) 1)) (.inl b0))) (fun c0 => .leaf (impl_ExpMatrix_l2_X v460 v461 v462 v463 (gI (vAt e 6)) (gI (cAt L (vAt e 2) 0)) (gI (cAt L (vAt e 2) 1)) (.inr c0)))) | false => .need (normA 0 impl_ExpMatrix_l2_1_kill e L = some (impl_ExpMatrix_l2_1_E v460 v461 v462 v463 (gI (vAt e 6)) (gI (cAt L (vAt e 2) 0)) (gI (cAt L (vAt e 2) 1)) (gRF L (cAt L (vAt e 2) 2)) ((gI (cAt L (vAt e 10) 0)), (gI (cAt L (vAt e 10) 1)), (gI (cAt L (vAt e 11) 0)), (gI (cAt L (vAt e 11) 1)), (gI (cAt L (vAt e 12) 0)), (gRF L (cAt L (vAt e 10) 2)), (gRF L (cAt L (vAt e 11) 2))))) (.call (impl_ExpMatrix_l2_1_g v463 (gI (vAt e 6)) (gI (cAt L (vAt e 2) 0)) (gI (cAt L (vAt e 2) 1)) (gRF L (cAt L (vAt e 2) 2)) ((gI (cAt L (vAt e 10) 0)), (gI (cAt L (vAt e 10) 1)), (gI (cAt L (vAt e 11) 0)), (gI (cAt L (vAt e 11) 1)), (gI (cAt L (vAt e 12) 0)), (gRF L (cAt L (vAt e 10) 2)), (gRF L (cAt L (vAt e 11) 2)))) fun x => .sum x (fun b0 => .leaf (impl_ExpMatrix_l2_1_X v460 v461 v462 v463 (gI (vAt e 6)) (gI (cAt L (vAt e 2) 0)) (gI (cAt L (vAt e 2) 1)) (gRF L (cAt L (vAt e 2) 2)) (.inl b0))) (fun c0 => .leaf (impl_ExpMatrix_l2_1_X v460 v461 v462 v463 (gI (vAt e 6)) (gI (cAt L (vAt e 2) 0)) (gI (cAt L (vAt e 2) 1)) (gRF L (cAt L (vAt e 2) 2)) (.inr c0)))))
  | 4 => .need (normA 0 impl_ExpMatrix_l4_kill e L = some (impl_ExpMatrix_l4_E v460 v461 v462 v463 (gI (vAt e 89)) ((gI (vAt e 90)), (gI (cAt L (vAt e 10) 0)), (gI (cAt L (vAt e 10) 1)), (gRF L (cAt L (vAt e 10) 2))))) (.call (impl_ExpMatrix_l4_g (gI (vAt e 89)) ((gI (vAt e 90)), (gI (cAt L (vAt e 10) 0)), (gI (cAt L (vAt e 10) 1)), (gRF L (cAt L (vAt e 10) 2)))) fun x => .sum x (fun b0 => .leaf (impl_ExpMatrix_l4_X v460 v461 v462 v463 (gI (vAt e 89)) (.inl b0))) (fun c0 => .leaf (impl_ExpMatrix_l4_X v460 v461 v462 v463 (gI (vAt e 89)) (.inr c0))))
  | _ => .fail
noncomputable def impl_ExpMatrix_tab : List (FuncId × DFn × Bool) := [(89, impl_isSquare_F, true), (72, impl_inRange_F, true), (90, impl_RowNorm_F, true), (91, (orD (fun args => match args with | [_, _, .fn 92 _] => true | _ => false) impl_made_F (orD (fun args => match args with | [_, _, .fn 96 _] => true | _ => false) impl_made_i3_F impl_made_i4_F)), true), (94, impl_unit_F, true), (95, impl_MulMatrices_F, true), (98, impl_ValidMatrix_F, true)]
theorem impl_ExpMatrix_hO : OrcOk Try.prog (tabD impl_ExpMatrix_tab) (tabM impl_ExpMatrix_tab) := tabD_cons impl_isSquare_Fok (tabD_cons impl_inRange_Fok (tabD_cons impl_RowNorm_Fok (tabD_cons (orD_ok impl_made_Fok (orD_ok impl_made_i3_Fok impl_made_i4_Fok)) (tabD_cons impl_unit_Fok (tabD_cons impl_MulMatrices_Fok (tabD_cons impl_ValidMatrix_Fok (tabD_nil _)))))))
theorem impl_ExpMatrix_l0_be0 (v460 : Int) (v461 : Int) (v462 : List Nat) (v463 : Int) (s : Int × Int × Int) : bodyT TT (tabD impl_ExpMatrix_tab) (tabM impl_ExpMatrix_tab) (impl_ExpMatrix_LO v460 v461 v462 v463) 0 impl_ExpMatrix_l0_kill impl_ExpMatrix_l0_nx (bodyOf Try.f32 0) 0 (impl_ExpMatrix_l0_E v460 v461 v462 v463 (.inl s)) = (impl_ExpMatrix_l0_T v462 (.inl s)).bind fun y => .leaf (outS (impl_ExpMatrix_l0_E v460 v461 v462 v463) (impl_ExpMatrix_l0_X v460 v461 v462 v463) y) := by kernel_rfl
theorem impl_ExpMatrix_l0_be1 (v460 : Int) (v461 : Int) (v462 : List Nat) (v463 : Int) (s : Int × Int × Int × (List Nat)) : bodyT TT (tabD impl_ExpMatrix_tab) (tabM impl_ExpMatrix_tab) (impl_ExpMatrix_LO v460 v461 v462 v463) 0 impl_ExpMatrix_l0_kill impl_ExpMatrix_l0_nx (bodyOf Try.f32 0) 0 (impl_ExpMatrix_l0_E v460 v461 v462 v463 (.inr s)) = (impl_ExpMatrix_l0_T v462 (.inr s)).bind fun y => .leaf (outS (impl_ExpMatrix_l0_E v460 v461 v462 v463) (impl_ExpMatrix_l0_X v460 v461 v462 v463) y) := by kernel_rfl
theorem impl_ExpMatrix_l0_be (v460 : Int) (v461 : Int) (v462 : List Nat) (v463 : Int) (s : (Int × Int × Int) ⊕ (Int × Int × Int × (List Nat))) : bodyT TT (tabD impl_ExpMatrix_tab) (tabM impl_ExpMatrix_tab) (impl_ExpMatrix_LO v460 v461 v462 v463) 0 impl_ExpMatrix_l0_kill impl_ExpMatrix_l0_nx (bodyOf Try.f32 0) 0 (impl_ExpMatrix_l0_E v460 v461 v462 v463 s) = (impl_ExpMatrix_l0_T v462 s).bind fun y => .leaf (outS (impl_ExpMatrix_l0_E v460 v461 v462 v463) (impl_ExpMatrix_l0_X v460 v461 v462 v463) y) := by 
  rcases s with s | s
  · exact impl_ExpMatrix_l0_be0 v460 v461 v462 v463 s
  · exact impl_ExpMatrix_l0_be1 v460 v461 v462 v463 s
theorem impl_ExpMatrix_l0_ok (v460 : Int) (v461 : Int) (v462 : List Nat) (v463 : Int) : LSound Try.prog 0 (impl_ExpMatrix_LO v460 v461 v462 v463) 0 (bodyOf Try.f32 0) := by
  intro e L out h
  exact lo_ok (E := impl_ExpMatrix_l0_E v460 v461 v462 v463) (gT := impl_ExpMatrix_l0_T v462) (X := impl_ExpMatrix_l0_X v460 v461 v462 v463) (s0 := .inl ((gI (vAt e 6)), (gI (cAt L (vAt e 2) 0)), (gI (cAt L (vAt e 2) 1)))) tok impl_ExpMatrix_hO mixed (LoopsOk_eq (l := []) (by kernel_rfl) trivial) (impl_ExpMatrix_l0_be v460 v461 v462 v463) rfl (by intro x; (cases x with | inl b => rfl | inr x => (cases x with | inl b => rfl | inr x => exact rfl))) h
theorem impl_ExpMatrix_l2_be (v460 : Int) (v461 : Int) (v462 : List Nat) (v463 : Int) (v1181 : Int) (v1182 : Int) (v1183 : Int) (s : Int × Int × Int × Int × Int × (List Nat) × (List Nat)) : bodyT TT (tabD impl_ExpMatrix_tab) (tabM impl_ExpMatrix_tab) (impl_ExpMatrix_LO v460 v461 v462 v463) 0 impl_ExpMatrix_l2_kill impl_ExpMatrix_l2_nx (bodyOf Try.f32 2) 2 (impl_ExpMatrix_l2_E v460 v461 v462 v463 v1181 v1182 v1183 s) = (impl_ExpMatrix_l2_T v462 v463 v1181 v1182 v1183 s).bind fun y => .leaf (outS (impl_ExpMatrix_l2_E v460 v461 v462 v463 v1181 v1182 v1183) (impl_ExpMatrix_l2_X v460 v461 v462 v463 v1181 v1182 v1183) y) := by kernel_rfl
theorem impl_ExpMatrix_l2_1_be (v460 : Int) (v461 : Int) (v462 : List Nat) (v463 : Int) (v1262 : Int) (v1263 : Int) (v1264 : Int) (v1270 : List Nat) (s : Int × Int × Int × Int × Int × (List Nat) × (List Nat)) : bodyT TT (tabD impl_ExpMatrix_tab) (tabM impl_ExpMatrix_tab) (impl_ExpMatrix_LO v460 v461 v462 v463) 0 impl_ExpMatrix_l2_1_kill impl_ExpMatrix_l2_1_nx (bodyOf Try.f32 2) 2 (impl_ExpMatrix_l2_1_E v460 v461 v462 v463 v1262 v1263 v1264 v1270 s) = (impl_ExpMatrix_l2_1_T v463 v1262 v1263 v1264 v1270 s).bind fun y => .leaf (outS (impl_ExpMatrix_l2_1_E v460 v461 v462 v463 v1262 v1263 v1264 v1270) (impl_ExpMatrix_l2_1_X v460 v461 v462 v463 v1262 v1263 v1264 v1270) y) := by kernel_rfl
theorem impl_ExpMatrix_l2_ok (v460 : Int) (v461 : Int) (v462 : List Nat) (v463 : Int) : LSound Try.prog 0 (impl_ExpMatrix_LO v460 v461 v462 v463) 2 (bodyOf Try.f32 2) := by
  intro e L out h
  change (match (match (cAt L (vAt e 2) 2) with | .bslc .. => true | _ => false) with | true => _ | false => _ : Tree Out).run = some out at h
  split at h
  · exact lo_ok (E := impl_ExpMatrix_l2_E v460 v461 v462 v463 (gI (vAt e 6)) (gI (cAt L (vAt e 2) 0)) (gI (cAt L (vAt e 2) 1))) (gT := impl_ExpMatrix_l2_T v462 v463 (gI (vAt e 6)) (gI (cAt L (vAt e 2) 0)) (gI (cAt L (vAt e 2) 1))) (X := impl_ExpMatrix_l2_X v460 v461 v462 v463 (gI (vAt e 6)) (gI (cAt L (vAt e 2) 0)) (gI (cAt L (vAt e 2) 1))) (s0 := ((gI (cAt L (vAt e 10) 0)), (gI (cAt L (vAt e 10) 1)), (gI (cAt L (vAt e 11) 0)), (gI (cAt L (vAt e 11) 1)), (gI (cAt L (vAt e 12) 0)), (gRF L (cAt L (vAt e 10) 2)), (gRF L (cAt L (vAt e 11) 2)))) tok impl_ExpMatrix_hO mixed (LoopsOk_eq (l := []) (by kernel_rfl) trivial) (impl_ExpMatrix_l2_be v460 v461 v462 v463 (gI (vAt e 6)) (gI (cAt L (vAt e 2) 0)) (gI (cAt L (vAt e 2) 1))) rfl (by intro x; (cases x with | inl b => rfl | inr x => exact rfl)) h
  ·
    exact lo_ok (E := impl_ExpMatrix_l2_1_E v460 v461 v462 v463 (gI (vAt e 6)) (gI (cAt L (vAt e 2) 0)) (gI (cAt L (vAt e 2) 1)) (gRF L (cAt L (vAt e 2) 2))) (gT := impl_ExpMatrix_l2_1_T v463 (gI (vAt e 6)) (gI (cAt L (vAt e 2) 0)) (gI (cAt L (vAt e 2) 1)) (gRF L (cAt L (vAt e 2) 2))) (X := impl_ExpMatrix_l2_1_X v460 v461 v462 v463 (gI (vAt e 6)) (gI (cAt L (vAt e 2) 0)) (gI (cAt L (vAt e 2) 1)) (gRF L (cAt L (vAt e 2) 2))) (s0 := ((gI (cAt L (vAt e 10) 0)), (gI (cAt L (vAt e 10) 1)), (gI (cAt L (vAt e 11) 0)), (gI (cAt L (vAt e 11) 1)), (gI (cAt L (vAt e 12) 0)), (gRF L (cAt L (vAt e 10) 2)), (gRF L (cAt L (vAt e 11) 2)))) tok impl_ExpMatrix_hO mixed (LoopsOk_eq (l := []) (by kernel_rfl) trivial) (impl_ExpMatrix_l2_1_be v460 v461 v462 v463 (gI (vAt e 6)) (gI (cAt L (vAt e 2) 0)) (gI (cAt L (vAt e 2) 1)) (gRF L (cAt L (vAt e 2) 2))) rfl (by intro x; (cases x with | inl b => rfl | inr x => exact rfl)) h
theorem impl_ExpMatrix_l4_be (v460 : Int) (v461 : Int) (v462 : List Nat) (v463 : Int) (v1216 : Int) (s : Int × Int × Int × (List Nat)) : bodyT TT (tabD impl_ExpMatrix_tab) (tabM impl_ExpMatrix_tab) (impl_ExpMatrix_LO v460 v461 v462 v463) 0 impl_ExpMatrix_l4_kill impl_ExpMatrix_l4_nx (bodyOf Try.f32 4) 4 (impl_ExpMatrix_l4_E v460 v461 v462 v463 v1216 s) = (impl_ExpMatrix_l4_T v1216 s).bind fun y => .leaf (outS (impl_ExpMatrix_l4_E v460 v461 v462 v463 v1216) (impl_ExpMatrix_l4_X v460 v461 v462 v463 v1216) y) := by kernel_rfl
theorem impl_ExpMatrix_l4_ok (v460 : Int) (v461 : Int) (v462 : List Nat) (v463 : Int) : LSound Try.prog 0 (impl_ExpMatrix_LO v460 v461 v462 v463) 4 (bodyOf Try.f32 4) := by
  intro e L out h
  exact lo_ok (E := impl_ExpMatrix_l4_E v460 v461 v462 v463 (gI (vAt e 89))) (gT := impl_ExpMatrix_l4_T (gI (vAt e 89))) (X := impl_ExpMatrix_l4_X v460 v461 v462 v463 (gI (vAt e 89))) (s0 := ((gI (vAt e 90)), (gI (cAt L (vAt e 10) 0)), (gI (cAt L (vAt e 10) 1)), (gRF L (cAt L (vAt e 10) 2)))) tok impl_ExpMatrix_hO mixed (LoopsOk_eq (l := []) (by kernel_rfl) trivial) (impl_ExpMatrix_l4_be v460 v461 v462 v463 (gI (vAt e 89))) rfl (by intro x; (cases x with | inl b => rfl | inr x => exact rfl)) h
noncomputable def impl_ExpMatrix_T (v460 : Int) (v461 : Int) (v462 : List Nat) (v463 : Int) : Tree ((Unit) ⊕ (Int × Int × (List Nat))) :=
  (.call (impl_isSquare_g v460 v461 v462) fun v494 =>
  (.br (!v494) (
   .leaf (.inl ())
  ) (
   (.br (!(impl_inRange_v v463 (1 : Int) (32 : Int))) (
    .leaf (.inl ())
   ) (
    (.need (some (impl_ExpMatrix_l0_E v460 v461 v462 v463 (.inl ((0 : Int), v460, v461))) = some (impl_ExpMatrix_l0_E v460 v461 v462 v463 (.inl ((0 : Int), v460, v461)))) <|
    (.call (impl_ExpMatrix_l0_g v462 (.inl ((0 : Int), v460, v461))) fun v726 =>
    (.sum v726 (fun v727 =>
     .leaf (.inl ())
    ) (fun v728 =>
     (.sum v728 (fun v729 =>
      (.call (impl_unit_g v729.2.1) fun v806 =>
      (.call (impl_unit_g v729.2.1) fun v807 =>
      (.need (some (impl_ExpMatrix_l2_E v460 v461 v462 v463 v729.1 v729.2.1 v729.2.2 (v806.1, v806.2.1, v807.1, v807.2.1, (1 : Int), v806.2.2, v807.2.2)) = some (impl_ExpMatrix_l2_E v460 v461 v462 v463 v729.1 v729.2.1 v729.2.2 (v806.1, v806.2.1, v807.1, v807.2.1, (1 : Int), v806.2.2, v807.2.2))) <|
      (.call (impl_ExpMatrix_l2_g v462 v463 v729.1 v729.2.1 v729.2.2 (v806.1, v806.2.1, v807.1, v807.2.1, (1 : Int), v806.2.2, v807.2.2)) fun v1197 =>
      (.sum v1197 (fun v1198 =>
       .leaf (.inl ())
      ) (fun v1199 =>
       (.need (some (impl_ExpMatrix_l4_E v460 v461 v462 v463 v729.1 ((0 : Int), v1199.1, v1199.2.1, v1199.2.2)) = some (impl_ExpMatrix_l4_E v460 v461 v462 v463 v729.1 ((0 : Int), v1199.1, v1199.2.1, v1199.2.2))) <|
       (.call (impl_ExpMatrix_l4_g v729.1 ((0 : Int), v1199.1, v1199.2.1, v1199.2.2)) fun v1224 =>
       (.sum v1224 (fun v1225 =>
        .leaf (.inl ())
       ) (fun v1226 =>
        .leaf (.inr (v1226.1, v1226.2.1, v1226.2.2))
       ))))
      ))))))
     ) (fun v730 =>
      (.call (impl_unit_g v730.2.1) fun v1227 =>
      (.call (impl_unit_g v730.2.1) fun v1228 =>
      (.need (some (impl_ExpMatrix_l2_1_E v460 v461 v462 v463 v730.1 v730.2.1 v730.2.2.1 v730.2.2.2 (v1227.1, v1227.2.1, v1228.1, v1228.2.1, (1 : Int), v1227.2.2, v1228.2.2)) = some (impl_ExpMatrix_l2_1_E v460 v461 v462 v463 v730.1 v730.2.1 v730.2.2.1 v730.2.2.2 (v1227.1, v1227.2.1, v1228.1, v1228.2.1, (1 : Int), v1227.2.2, v1228.2.2))) <|
      (.call (impl_ExpMatrix_l2_1_g v463 v730.1 v730.2.1 v730.2.2.1 v730.2.2.2 (v1227.1, v1227.2.1, v1228.1, v1228.2.1, (1 : Int), v1227.2.2, v1228.2.2)) fun v1279 =>
      (.sum v1279 (fun v1280 =>
       .leaf (.inl ())
      ) (fun v1281 =>
       (.need (some (impl_ExpMatrix_l4_E v460 v461 v462 v463 v730.1 ((0 : Int), v1281.1, v1281.2.1, v1281.2.2)) = some (impl_ExpMatrix_l4_E v460 v461 v462 v463 v730.1 ((0 : Int), v1281.1, v1281.2.1, v1281.2.2))) <|
       (.call (impl_ExpMatrix_l4_g v730.1 ((0 : Int), v1281.1, v1281.2.1, v1281.2.2)) fun v1306 =>
       (.sum v1306 (fun v1307 =>
        .leaf (.inl ())
       ) (fun v1308 =>
        .leaf (.inr (v1308.1, v1308.2.1, v1308.2.2))
       ))))
      ))))))
     ))
    ))))
   ))
  )))

noncomputable def impl_ExpMatrix_g (v460 : Int) (v461 : Int) (v462 : List Nat) (v463 : Int) : Option ((Unit) ⊕ (Int × Int × (List Nat))) := (impl_ExpMatrix_T v460 v461 v462 v463).run
def impl_ExpMatrix_enc (v460 : Int) (v461 : Int) (v462 : List Nat) (v463 : Int) (y : (Unit) ⊕ (Int × Int × (List Nat))) : Rs := (match y with | .inl y => (.tup [.agg [.int .i64 (0 : Int), .int .i64 (0 : Int), .nilslc], .lit false], []) | .inr y => (.tup [.agg [.int .i64 y.1, .int .i64 y.2.1, .own 0 0 ((y.2.2).length)], .lit true], [.row (.f32 y.2.2) 0]))
theorem impl_ExpMatrix_den (v460 : Int) (v461 : Int) (v462 : List Nat) (v463 : Int) : (den TT (tabD impl_ExpMatrix_tab) (tabM impl_ExpMatrix_tab) (impl_ExpMatrix_LO v460 v461 v462 v463) (codeOf Try.f32) ([.agg [.int .i64 v460, .int .i64 v461, .bslc (BR.root 0) (.f32 v462)], .int .i64 v463] ++ List.replicate (Try.f32.ntmps - ([.agg [.int .i64 v460, .int .i64 v461, .bslc (BR.root 0) (.f32 v462)], .int .i64 v463] : List DV).length) .undef) []).bind (retD TT Try.f32.results.toList 0) = (impl_ExpMatrix_T v460 v461 v462 v463).bind fun y => .leaf (impl_ExpMatrix_enc v460 v461 v462 v463 y) := by kernel_rfl
theorem impl_ExpMatrix_fn (v460 : Int) (v461 : Int) (v462 : List Nat) (v463 : Int) (F : Fr) (hm : F.ids.length = 0) (h0 : St F [] F.H0) (hA : DVs.Ok F [] [.agg [.int .i64 v460, .int .i64 v461, .bslc (BR.root 0) (.f32 v462)], .int .i64 v463]) {y : (Unit) ⊕ (Int × Int × (List Nat))} (hy : impl_ExpMatrix_g v460 v461 v462 v463 = some y) : ∃ H', FnOk Try.prog 32 (DVs.av F [.agg [.int .i64 v460, .int .i64 v461, .bslc (BR.root 0) (.f32 v462)], .int .i64 v463]) F.H0 ((impl_ExpMatrix_enc v460 v461 v462 v463 y).1.av F) H' ∧ St F (impl_ExpMatrix_enc v460 v461 v462 v463 y).2 H' ∧ (impl_ExpMatrix_enc v460 v461 v462 v463 y).1.Ok F (impl_ExpMatrix_enc v460 v461 v462 v463 y).2 :=
  fn_fin tok impl_ExpMatrix_hO mixed Try.func32 Try.call32 (by kernel_rfl) (LoopsOk_eq (l := [(0, bodyOf Try.f32 0), (2, bodyOf Try.f32 2), (4, bodyOf Try.f32 4)]) (by kernel_rfl) ⟨impl_ExpMatrix_l0_ok v460 v461 v462 v463, impl_ExpMatrix_l2_ok v460 v461 v462 v463, impl_ExpMatrix_l4_ok v460 v461 v462 v463, trivial⟩) (impl_ExpMatrix_den v460 v461 v462 v463) hy hm h0 hA
noncomputable def impl_ExpMatrix_F : DFn := fun args L =>
  match args with
  | [.agg [.int .i64 v460, .int .i64 v461, a1], .int .i64 v463] =>
    optT (rowF32 L a1) fun v462 =>
    .call (impl_ExpMatrix_g v460 v461 v462 v463) fun y => .sum y (fun y0 => .leaf (.tup [.agg [.int .i64 (0 : Int), .int .i64 (0 : Int), .nilslc], .lit false], L)) (fun z0 => .leaf (.tup [.agg [.int .i64 z0.1, .int .i64 z0.2.1, .own (L.length + 0) 0 ((z0.2.2).length)], .lit true], L ++ [.row (.f32 z0.2.2) 0]))
  | _ => .fail
theorem impl_ExpMatrix_Fok : COk Try.prog 32 impl_ExpMatrix_F true := by
  intro F L H args r L' hs ha hr
  unfold impl_ExpMatrix_F at hr
  split at hr
  · rename_i v460 v461 a1 v463
    obtain ⟨v462, hv462, hr⟩ := optT_run hr
    simp only [Tree.run] at hr
    obtain ⟨y, hy, hr⟩ := Option.bind_eq_some_iff.1 hr
    cases y with
    | inl y =>
      simp only [Tree.run, Option.some.injEq, Prod.mk.injEq] at hr
      obtain ⟨rfl, rfl⟩ := hr
      exact call_ok0 hs (fun k => (([a1.av F] : List AV)[k]?).getD .top) [.agg [.int .i64 v460, .int .i64 v461, a1], .int .i64 v463] [.agg [.int .i64 v460, .int .i64 v461, .bslc (BR.root 0) (.f32 v462)], .int .i64 v463] (fun F' h0 hi hρ => ⟨by simp [DVs.av, DV.av, BR.av, hρ], impl_ExpMatrix_fn v460 v461 v462 v463 F' (by rw [hi]; rfl) (st_nil hi) ⟨⟨trivial, trivial, bslc_ok hi (by rw [h0, hρ]; exact rowF32_ok hs (DVs.okAt (DVs.okAt ha 0 rfl) 2 rfl) hv462), trivial⟩, trivial, trivial⟩ hy⟩) rfl
    | inr y =>
      simp only [Tree.run, Option.some.injEq, Prod.mk.injEq] at hr
      obtain ⟨rfl, rfl⟩ := hr
      exact call_ok1 hs (fun k => (([a1.av F] : List AV)[k]?).getD .top) [.agg [.int .i64 v460, .int .i64 v461, a1], .int .i64 v463] [.agg [.int .i64 v460, .int .i64 v461, .bslc (BR.root 0) (.f32 v462)], .int .i64 v463] (fun F' h0 hi hρ => ⟨by simp [DVs.av, DV.av, BR.av, hρ], impl_ExpMatrix_fn v460 v461 v462 v463 F' (by rw [hi]; rfl) (st_nil hi) ⟨⟨trivial, trivial, bslc_ok hi (by rw [h0, hρ]; exact rowF32_ok hs (DVs.okAt (DVs.okAt ha 0 rfl) 2 rfl) hv462), trivial⟩, trivial, trivial⟩ hy⟩) rfl rfl
  · cases hr
/-! laws.sameFloat -/
noncomputable def laws_sameFloat_LO (v1321 : Nat) (v1322 : Nat) : LOr := fun id e L =>
  match id with
  | _ => .fail
noncomputable def laws_sameFloat_tab : List (FuncId × DFn × Bool) := []
theorem laws_sameFloat_hO : OrcOk Try.prog (tabD laws_sameFloat_tab) (tabM laws_sameFloat_tab) := tabD_nil _
noncomputable def laws_sameFloat_T (v1321 : Nat) (v1322 : Nat) : Tree (Bool) :=
  (.br (!feq .f64 v1321 v1321) (
   (.br (!feq .f64 v1321 v1321) (
    .leaf (!feq .f64 v1322 v1322)
   ) (
    .leaf false
   ))
  ) (
   (.br (!feq .f64 v1322 v1322) (
    (.br (!feq .f64 v1321 v1321) (
     .leaf (!feq .f64 v1322 v1322)
    ) (
     .leaf false
    ))
   ) (
    (.br (feq .f64 v1321 (0 : Nat)) (
     (.br (feq .f64 v1322 (0 : Nat)) (
      .leaf ((fgrt .f64 (fdiv .f64 (4607182418800017408 : Nat) v1321) (0 : Nat)) == (fgrt .f64 (fdiv .f64 (4607182418800017408 : Nat) v1322) (0 : Nat)))
     ) (
      .leaf (feq .f64 v1321 v1322)
     ))
    ) (
     .leaf (feq .f64 v1321 v1322)
    ))
   ))
  ))

noncomputable def laws_sameFloat_g (v1321 : Nat) (v1322 : Nat) : Option (Bool) := (laws_sameFloat_T v1321 v1322).run
def laws_sameFloat_enc (v1321 : Nat) (v1322 : Nat) (y : Bool) : Rs := (.bool y, [])
theorem laws_sameFloat_den (v1321 : Nat) (v1322 : Nat) : (den TT (tabD laws_sameFloat_tab) (tabM laws_sameFloat_tab) (laws_sameFloat_LO v1321 v1322) (codeOf Try.f53) ([.flt .f64 v1321, .flt .f64 v1322] ++ List.replicate (Try.f53.ntmps - ([.flt .f64 v1321, .flt .f64 v1322] : List DV).length) .undef) []).bind (retD TT Try.f53.results.toList 0) = (laws_sameFloat_T v1321 v1322).bind fun y => .leaf (laws_sameFloat_enc v1321 v1322 y) := by kernel_rfl
theorem laws_sameFloat_fn (v1321 : Nat) (v1322 : Nat) (F : Fr) (hm : F.ids.length = 0) (h0 : St F [] F.H0) (hA : DVs.Ok F [] [.flt .f64 v1321, .flt .f64 v1322]) {y : Bool} (hy : laws_sameFloat_g v1321 v1322 = some y) : ∃ H', FnOk Try.prog 53 (DVs.av F [.flt .f64 v1321, .flt .f64 v1322]) F.H0 ((laws_sameFloat_enc v1321 v1322 y).1.av F) H' ∧ St F (laws_sameFloat_enc v1321 v1322 y).2 H' ∧ (laws_sameFloat_enc v1321 v1322 y).1.Ok F (laws_sameFloat_enc v1321 v1322 y).2 :=
  fn_fin tok laws_sameFloat_hO mixed Try.func53 Try.call53 (by kernel_rfl) (LoopsOk_eq (l := []) (by kernel_rfl) trivial) (laws_sameFloat_den v1321 v1322) hy hm h0 hA
def laws_sameFloat_v (v1321 : Nat) (v1322 : Nat) : Bool :=
  if (!feq .f64 v1321 v1321) = true then (
   if (!feq .f64 v1321 v1321) = true then (
    !feq .f64 v1322 v1322
   ) else (
    false
   )
  ) else (
   if (!feq .f64 v1322 v1322) = true then (
    if (!feq .f64 v1321 v1321) = true then (
     !feq .f64 v1322 v1322
    ) else (
     false
    )
   ) else (
    if (feq .f64 v1321 (0 : Nat)) = true then (
     if (feq .f64 v1322 (0 : Nat)) = true then (
      (fgrt .f64 (fdiv .f64 (4607182418800017408 : Nat) v1321) (0 : Nat)) == (fgrt .f64 (fdiv .f64 (4607182418800017408 : Nat) v1322) (0 : Nat))
     ) else (
      feq .f64 v1321 v1322
     )
    ) else (
     feq .f64 v1321 v1322
    )
   )
  )
theorem laws_sameFloat_tot (v1321 : Nat) (v1322 : Nat) : laws_sameFloat_g v1321 v1322 = some (laws_sameFloat_v v1321 v1322) := by
  unfold laws_sameFloat_g laws_sameFloat_T laws_sameFloat_v
  simp only [Tree.run]
  repeat' (first | rfl | split)
noncomputable def laws_sameFloat_F : DFn := fun args L =>
  match args with
  | [.flt .f64 v1321, .flt .f64 v1322] =>
    .leaf (.bool (laws_sameFloat_v v1321 v1322), L)
  | _ => .fail
theorem laws_sameFloat_Fok : COk Try.prog 53 laws_sameFloat_F true := by
  intro F L H args r L' hs ha hr
  unfold laws_sameFloat_F at hr
  split at hr
  · rename_i v1321 v1322
    have hy := laws_sameFloat_tot v1321 v1322
    generalize laws_sameFloat_v v1321 v1322 = y at hy hr
    simp only [Tree.run, Option.some.injEq, Prod.mk.injEq] at hr
    obtain ⟨rfl, rfl⟩ := hr
    exact call_ok0 hs (fun k => (([] : List AV)[k]?).getD .top) [.flt .f64 v1321, .flt .f64 v1322] [.flt .f64 v1321, .flt .f64 v1322] (fun F' h0 hi hρ => ⟨by simp [DVs.av, DV.av, BR.av, hρ], laws_sameFloat_fn v1321 v1322 F' (by rw [hi]; rfl) (st_nil hi) ⟨trivial, trivial, trivial⟩ hy⟩) rfl
  · cases hr
/-! laws.eqFloat32S -/
noncomputable def laws_eqFloat32S_l0_T (v1318 : List Nat) (v1319 : List Nat) (s : Int) : Tree ((Int) ⊕ ((Unit) ⊕ (Unit))) :=
  (.br (decide (s < ((v1318.length : Nat) : Int))) (
   (.grd (inb s v1318.length) <|
   (.grd (inb s v1319.length) <|
   (.br (!(laws_sameFloat_v (wid (nth v1318 (Int.toNat s))) (wid (nth v1319 (Int.toNat s))))) (
    .leaf (.inr (.inl ()))
   ) (
    .leaf (.inl (IntKind.i64.wrap (s + (1 : Int))))
   ))))
  ) (
   .leaf (.inr (.inr ()))
  ))

noncomputable def laws_eqFloat32S_l0_g (v1318 : List Nat) (v1319 : List Nat) (s0 : Int) : Option ((Unit) ⊕ (Unit)) := whileM (fun s => (laws_eqFloat32S_l0_T v1318 v1319 s).run) s0
def laws_eqFloat32S_l0_E (v1318 : List Nat) (v1319 : List Nat) (s : Int) : Sd := ([.bslc (BR.root 0) (.f32 v1318), .bslc (BR.root 1) (.f32 v1319), .top, .top, .top, .int .i64 s, .top, .top, .top, .top, .top, .top, .top, .top, .top, .top, .top, .top, .top, .top, .top, .top, .top, .top, .top, .top, .top, .top, .top], [])
def laws_eqFloat32S_l0_X (v1318 : List Nat) (v1319 : List Nat) (x : (Unit) ⊕ (Unit)) : Out := (match x with | .inl x => (.ret, [.top, .top, .top, .top, .lit false, .top, .top, .top, .top, .top, .top, .top, .top, .top, .top, .top, .top, .top, .top, .top, .top, .top, .top, .top, .top, .top, .top, .top, .top], []) | .inr x => (.normal, [.top, .top, .top, .top, .top, .top, .top, .top, .top, .top, .top, .top, .top, .top, .top, .top, .top, .top, .top, .top, .top, .top, .top, .top, .top, .top, .top, .top, .top], []))
def laws_eqFloat32S_l0_kill : List Nat := [0, 0, 1, 1, 1, 0, 1, 1, 1, 1, 1, 1, 1, 1, 1, 1, 1, 1, 1, 1, 1, 1, 1, 1, 1, 1, 1, 1, 1]
def laws_eqFloat32S_l0_nx : Exit → List Nat
  | .exit 0 => [1, 1, 1, 1, 1, 1, 1, 1, 1, 1, 1, 1, 1, 1, 1, 1, 1, 1, 1, 1, 1, 1, 1, 1, 1, 1, 1, 1, 1]
  | .ret => [1, 1, 1, 1, 0, 1, 1, 1, 1, 1, 1, 1, 1, 1, 1, 1, 1, 1, 1, 1, 1, 1, 1, 1, 1, 1, 1, 1, 1]
  | _ => []
noncomputable def laws_eqFloat32S_LO (v1318 : List Nat) (v1319 : List Nat) : LOr := fun id e L =>
  match id with
  | 0 => .need (normA 0 laws_eqFloat32S_l0_kill e L = some (laws_eqFloat32S_l0_E v1318 v1319 (gI (vAt e 5)))) (.call (laws_eqFloat32S_l0_g v1318 v1319 (gI (vAt e 5))) fun x => .sum x (fun b0 => .leaf (laws_eqFloat32S_l0_X v1318 v1319 (.inl b0))) (fun c0 => .leaf (laws_eqFloat32S_l0_X v1318 v1319 (.inr c0))))
  | _ => .fail
noncomputable def laws_eqFloat32S_tab : List (FuncId × DFn × Bool) := [(53, laws_sameFloat_F, true)]
theorem laws_eqFloat32S_hO : OrcOk Try.prog (tabD laws_eqFloat32S_tab) (tabM laws_eqFloat32S_tab) := tabD_cons laws_sameFloat_Fok (tabD_nil _)
theorem laws_eqFloat32S_l0_be (v1318 : List Nat) (v1319 : List Nat) (s : Int) : bodyT TT (tabD laws_eqFloat32S_tab) (tabM laws_eqFloat32S_tab) (laws_eqFloat32S_LO v1318 v1319) 0 laws_eqFloat32S_l0_kill laws_eqFloat32S_l0_nx (bodyOf Try.f20 0) 0 (laws_eqFloat32S_l0_E v1318 v1319 s) = (laws_eqFloat32S_l0_T v1318 v1319 s).bind fun y => .leaf (outS (laws_eqFloat32S_l0_E v1318 v1319) (laws_eqFloat32S_l0_X v1318 v1319) y) := by kernel_rfl
theorem laws_eqFloat32S_l0_ok (v1318 : List Nat) (v1319 : List Nat) : LSound Try.prog 0 (laws_eqFloat32S_LO v1318 v1319) 0 (bodyOf Try.f20 0) := by
  intro e L out h
  exact lo_ok (E := laws_eqFloat32S_l0_E v1318 v1319) (gT := laws_eqFloat32S_l0_T v1318 v1319) (X := laws_eqFloat32S_l0_X v1318 v1319) (s0 := (gI (vAt e 5))) tok laws_eqFloat32S_hO mixed (LoopsOk_eq (l := []) (by kernel_rfl) trivial) (laws_eqFloat32S_l0_be v1318 v1319) rfl (by intro x; (cases x with | inl b => rfl | inr x => exact rfl)) h
noncomputable def laws_eqFloat32S_T (v1318 : List Nat) (v1319 : List Nat) : Tree (Bool) :=
  (.br (!decide (((v1318.length : Nat) : Int) = ((v1319.length : Nat) : Int))) (
   .leaf false
  ) (
   (.need (some (laws_eqFloat32S_l0_E v1318 v1319 (0 : Int)) = some (laws_eqFloat32S_l0_E v1318 v1319 (0 : Int))) <|
   (.call (laws_eqFloat32S_l0_g v1318 v1319 (0 : Int)) fun v1325 =>
   (.sum v1325 (fun v1326 =>
    .leaf false
   ) (fun v1327 =>
    .leaf true
   ))))
  ))

noncomputable def laws_eqFloat32S_g (v1318 : List Nat) (v1319 : List Nat) : Option (Bool) := (laws_eqFloat32S_T v1318 v1319).run
def laws_eqFloat32S_enc (v1318 : List Nat) (v1319 : List Nat) (y : Bool) : Rs := (.bool y, [])
theorem laws_eqFloat32S_den (v1318 : List Nat) (v1319 : List Nat) : (den TT (tabD laws_eqFloat32S_tab) (tabM laws_eqFloat32S_tab) (laws_eqFloat32S_LO v1318 v1319) (codeOf Try.f20) ([.bslc (BR.root 0) (.f32 v1318), .bslc (BR.root 1) (.f32 v1319)] ++ List.replicate (Try.f20.ntmps - ([.bslc (BR.root 0) (.f32 v1318), .bslc (BR.root 1) (.f32 v1319)] : List DV).length) .undef) []).bind (retD TT Try.f20.results.toList 0) = (laws_eqFloat32S_T v1318 v1319).bind fun y => .leaf (laws_eqFloat32S_enc v1318 v1319 y) := by kernel_rfl
theorem laws_eqFloat32S_fn (v1318 : List Nat) (v1319 : List Nat) (F : Fr) (hm : F.ids.length = 0) (h0 : St F [] F.H0) (hA : DVs.Ok F [] [.bslc (BR.root 0) (.f32 v1318), .bslc (BR.root 1) (.f32 v1319)]) {y : Bool} (hy : laws_eqFloat32S_g v1318 v1319 = some y) : ∃ H', FnOk Try.prog 20 (DVs.av F [.bslc (BR.root 0) (.f32 v1318), .bslc (BR.root 1) (.f32 v1319)]) F.H0 ((laws_eqFloat32S_enc v1318 v1319 y).1.av F) H' ∧ St F (laws_eqFloat32S_enc v1318 v1319 y).2 H' ∧ (laws_eqFloat32S_enc v1318 v1319 y).1.Ok F (laws_eqFloat32S_enc v1318 v1319 y).2 :=
  fn_fin tok laws_eqFloat32S_hO mixed Try.func20 Try.call20 (by kernel_rfl) (LoopsOk_eq (l := [(0, bodyOf Try.f20 0)]) (by kernel_rfl) ⟨laws_eqFloat32S_l0_ok v1318 v1319, trivial⟩) (laws_eqFloat32S_den v1318 v1319) hy hm h0 hA
noncomputable def laws_eqFloat32S_F : DFn := fun args L =>
  match args with
  | [a1, a2] =>
    optT (rowF32 L a1) fun v1318 =>
    optT (rowF32 L a2) fun v1319 =>
    .call (laws_eqFloat32S_g v1318 v1319) fun y => .leaf (.bool y, L)
  | _ => .fail
theorem laws_eqFloat32S_Fok : COk Try.prog 20 laws_eqFloat32S_F true := by
  intro F L H args r L' hs ha hr
  unfold laws_eqFloat32S_F at hr
  split at hr
  · rename_i a1 a2
    obtain ⟨v1318, hv1318, hr⟩ := optT_run hr
    obtain ⟨v1319, hv1319, hr⟩ := optT_run hr
    simp only [Tree.run] at hr
    obtain ⟨y, hy, hr⟩ := Option.bind_eq_some_iff.1 hr
    simp only [Tree.run, Option.some.injEq, Prod.mk.injEq] at hr
    obtain ⟨rfl, rfl⟩ := hr
    exact call_ok0 hs (fun k => (([a1.av F, a2.av F] : List AV)[k]?).getD .top) [a1, a2] [.bslc (BR.root 0) (.f32 v1318), .bslc (BR.root 1) (.f32 v1319)] (fun F' h0 hi hρ => ⟨by simp [DVs.av, DV.av, BR.av, hρ], laws_eqFloat32S_fn v1318 v1319 F' (by rw [hi]; rfl) (st_nil hi) ⟨bslc_ok hi (by rw [h0, hρ]; exact rowF32_ok hs (DVs.okAt ha 0 rfl) hv1318), bslc_ok hi (by rw [h0, hρ]; exact rowF32_ok hs (DVs.okAt ha 1 rfl) hv1319), trivial⟩ hy⟩) rfl
  · cases hr
/-! laws.eqMatrix -/
noncomputable def laws_eqMatrix_LO (v1312 : Int) (v1313 : Int) (v1314 : List Nat) (v1315 : Int) (v1316 : Int) (v1317 : List Nat) : LOr := fun id e L =>
  match id with
  | _ => .fail
noncomputable def laws_eqMatrix_tab : List (FuncId × DFn × Bool) := [(20, laws_eqFloat32S_F, true)]
theorem laws_eqMatrix_hO : OrcOk Try.prog (tabD laws_eqMatrix_tab) (tabM laws_eqMatrix_tab) := tabD_cons laws_eqFloat32S_Fok (tabD_nil _)
noncomputable def laws_eqMatrix_T (v1312 : Int) (v1313 : Int) (v1314 : List Nat) (v1315 : Int) (v1316 : Int) (v1317 : List Nat) : Tree (Bool) :=
  (.br (!decide (v1312 = v1315)) (
   .leaf false
  ) (
   (.br (!decide (v1313 = v1316)) (
    .leaf false
   ) (
    (.call (laws_eqFloat32S_g v1314 v1317) fun v1328 =>
    (.br (!v1328) (
     .leaf false
    ) (
     .leaf true
    )))
   ))
  ))

noncomputable def laws_eqMatrix_g (v1312 : Int) (v1313 : Int) (v1314 : List Nat) (v1315 : Int) (v1316 : Int) (v1317 : List Nat) : Option (Bool) := (laws_eqMatrix_T v1312 v1313 v1314 v1315 v1316 v1317).run
def laws_eqMatrix_enc (v1312 : Int) (v1313 : Int) (v1314 : List Nat) (v1315 : Int) (v1316 : Int) (v1317 : List Nat) (y : Bool) : Rs := (.bool y, [])
theorem laws_eqMatrix_den (v1312 : Int) (v1313 : Int) (v1314 : List Nat) (v1315 : Int) (v1316 : Int) (v1317 : List Nat) : (den TT (tabD laws_eqMatrix_tab) (tabM laws_eqMatrix_tab) (laws_eqMatrix_LO v1312 v1313 v1314 v1315 v1316 v1317) (codeOf Try.f33) ([.agg [.int .i64 v1312, .int .i64 v1313, .bslc (BR.root 0) (.f32 v1314)], .agg [.int .i64 v1315, .int .i64 v1316, .bslc (BR.root 1) (.f32 v1317)]] ++ List.replicate (Try.f33.ntmps - ([.agg [.int .i64 v1312, .int .i64 v1313, .bslc (BR.root 0) (.f32 v1314)], .agg [.int .i64 v1315, .int .i64 v1316, .bslc (BR.root 1) (.f32 v1317)]] : List DV).length) .undef) []).bind (retD TT Try.f33.results.toList 0) = (laws_eqMatrix_T v1312 v1313 v1314 v1315 v1316 v1317).bind fun y => .leaf (laws_eqMatrix_enc v1312 v1313 v1314 v1315 v1316 v1317 y) := by kernel_rfl
theorem laws_eqMatrix_fn (v1312 : Int) (v1313 : Int) (v1314 : List Nat) (v1315 : Int) (v1316 : Int) (v1317 : List Nat) (F : Fr) (hm : F.ids.length = 0) (h0 : St F [] F.H0) (hA : DVs.Ok F [] [.agg [.int .i64 v1312, .int .i64 v1313, .bslc (BR.root 0) (.f32 v1314)], .agg [.int .i64 v1315, .int .i64 v1316, .bslc (BR.root 1) (.f32 v1317)]]) {y : Bool} (hy : laws_eqMatrix_g v1312 v1313 v1314 v1315 v1316 v1317 = some y) : ∃ H', FnOk Try.prog 33 (DVs.av F [.agg [.int .i64 v1312, .int .i64 v1313, .bslc (BR.root 0) (.f32 v1314)], .agg [.int .i64 v1315, .int .i64 v1316, .bslc (BR.root 1) (.f32 v1317)]]) F.H0 ((laws_eqMatrix_enc v1312 v1313 v1314 v1315 v1316 v1317 y).1.av F) H' ∧ St F (laws_eqMatrix_enc v1312 v1313 v1314 v1315 v1316 v1317 y).2 H' ∧ (laws_eqMatrix_enc v1312 v1313 v1314 v1315 v1316 v1317 y).1.Ok F (laws_eqMatrix_enc v1312 v1313 v1314 v1315 v1316 v1317 y).2 :=
  fn_fin tok laws_eqMatrix_hO mixed Try.func33 Try.call33 (by kernel_rfl) (LoopsOk_eq (l := []) (by kernel_rfl) trivial) (laws_eqMatrix_den v1312 v1313 v1314 v1315 v1316 v1317) hy hm h0 hA
noncomputable def laws_eqMatrix_F : DFn := fun args L =>
  match args with
  | [.agg [.int .i64 v1312, .int .i64 v1313, a1], .agg [.int .i64 v1315, .int .i64 v1316, a2]] =>
    optT (rowF32 L a1) fun v1314 =>
    optT (rowF32 L a2) fun v1317 =>
    .call (laws_eqMatrix_g v1312 v1313 v1314 v1315 v1316 v1317) fun y => .leaf (.bool y, L)
  | _ => .fail
theorem laws_eqMatrix_Fok : COk Try.prog 33 laws_eqMatrix_F true := by
  intro F L H args r L' hs ha hr
  unfold laws_eqMatrix_F at hr
  split at hr
  · rename_i v1312 v1313 a1 v1315 v1316 a2
    obtain ⟨v1314, hv1314, hr⟩ := optT_run hr
    obtain ⟨v1317, hv1317, hr⟩ := optT_run hr
    simp only [Tree.run] at hr
    obtain ⟨y, hy, hr⟩ := Option.bind_eq_some_iff.1 hr
    simp only [Tree.run, Option.some.injEq, Prod.mk.injEq] at hr
    obtain ⟨rfl, rfl⟩ := hr
    exact call_ok0 hs (fun k => (([a1.av F, a2.av F] : List AV)[k]?).getD .top) [.agg [.int .i64 v1312, .int .i64 v1313, a1], .agg [.int .i64 v1315, .int .i64 v1316, a2]] [.agg [.int .i64 v1312, .int .i64 v1313, .bslc (BR.root 0) (.f32 v1314)], .agg [.int .i64 v1315, .int .i64 v1316, .bslc (BR.root 1) (.f32 v1317)]] (fun F' h0 hi hρ => ⟨by simp [DVs.av, DV.av, BR.av, hρ], laws_eqMatrix_fn v1312 v1313 v1314 v1315 v1316 v1317 F' (by rw [hi]; rfl) (st_nil hi) ⟨⟨trivial, trivial, bslc_ok hi (by rw [h0, hρ]; exact rowF32_ok hs (DVs.okAt (DVs.okAt ha 0 rfl) 2 rfl) hv1314), trivial⟩, ⟨trivial, trivial, bslc_ok hi (by rw [h0, hρ]; exact rowF32_ok hs (DVs.okAt (DVs.okAt ha 1 rfl) 2 rfl) hv1317), trivial⟩, trivial⟩ hy⟩) rfl
  · cases hr
/-! laws.markFloat32S -/
noncomputable def laws_markFloat32S_l0_T (s : Int × Int × (List Nat)) : Tree ((Int × Int × (List Nat)) ⊕ (Int × (List Nat))) :=
  (.br (decide (s.2.1 < (((s.2.2).length : Nat) : Int))) (
   (.grd (inb s.2.1 ((s.2.2).length)) <|
   .leaf (.inl (IntKind.i64.wrap (s.1 + (1 : Int)), IntKind.i64.wrap (s.2.1 + (1 : Int)), List.set s.2.2 (Int.toNat s.2.1) (fofint .f32 s.1))))
  ) (
   .leaf (.inr (s.1, s.2.2))
  ))

noncomputable def laws_markFloat32S_l0_g (s0 : Int × Int × (List Nat)) : Option (Int × (List Nat)) := whileM (fun s => (laws_markFloat32S_l0_T s).run) s0
def laws_markFloat32S_l0_E (v1340 : List Nat) (v1341 : Int) (s : Int × Int × (List Nat)) : Sd := ([.own 0 0 ((s.2.2).length), .int .i64 s.1, .top, .top, .top, .int .i64 s.2.1, .top, .top, .top, .top, .top, .top, .top, .top, .top, .top, .top, .top, .top, .top], [.row (.f32 s.2.2) 0])
def laws_markFloat32S_l0_X (v1340 : List Nat) (v1341 : Int) (x : Int × (List Nat)) : Out := (.normal, [.top, .int .i64 x.1, .top, .top, .top, .top, .top, .top, .top, .top, .top, .top, .top, .top, .top, .top, .top, .top, .top, .top], [.row (.f32 x.2) 0])
def laws_markFloat32S_l0_kill : List Nat := [0, 0, 1, 1, 1, 0, 1, 1, 1, 1, 1, 1, 1, 1, 1, 1, 1, 1, 1, 1]
def laws_markFloat32S_l0_nx : Exit → List Nat
  | .exit 0 => [1, 0, 1, 1, 1, 1, 1, 1, 1, 1, 1, 1, 1, 1, 1, 1, 1, 1, 1, 1]
  | .ret => [1, 1, 1, 1, 0, 1, 1, 1, 1, 1, 1, 1, 1, 1, 1, 1, 1, 1, 1, 1]
  | _ => []
noncomputable def laws_markFloat32S_LO (v1340 : List Nat) (v1341 : Int) : LOr := fun id e L =>
  match id with
  | 0 => .need (normA 1 laws_markFloat32S_l0_kill e L = some (laws_markFloat32S_l0_E v1340 v1341 ((gI (vAt e 1)), (gI (vAt e 5)), (gRF L (vAt e 0))))) (.call (laws_markFloat32S_l0_g ((gI (vAt e 1)), (gI (vAt e 5)), (gRF L (vAt e 0)))) fun x => .leaf (laws_markFloat32S_l0_X v1340 v1341 x))
  | _ => .fail
noncomputable def laws_markFloat32S_tab : List (FuncId × DFn × Bool) := []
theorem laws_markFloat32S_hO : OrcOk Try.prog (tabD laws_markFloat32S_tab) (tabM laws_markFloat32S_tab) := tabD_nil _
theorem laws_markFloat32S_l0_be (v1340 : List Nat) (v1341 : Int) (s : Int × Int × (List Nat)) : bodyT TT (tabD laws_markFloat32S_tab) (tabM laws_markFloat32S_tab) (laws_markFloat32S_LO v1340 v1341) 1 laws_markFloat32S_l0_kill laws_markFloat32S_l0_nx (bodyOf Try.f23 0) 0 (laws_markFloat32S_l0_E v1340 v1341 s) = (laws_markFloat32S_l0_T s).bind fun y => .leaf (outS (laws_markFloat32S_l0_E v1340 v1341) (laws_markFloat32S_l0_X v1340 v1341) y) := by kernel_rfl
theorem laws_markFloat32S_l0_ok (v1340 : List Nat) (v1341 : Int) : LSound Try.prog 1 (laws_markFloat32S_LO v1340 v1341) 0 (bodyOf Try.f23 0) := by
  intro e L out h
  exact lo_ok (E := laws_markFloat32S_l0_E v1340 v1341) (gT := laws_markFloat32S_l0_T) (X := laws_markFloat32S_l0_X v1340 v1341) (s0 := ((gI (vAt e 1)), (gI (vAt e 5)), (gRF L (vAt e 0)))) tok laws_markFloat32S_hO mixed (LoopsOk_eq (l := []) (by kernel_rfl) trivial) (laws_markFloat32S_l0_be v1340 v1341) rfl (by intro x; rfl) h
noncomputable def laws_markFloat32S_T (v1340 : List Nat) (v1341 : Int) : Tree (Int × (List Nat)) :=
  (.need (some (laws_markFloat32S_l0_E v1340 v1341 (v1341, (0 : Int), v1340)) = some (laws_markFloat32S_l0_E v1340 v1341 (v1341, (0 : Int), v1340))) <|
  (.call (laws_markFloat32S_l0_g (v1341, (0 : Int), v1340)) fun v1350 =>
  .leaf (v1350.1, v1350.2)))

noncomputable def laws_markFloat32S_g (v1340 : List Nat) (v1341 : Int) : Option (Int × (List Nat)) := (laws_markFloat32S_T v1340 v1341).run
def laws_markFloat32S_enc (v1340 : List Nat) (v1341 : Int) (y : Int × (List Nat)) : Rs := (.int .i64 y.1, [.row (.f32 y.2) 0])
theorem laws_markFloat32S_den (v1340 : List Nat) (v1341 : Int) : (den TT (tabD laws_markFloat32S_tab) (tabM laws_markFloat32S_tab) (laws_markFloat32S_LO v1340 v1341) (codeOf Try.f23) ([.own 0 0 v1340.length, .int .i64 v1341] ++ List.replicate (Try.f23.ntmps - ([.own 0 0 v1340.length, .int .i64 v1341] : List DV).length) .undef) [.row (.f32 v1340) 0]).bind (retD TT Try.f23.results.toList 1) = (laws_markFloat32S_T v1340 v1341).bind fun y => .leaf (laws_markFloat32S_enc v1340 v1341 y) := by kernel_rfl
theorem laws_markFloat32S_fn (v1340 : List Nat) (v1341 : Int) (F : Fr) (hm : F.ids.length = 1) (h0 : St F [.row (.f32 v1340) 0] F.H0) (hA : DVs.Ok F [.row (.f32 v1340) 0] [.own 0 0 v1340.length, .int .i64 v1341]) {y : Int × (List Nat)} (hy : laws_markFloat32S_g v1340 v1341 = some y) : ∃ H', FnOk Try.prog 23 (DVs.av F [.own 0 0 v1340.length, .int .i64 v1341]) F.H0 ((laws_markFloat32S_enc v1340 v1341 y).1.av F) H' ∧ St F (laws_markFloat32S_enc v1340 v1341 y).2 H' ∧ (laws_markFloat32S_enc v1340 v1341 y).1.Ok F (laws_markFloat32S_enc v1340 v1341 y).2 :=
  fn_fin tok laws_markFloat32S_hO mixed Try.func23 Try.call23 (by kernel_rfl) (LoopsOk_eq (l := [(0, bodyOf Try.f23 0)]) (by kernel_rfl) ⟨laws_markFloat32S_l0_ok v1340 v1341, trivial⟩) (laws_markFloat32S_den v1340 v1341) hy hm h0 hA
noncomputable def laws_markFloat32S_F : DFn := fun args L =>
  match args with
  | [a1, .int .i64 v1341] =>
    optT (ownF32 L a1) fun qv1340 =>
    (match sepB [qv1340.1] [] with
    | true =>
    .call (laws_markFloat32S_g qv1340.2 v1341) fun y => .grd (decide (y.2.length = qv1340.2.length)) (.leaf (.int .i64 y.1, setRows L ([qv1340.1].zip [.f32 y.2])))
    | false => .fail)
  | _ => .fail
theorem laws_markFloat32S_Fok : COk Try.prog 23 laws_markFloat32S_F false := by
  intro F L H args r L' hs ha hr
  unfold laws_markFloat32S_F at hr
  split at hr
  · rename_i a1 v1341
    obtain ⟨⟨jv1340, v1340⟩, hqv1340, hr⟩ := optT_run hr
    simp only at hr
    split at hr
    · rename_i hsep
      obtain ⟨hnd, hsepv⟩ := sepB_spec hsep
      simp only [Tree.run] at hr
      obtain ⟨y, hy, hr⟩ := Option.bind_eq_some_iff.1 hr
      try simp only [Tree.run] at hr
      obtain ⟨hl0, hr⟩ := ite_run hr
      simp only [Option.some.injEq, Prod.mk.injEq] at hr
      obtain ⟨rfl, rfl⟩ := hr
      obtain ⟨hr0, hu0, ha0, hb0⟩ := (ownR_spec (DVs.okAt ha 0 rfl) (ownF32_or hqv1340))
      exact mut_ok hs (fun k => (([a1.av F] : List AV)[k]?).getD .top) [a1, .int .i64 v1341] [.own 0 0 v1340.length, .int .i64 v1341] [jv1340] [.f32 v1340] [.f32 y.2] hnd rfl rfl (fun i j q h1 h2 => by
          rcases i with _ | i
          · simp at h1 h2; subst h1; subst h2; exact hr0
          · simp at h1) (fun i q q' h1 h2 => by
          rcases i with _ | i
          · simp at h1 h2; subst h1; subst h2; exact of_decide_eq_true hl0
          · simp at h1) (fun j hj => by simp at hj; subst hj; simp [DVs.refs, DV.refs, hu0]) (fun F' h0 hi hρ hst hS => ⟨by (have ab0 : F'.abs 0 = F.abs jv1340 := (by simp [Fr.abs, hi]); simp [DVs.av, DV.av, BR.av, hρ, Row.len, ha0, ab0]), by
          obtain ⟨H1, k1, k2, _⟩ := laws_markFloat32S_fn v1340 v1341 F' (by rw [hi]; rfl) hst ⟨⟨_, rfl, Nat.le_refl _, Nat.le_refl _, fun _ => rfl, (ownR_spec (DVs.okAt ha 0 rfl) (ownF32_or hqv1340)).2.2.2⟩, trivial, trivial⟩ hy
          exact ⟨H1, k1, k2⟩⟩) (fun F' => rfl) (fun L' => trivial)
    · cases hr
  · cases hr
/-! laws.markMatrix -/
noncomputable def laws_markMatrix_LO (v1351 : Int) (v1352 : Int) (v1353 : List Nat) (v1354 : Int) : LOr := fun id e L =>
  match id with
  | _ => .fail
noncomputable def laws_markMatrix_tab : List (FuncId × DFn × Bool) := [(23, laws_markFloat32S_F, false)]
theorem laws_markMatrix_hO : OrcOk Try.prog (tabD laws_markMatrix_tab) (tabM laws_markMatrix_tab) := tabD_cons laws_markFloat32S_Fok (tabD_nil _)
noncomputable def laws_markMatrix_T (v1353 : List Nat) (v1354 : Int) : Tree (Int × (List Nat)) :=
  (.call (laws_markFloat32S_g v1353 v1354) fun v1355 =>
  (.grd (decide (v1355.2.length = v1353.length)) <|
  .leaf (v1355.1, v1355.2)))

noncomputable def laws_markMatrix_g (v1353 : List Nat) (v1354 : Int) : Option (Int × (List Nat)) := (laws_markMatrix_T v1353 v1354).run
def laws_markMatrix_enc (v1351 : Int) (v1352 : Int) (v1353 : List Nat) (v1354 : Int) (y : Int × (List Nat)) : Rs := (.int .i64 y.1, [.row (.f32 y.2) 0])
theorem laws_markMatrix_den (v1351 : Int) (v1352 : Int) (v1353 : List Nat) (v1354 : Int) : (den TT (tabD laws_markMatrix_tab) (tabM laws_markMatrix_tab) (laws_markMatrix_LO v1351 v1352 v1353 v1354) (codeOf Try.f34) ([.agg [.int .i64 v1351, .int .i64 v1352, .own 0 0 v1353.length], .int .i64 v1354] ++ List.replicate (Try.f34.ntmps - ([.agg [.int .i64 v1351, .int .i64 v1352, .own 0 0 v1353.length], .int .i64 v1354] : List DV).length) .undef) [.row (.f32 v1353) 0]).bind (retD TT Try.f34.results.toList 1) = (laws_markMatrix_T v1353 v1354).bind fun y => .leaf (laws_markMatrix_enc v1351 v1352 v1353 v1354 y) := by kernel_rfl
theorem laws_markMatrix_fn (v1351 : Int) (v1352 : Int) (v1353 : List Nat) (v1354 : Int) (F : Fr) (hm : F.ids.length = 1) (h0 : St F [.row (.f32 v1353) 0] F.H0) (hA : DVs.Ok F [.row (.f32 v1353) 0] [.agg [.int .i64 v1351, .int .i64 v1352, .own 0 0 v1353.length], .int .i64 v1354]) {y : Int × (List Nat)} (hy : laws_markMatrix_g v1353 v1354 = some y) : ∃ H', FnOk Try.prog 34 (DVs.av F [.agg [.int .i64 v1351, .int .i64 v1352, .own 0 0 v1353.length], .int .i64 v1354]) F.H0 ((laws_markMatrix_enc v1351 v1352 v1353 v1354 y).1.av F) H' ∧ St F (laws_markMatrix_enc v1351 v1352 v1353 v1354 y).2 H' ∧ (laws_markMatrix_enc v1351 v1352 v1353 v1354 y).1.Ok F (laws_markMatrix_enc v1351 v1352 v1353 v1354 y).2 :=
  fn_fin tok laws_markMatrix_hO mixed Try.func34 Try.call34 (by kernel_rfl) (LoopsOk_eq (l := []) (by kernel_rfl) trivial) (laws_markMatrix_den v1351 v1352 v1353 v1354) hy hm h0 hA
noncomputable def laws_markMatrix_F : DFn := fun args L =>
  match args with
  | [.agg [.int .i64 v1351, .int .i64 v1352, a1], .int .i64 v1354] =>
    optT (ownF32 L a1) fun qv1353 =>
    (match sepB [qv1353.1] [] with
    | true =>
    .call (laws_markMatrix_g qv1353.2 v1354) fun y => .grd (decide (y.2.length = qv1353.2.length)) (.leaf (.int .i64 y.1, setRows L ([qv1353.1].zip [.f32 y.2])))
    | false => .fail)
  | _ => .fail
theorem laws_markMatrix_Fok : COk Try.prog 34 laws_markMatrix_F false := by
  intro F L H args r L' hs ha hr
  unfold laws_markMatrix_F at hr
  split at hr
  · rename_i v1351 v1352 a1 v1354
    obtain ⟨⟨jv1353, v1353⟩, hqv1353, hr⟩ := optT_run hr
    simp only at hr
    split at hr
    · rename_i hsep
      obtain ⟨hnd, hsepv⟩ := sepB_spec hsep
      simp only [Tree.run] at hr
      obtain ⟨y, hy, hr⟩ := Option.bind_eq_some_iff.1 hr
      try simp only [Tree.run] at hr
      obtain ⟨hl0, hr⟩ := ite_run hr
      simp only [Option.some.injEq, Prod.mk.injEq] at hr
      obtain ⟨rfl, rfl⟩ := hr
      obtain ⟨hr0, hu0, ha0, hb0⟩ := (ownR_spec (DVs.okAt (DVs.okAt ha 0 rfl) 2 rfl) (ownF32_or hqv1353))
      exact mut_ok hs (fun k => (([a1.av F] : List AV)[k]?).getD .top) [.agg [.int .i64 v1351, .int .i64 v1352, a1], .int .i64 v1354] [.agg [.int .i64 v1351, .int .i64 v1352, .own 0 0 v1353.length], .int .i64 v1354] [jv1353] [.f32 v1353] [.f32 y.2] hnd rfl rfl (fun i j q h1 h2 => by
          rcases i with _ | i
          · simp at h1 h2; subst h1; subst h2; exact hr0
          · simp at h1) (fun i q q' h1 h2 => by
          rcases i with _ | i
          · simp at h1 h2; subst h1; subst h2; exact of_decide_eq_true hl0
          · simp at h1) (fun j hj => by simp at hj; subst hj; simp [DVs.refs, DV.refs, hu0]) (fun F' h0 hi hρ hst hS => ⟨by (have ab0 : F'.abs 0 = F.abs jv1353 := (by simp [Fr.abs, hi]); simp [DVs.av, DV.av, BR.av, hρ, Row.len, ha0, ab0]), by
          obtain ⟨H1, k1, k2, _⟩ := laws_markMatrix_fn v1351 v1352 v1353 v1354 F' (by rw [hi]; rfl) hst ⟨⟨trivial, trivial, ⟨_, rfl, Nat.le_refl _, Nat.le_refl _, fun _ => rfl, (ownR_spec (DVs.okAt (DVs.okAt ha 0 rfl) 2 rfl) (ownF32_or hqv1353)).2.2.2⟩, trivial⟩, trivial, trivial⟩ hy
          exact ⟨H1, k1, k2⟩⟩) (fun F' => rfl) (fun L' => trivial)
    · cases hr
  · cases hr
/-! laws.markFloat32S -/
noncomputable def laws_markFloat32S_i1_l0_T (s : Unit) : Tree ((Unit) ⊕ (Unit)) :=
  (.br (decide ((0 : Int) < (0 : Int))) (
   .fail
  ) (
   .leaf (.inr ())
  ))

noncomputable def laws_markFloat32S_i1_l0_g (s0 : Unit) : Option (Unit) := whileM (fun s => (laws_markFloat32S_i1_l0_T s).run) s0
def laws_markFloat32S_i1_l0_E (v1361 : Int) (s : Unit) : Sd := ([.nilslc, .int .i64 v1361, .top, .top, .top, .int .i64 (0 : Int), .top, .top, .top, .top, .top, .top, .top, .top, .top, .top, .top, .top, .top, .top], [])
def laws_markFloat32S_i1_l0_X (v1361 : Int) (x : Unit) : Out := (.normal, [.top, .int .i64 v1361, .top, .top, .top, .top, .top, .top, .top, .top, .top, .top, .top, .top, .top, .top, .top, .top, .top, .top], [])
def laws_markFloat32S_i1_l0_kill : List Nat := [0, 0, 1, 1, 1, 0, 1, 1, 1, 1, 1, 1, 1, 1, 1, 1, 1, 1, 1, 1]
def laws_markFloat32S_i1_l0_nx : Exit → List Nat
  | .exit 0 => [1, 0, 1, 1, 1, 1, 1, 1, 1, 1, 1, 1, 1, 1, 1, 1, 1, 1, 1, 1]
  | .ret => [1, 1, 1, 1, 0, 1, 1, 1, 1, 1, 1, 1, 1, 1, 1, 1, 1, 1, 1, 1]
  | _ => []
noncomputable def laws_markFloat32S_i1_LO (v1361 : Int) : LOr := fun id e L =>
  match id with
  | 0 => .need (normA 0 laws_markFloat32S_i1_l0_kill e L = some (laws_markFloat32S_i1_l0_E v1361 ())) (.call (laws_markFloat32S_i1_l0_g ()) fun x => .leaf (laws_markFloat32S_i1_l0_X v1361 x))
  | _ => .fail
noncomputable def laws_markFloat32S_i1_tab : List (FuncId × DFn × Bool) := []
theorem laws_markFloat32S_i1_hO : OrcOk Try.prog (tabD laws_markFloat32S_i1_tab) (tabM laws_markFloat32S_i1_tab) := tabD_nil _
theorem laws_markFloat32S_i1_l0_be (v1361 : Int) (s : Unit) : bodyT TT (tabD laws_markFloat32S_i1_tab) (tabM laws_markFloat32S_i1_tab) (laws_markFloat32S_i1_LO v1361) 0 laws_markFloat32S_i1_l0_kill laws_markFloat32S_i1_l0_nx (bodyOf Try.f23 0) 0 (laws_markFloat32S_i1_l0_E v1361 s) = (laws_markFloat32S_i1_l0_T s).bind fun y => .leaf (outS (laws_markFloat32S_i1_l0_E v1361) (laws_markFloat32S_i1_l0_X v1361) y) := by kernel_rfl
theorem laws_markFloat32S_i1_l0_ok (v1361 : Int) : LSound Try.prog 0 (laws_markFloat32S_i1_LO v1361) 0 (bodyOf Try.f23 0) := by
  intro e L out h
  exact lo_ok (E := laws_markFloat32S_i1_l0_E v1361) (gT := laws_markFloat32S_i1_l0_T) (X := laws_markFloat32S_i1_l0_X v1361) (s0 := ()) tok laws_markFloat32S_i1_hO mixed (LoopsOk_eq (l := []) (by kernel_rfl) trivial) (laws_markFloat32S_i1_l0_be v1361) rfl (by intro x; rfl) h
noncomputable def laws_markFloat32S_i1_T (v1361 : Int) : Tree (Int) :=
  (.need (some (laws_markFloat32S_i1_l0_E v1361 ()) = some (laws_markFloat32S_i1_l0_E v1361 ())) <|
  (.call (laws_markFloat32S_i1_l0_g ()) fun v1364 =>
  .leaf v1361))

noncomputable def laws_markFloat32S_i1_g (v1361 : Int) : Option (Int) := (laws_markFloat32S_i1_T v1361).run
def laws_markFloat32S_i1_enc (v1361 : Int) (y : Int) : Rs := (.int .i64 y, [])
theorem laws_markFloat32S_i1_den (v1361 : Int) : (den TT (tabD laws_markFloat32S_i1_tab) (tabM laws_markFloat32S_i1_tab) (laws_markFloat32S_i1_LO v1361) (codeOf Try.f23) ([.nilslc, .int .i64 v1361] ++ List.replicate (Try.f23.ntmps - ([.nilslc, .int .i64 v1361] : List DV).length) .undef) []).bind (retD TT Try.f23.results.toList 0) = (laws_markFloat32S_i1_T v1361).bind fun y => .leaf (laws_markFloat32S_i1_enc v1361 y) := by kernel_rfl
theorem laws_markFloat32S_i1_fn (v1361 : Int) (F : Fr) (hm : F.ids.length = 0) (h0 : St F [] F.H0) (hA : DVs.Ok F [] [.nilslc, .int .i64 v1361]) {y : Int} (hy : laws_markFloat32S_i1_g v1361 = some y) : ∃ H', FnOk Try.prog 23 (DVs.av F [.nilslc, .int .i64 v1361]) F.H0 ((laws_markFloat32S_i1_enc v1361 y).1.av F) H' ∧ St F (laws_markFloat32S_i1_enc v1361 y).2 H' ∧ (laws_markFloat32S_i1_enc v1361 y).1.Ok F (laws_markFloat32S_i1_enc v1361 y).2 :=
  fn_fin tok laws_markFloat32S_i1_hO mixed Try.func23 Try.call23 (by kernel_rfl) (LoopsOk_eq (l := [(0, bodyOf Try.f23 0)]) (by kernel_rfl) ⟨laws_markFloat32S_i1_l0_ok v1361, trivial⟩) (laws_markFloat32S_i1_den v1361) hy hm h0 hA
noncomputable def laws_markFloat32S_i1_F : DFn := fun args L =>
  match args with
  | [.nilslc, .int .i64 v1361] =>
    .call (laws_markFloat32S_i1_g v1361) fun y => .leaf (.int .i64 y, L)
  | _ => .fail
theorem laws_markFloat32S_i1_Fok : COk Try.prog 23 laws_markFloat32S_i1_F true := by
  intro F L H args r L' hs ha hr
  unfold laws_markFloat32S_i1_F at hr
  split at hr
  · rename_i v1361
    simp only [Tree.run] at hr
    obtain ⟨y, hy, hr⟩ := Option.bind_eq_some_iff.1 hr
    simp only [Tree.run, Option.some.injEq, Prod.mk.injEq] at hr
    obtain ⟨rfl, rfl⟩ := hr
    exact call_ok0 hs (fun k => (([] : List AV)[k]?).getD .top) [.nilslc, .int .i64 v1361] [.nilslc, .int .i64 v1361] (fun F' h0 hi hρ => ⟨by simp [DVs.av, DV.av, BR.av, hρ], laws_markFloat32S_i1_fn v1361 F' (by rw [hi]; rfl) (st_nil hi) ⟨trivial, trivial, trivial⟩ hy⟩) rfl
  · cases hr
/-! laws.markMatrix -/
noncomputable def laws_markMatrix_i1_LO (v1358 : Int) (v1359 : Int) (v1360 : Int) : LOr := fun id e L =>
  match id with
  | _ => .fail
noncomputable def laws_markMatrix_i1_tab : List (FuncId × DFn × Bool) := [(23, laws_markFloat32S_i1_F, true)]
theorem laws_markMatrix_i1_hO : OrcOk Try.prog (tabD laws_markMatrix_i1_tab) (tabM laws_markMatrix_i1_tab) := tabD_cons laws_markFloat32S_i1_Fok (tabD_nil _)
noncomputable def laws_markMatrix_i1_T (v1360 : Int) : Tree (Int) :=
  (.call (laws_markFloat32S_i1_g v1360) fun v1365 =>
  .leaf v1365)

noncomputable def laws_markMatrix_i1_g (v1360 : Int) : Option (Int) := (laws_markMatrix_i1_T v1360).run
def laws_markMatrix_i1_enc (v1358 : Int) (v1359 : Int) (v1360 : Int) (y : Int) : Rs := (.int .i64 y, [])
theorem laws_markMatrix_i1_den (v1358 : Int) (v1359 : Int) (v1360 : Int) : (den TT (tabD laws_markMatrix_i1_tab) (tabM laws_markMatrix_i1_tab) (laws_markMatrix_i1_LO v1358 v1359 v1360) (codeOf Try.f34) ([.agg [.int .i64 v1358, .int .i64 v1359, .nilslc], .int .i64 v1360] ++ List.replicate (Try.f34.ntmps - ([.agg [.int .i64 v1358, .int .i64 v1359, .nilslc], .int .i64 v1360] : List DV).length) .undef) []).bind (retD TT Try.f34.results.toList 0) = (laws_markMatrix_i1_T v1360).bind fun y => .leaf (laws_markMatrix_i1_enc v1358 v1359 v1360 y) := by kernel_rfl
theorem laws_markMatrix_i1_fn (v1358 : Int) (v1359 : Int) (v1360 : Int) (F : Fr) (hm : F.ids.length = 0) (h0 : St F [] F.H0) (hA : DVs.Ok F [] [.agg [.int .i64 v1358, .int .i64 v1359, .nilslc], .int .i64 v1360]) {y : Int} (hy : laws_markMatrix_i1_g v1360 = some y) : ∃ H', FnOk Try.prog 34 (DVs.av F [.agg [.int .i64 v1358, .int .i64 v1359, .nilslc], .int .i64 v1360]) F.H0 ((laws_markMatrix_i1_enc v1358 v1359 v1360 y).1.av F) H' ∧ St F (laws_markMatrix_i1_enc v1358 v1359 v1360 y).2 H' ∧ (laws_markMatrix_i1_enc v1358 v1359 v1360 y).1.Ok F (laws_markMatrix_i1_enc v1358 v1359 v1360 y).2 :=
  fn_fin tok laws_markMatrix_i1_hO mixed Try.func34 Try.call34 (by kernel_rfl) (LoopsOk_eq (l := []) (by kernel_rfl) trivial) (laws_markMatrix_i1_den v1358 v1359 v1360) hy hm h0 hA
noncomputable def laws_markMatrix_i1_F : DFn := fun args L =>
  match args with
  | [.agg [.int .i64 v1358, .int .i64 v1359, .nilslc], .int .i64 v1360] =>
    .call (laws_markMatrix_i1_g v1360) fun y => .leaf (.int .i64 y, L)
  | _ => .fail
theorem laws_markMatrix_i1_Fok : COk Try.prog 34 laws_markMatrix_i1_F true := by
  intro F L H args r L' hs ha hr
  unfold laws_markMatrix_i1_F at hr
  split at hr
  · rename_i v1358 v1359 v1360
    simp only [Tree.run] at hr
    obtain ⟨y, hy, hr⟩ := Option.bind_eq_some_iff.1 hr
    simp only [Tree.run, Option.some.injEq, Prod.mk.injEq] at hr
    obtain ⟨rfl, rfl⟩ := hr
    exact call_ok0 hs (fun k => (([] : List AV)[k]?).getD .top) [.agg [.int .i64 v1358, .int .i64 v1359, .nilslc], .int .i64 v1360] [.agg [.int .i64 v1358, .int .i64 v1359, .nilslc], .int .i64 v1360] (fun F' h0 hi hρ => ⟨by simp [DVs.av, DV.av, BR.av, hρ], laws_markMatrix_i1_fn v1358 v1359 v1360 F' (by rw [hi]; rfl) (st_nil hi) ⟨⟨trivial, trivial, trivial, trivial⟩, trivial, trivial⟩ hy⟩) rfl
  · cases hr
/-! laws.heldFloat32S -/
noncomputable def laws_heldFloat32S_l0_T (v1371 : List Nat) (s : Int × Int) : Tree ((Int × Int) ⊕ ((Unit) ⊕ (Int))) :=
  (.br (decide (s.2 < ((v1371.length : Nat) : Int))) (
   (.grd (inb s.2 v1371.length) <|
   (.br (!feq .f32 (nth v1371 (Int.toNat s.2)) (fofint .f32 s.1)) (
    .leaf (.inr (.inl ()))
   ) (
    .leaf (.inl (IntKind.i64.wrap (s.1 + (1 : Int)), IntKind.i64.wrap (s.2 + (1 : Int))))
   )))
  ) (
   .leaf (.inr (.inr s.1))
  ))

noncomputable def laws_heldFloat32S_l0_g (v1371 : List Nat) (s0 : Int × Int) : Option ((Unit) ⊕ (Int)) := whileM (fun s => (laws_heldFloat32S_l0_T v1371 s).run) s0
def laws_heldFloat32S_l0_E (v1371 : List Nat) (v1372 : Int) (s : Int × Int) : Sd := ([.bslc (BR.root 0) (.f32 v1371), .int .i64 s.1, .top, .top, .top, .int .i64 s.2, .top, .top, .top, .top, .top, .top, .top, .top, .top, .top, .top, .top, .top, .top, .top, .top], [])
def laws_heldFloat32S_l0_X (v1371 : List Nat) (v1372 : Int) (x : (Unit) ⊕ (Int)) : Out := (match x with | .inl x => (.ret, [.top, .top, .top, .top, .int .i64 (-1 : Int), .top, .top, .top, .top, .top, .top, .top, .top, .top, .top, .top, .top, .top, .top, .top, .top, .top], []) | .inr x => (.normal, [.top, .int .i64 x, .top, .top, .top, .top, .top, .top, .top, .top, .top, .top, .top, .top, .top, .top, .top, .top, .top, .top, .top, .top], []))
def laws_heldFloat32S_l0_kill : List Nat := [0, 0, 1, 1, 1, 0, 1, 1, 1, 1, 1, 1, 1, 1, 1, 1, 1, 1, 1, 1, 1, 1]
def laws_heldFloat32S_l0_nx : Exit → List Nat
  | .exit 0 => [1, 0, 1, 1, 1, 1, 1, 1, 1, 1, 1, 1, 1, 1, 1, 1, 1, 1, 1, 1, 1, 1]
  | .ret => [1, 1, 1, 1, 0, 1, 1, 1, 1, 1, 1, 1, 1, 1, 1, 1, 1, 1, 1, 1, 1, 1]
  | _ => []
noncomputable def laws_heldFloat32S_LO (v1371 : List Nat) (v1372 : Int) : LOr := fun id e L =>
  match id with
  | 0 => .need (normA 0 laws_heldFloat32S_l0_kill e L = some (laws_heldFloat32S_l0_E v1371 v1372 ((gI (vAt e 1)), (gI (vAt e 5))))) (.call (laws_heldFloat32S_l0_g v1371 ((gI (vAt e 1)), (gI (vAt e 5)))) fun x => .sum x (fun b0 => .leaf (laws_heldFloat32S_l0_X v1371 v1372 (.inl b0))) (fun c0 => .leaf (laws_heldFloat32S_l0_X v1371 v1372 (.inr c0))))
  | _ => .fail
noncomputable def laws_heldFloat32S_tab : List (FuncId × DFn × Bool) := []
theorem laws_heldFloat32S_hO : OrcOk Try.prog (tabD laws_heldFloat32S_tab) (tabM laws_heldFloat32S_tab) := tabD_nil _
theorem laws_heldFloat32S_l0_be (v1371 : List Nat) (v1372 : Int) (s : Int × Int) : bodyT TT (tabD laws_heldFloat32S_tab) (tabM laws_heldFloat32S_tab) (laws_heldFloat32S_LO v1371 v1372) 0 laws_heldFloat32S_l0_kill laws_heldFloat32S_l0_nx (bodyOf Try.f24 0) 0 (laws_heldFloat32S_l0_E v1371 v1372 s) = (laws_heldFloat32S_l0_T v1371 s).bind fun y => .leaf (outS (laws_heldFloat32S_l0_E v1371 v1372) (laws_heldFloat32S_l0_X v1371 v1372) y) := by kernel_rfl
theorem laws_heldFloat32S_l0_ok (v1371 : List Nat) (v1372 : Int) : LSound Try.prog 0 (laws_heldFloat32S_LO v1371 v1372) 0 (bodyOf Try.f24 0) := by
  intro e L out h
  exact lo_ok (E := laws_heldFloat32S_l0_E v1371 v1372) (gT := laws_heldFloat32S_l0_T v1371) (X := laws_heldFloat32S_l0_X v1371 v1372) (s0 := ((gI (vAt e 1)), (gI (vAt e 5)))) tok laws_heldFloat32S_hO mixed (LoopsOk_eq (l := []) (by kernel_rfl) trivial) (laws_heldFloat32S_l0_be v1371 v1372) rfl (by intro x; (cases x with | inl b => rfl | inr x => exact rfl)) h
noncomputable def laws_heldFloat32S_T (v1371 : List Nat) (v1372 : Int) : Tree (Int) :=
  (.need (some (laws_heldFloat32S_l0_E v1371 v1372 (v1372, (0 : Int))) = some (laws_heldFloat32S_l0_E v1371 v1372 (v1372, (0 : Int)))) <|
  (.call (laws_heldFloat32S_l0_g v1371 (v1372, (0 : Int))) fun v1379 =>
  (.sum v1379 (fun v1380 =>
   .leaf (-1 : Int)
  ) (fun v1381 =>
   .leaf v1381
  ))))

noncomputable def laws_heldFloat32S_g (v1371 : List Nat) (v1372 : Int) : Option (Int) := (laws_heldFloat32S_T v1371 v1372).run
def laws_heldFloat32S_enc (v1371 : List Nat) (v1372 : Int) (y : Int) : Rs := (.int .i64 y, [])
theorem laws_heldFloat32S_den (v1371 : List Nat) (v1372 : Int) : (den TT (tabD laws_heldFloat32S_tab) (tabM laws_heldFloat32S_tab) (laws_heldFloat32S_LO v1371 v1372) (codeOf Try.f24) ([.bslc (BR.root 0) (.f32 v1371), .int .i64 v1372] ++ List.replicate (Try.f24.ntmps - ([.bslc (BR.root 0) (.f32 v1371), .int .i64 v1372] : List DV).length) .undef) []).bind (retD TT Try.f24.results.toList 0) = (laws_heldFloat32S_T v1371 v1372).bind fun y => .leaf (laws_heldFloat32S_enc v1371 v1372 y) := by kernel_rfl
theorem laws_heldFloat32S_fn (v1371 : List Nat) (v1372 : Int) (F : Fr) (hm : F.ids.length = 0) (h0 : St F [] F.H0) (hA : DVs.Ok F [] [.bslc (BR.root 0) (.f32 v1371), .int .i64 v1372]) {y : Int} (hy : laws_heldFloat32S_g v1371 v1372 = some y) : ∃ H', FnOk Try.prog 24 (DVs.av F [.bslc (BR.root 0) (.f32 v1371), .int .i64 v1372]) F.H0 ((laws_heldFloat32S_enc v1371 v1372 y).1.av F) H' ∧ St F (laws_heldFloat32S_enc v1371 v1372 y).2 H' ∧ (laws_heldFloat32S_enc v1371 v1372 y).1.Ok F (laws_heldFloat32S_enc v1371 v1372 y).2 :=
  fn_fin tok laws_heldFloat32S_hO mixed Try.func24 Try.call24 (by kernel_rfl) (LoopsOk_eq (l := [(0, bodyOf Try.f24 0)]) (by kernel_rfl) ⟨laws_heldFloat32S_l0_ok v1371 v1372, trivial⟩) (laws_heldFloat32S_den v1371 v1372) hy hm h0 hA
noncomputable def laws_heldFloat32S_F : DFn := fun args L =>
  match args with
  | [a1, .int .i64 v1372] =>
    optT (rowF32 L a1) fun v1371 =>
    .call (laws_heldFloat32S_g v1371 v1372) fun y => .leaf (.int .i64 y, L)
  | _ => .fail
theorem laws_heldFloat32S_Fok : COk Try.prog 24 laws_heldFloat32S_F true := by
  intro F L H args r L' hs ha hr
  unfold laws_heldFloat32S_F at hr
  split at hr
  · rename_i a1 v1372
    obtain ⟨v1371, hv1371, hr⟩ := optT_run hr
    simp only [Tree.run] at hr
    obtain ⟨y, hy, hr⟩ := Option.bind_eq_some_iff.1 hr
    simp only [Tree.run, Option.some.injEq, Prod.mk.injEq] at hr
    obtain ⟨rfl, rfl⟩ := hr
    exact call_ok0 hs (fun k => (([a1.av F] : List AV)[k]?).getD .top) [a1, .int .i64 v1372] [.bslc (BR.root 0) (.f32 v1371), .int .i64 v1372] (fun F' h0 hi hρ => ⟨by simp [DVs.av, DV.av, BR.av, hρ], laws_heldFloat32S_fn v1371 v1372 F' (by rw [hi]; rfl) (st_nil hi) ⟨bslc_ok hi (by rw [h0, hρ]; exact rowF32_ok hs (DVs.okAt ha 0 rfl) hv1371), trivial, trivial⟩ hy⟩) rfl
  · cases hr
/-! laws.heldMatrix -/
noncomputable def laws_heldMatrix_LO (v1367 : Int) (v1368 : Int) (v1369 : List Nat) (v1370 : Int) : LOr := fun id e L =>
  match id with
  | _ => .fail
noncomputable def laws_heldMatrix_tab : List (FuncId × DFn × Bool) := [(24, laws_heldFloat32S_F, true)]
theorem laws_heldMatrix_hO : OrcOk Try.prog (tabD laws_heldMatrix_tab) (tabM laws_heldMatrix_tab) := tabD_cons laws_heldFloat32S_Fok (tabD_nil _)
noncomputable def laws_heldMatrix_T (v1369 : List Nat) (v1370 : Int) : Tree (Int) :=
  (.call (laws_heldFloat32S_g v1369 v1370) fun v1382 =>
  (.br (decide (v1382 < (0 : Int))) (
   .leaf (-1 : Int)
  ) (
   .leaf v1382
  )))

noncomputable def laws_heldMatrix_g (v1369 : List Nat) (v1370 : Int) : Option (Int) := (laws_heldMatrix_T v1369 v1370).run
def laws_heldMatrix_enc (v1367 : Int) (v1368 : Int) (v1369 : List Nat) (v1370 : Int) (y : Int) : Rs := (.int .i64 y, [])
theorem laws_heldMatrix_den (v1367 : Int) (v1368 : Int) (v1369 : List Nat) (v1370 : Int) : (den TT (tabD laws_heldMatrix_tab) (tabM laws_heldMatrix_tab) (laws_heldMatrix_LO v1367 v1368 v1369 v1370) (codeOf Try.f35) ([.agg [.int .i64 v1367, .int .i64 v1368, .bslc (BR.root 0) (.f32 v1369)], .int .i64 v1370] ++ List.replicate (Try.f35.ntmps - ([.agg [.int .i64 v1367, .int .i64 v1368, .bslc (BR.root 0) (.f32 v1369)], .int .i64 v1370] : List DV).length) .undef) []).bind (retD TT Try.f35.results.toList 0) = (laws_heldMatrix_T v1369 v1370).bind fun y => .leaf (laws_heldMatrix_enc v1367 v1368 v1369 v1370 y) := by kernel_rfl
theorem laws_heldMatrix_fn (v1367 : Int) (v1368 : Int) (v1369 : List Nat) (v1370 : Int) (F : Fr) (hm : F.ids.length = 0) (h0 : St F [] F.H0) (hA : DVs.Ok F [] [.agg [.int .i64 v1367, .int .i64 v1368, .bslc (BR.root 0) (.f32 v1369)], .int .i64 v1370]) {y : Int} (hy : laws_heldMatrix_g v1369 v1370 = some y) : ∃ H', FnOk Try.prog 35 (DVs.av F [.agg [.int .i64 v1367, .int .i64 v1368, .bslc (BR.root 0) (.f32 v1369)], .int .i64 v1370]) F.H0 ((laws_heldMatrix_enc v1367 v1368 v1369 v1370 y).1.av F) H' ∧ St F (laws_heldMatrix_enc v1367 v1368 v1369 v1370 y).2 H' ∧ (laws_heldMatrix_enc v1367 v1368 v1369 v1370 y).1.Ok F (laws_heldMatrix_enc v1367 v1368 v1369 v1370 y).2 :=
  fn_fin tok laws_heldMatrix_hO mixed Try.func35 Try.call35 (by kernel_rfl) (LoopsOk_eq (l := []) (by kernel_rfl) trivial) (laws_heldMatrix_den v1367 v1368 v1369 v1370) hy hm h0 hA
noncomputable def laws_heldMatrix_F : DFn := fun args L =>
  match args with
  | [.agg [.int .i64 v1367, .int .i64 v1368, a1], .int .i64 v1370] =>
    optT (rowF32 L a1) fun v1369 =>
    .call (laws_heldMatrix_g v1369 v1370) fun y => .leaf (.int .i64 y, L)
  | _ => .fail
theorem laws_heldMatrix_Fok : COk Try.prog 35 laws_heldMatrix_F true := by
  intro F L H args r L' hs ha hr
  unfold laws_heldMatrix_F at hr
  split at hr
  · rename_i v1367 v1368 a1 v1370
    obtain ⟨v1369, hv1369, hr⟩ := optT_run hr
    simp only [Tree.run] at hr
    obtain ⟨y, hy, hr⟩ := Option.bind_eq_some_iff.1 hr
    simp only [Tree.run, Option.some.injEq, Prod.mk.injEq] at hr
    obtain ⟨rfl, rfl⟩ := hr
    exact call_ok0 hs (fun k => (([a1.av F] : List AV)[k]?).getD .top) [.agg [.int .i64 v1367, .int .i64 v1368, a1], .int .i64 v1370] [.agg [.int .i64 v1367, .int .i64 v1368, .bslc (BR.root 0) (.f32 v1369)], .int .i64 v1370] (fun F' h0 hi hρ => ⟨by simp [DVs.av, DV.av, BR.av, hρ], laws_heldMatrix_fn v1367 v1368 v1369 v1370 F' (by rw [hi]; rfl) (st_nil hi) ⟨⟨trivial, trivial, bslc_ok hi (by rw [h0, hρ]; exact rowF32_ok hs (DVs.okAt (DVs.okAt ha 0 rfl) 2 rfl) hv1369), trivial⟩, trivial, trivial⟩ hy⟩) rfl
  · cases hr
/-! laws.FnExactExpMatrix -/
noncomputable def laws_FnExactExpMatrix_LO (v1 : Int) (v2 : Int) (v3 : List Nat) (v4 : Int) : LOr := fun id e L =>
  match id with
  | _ => .fail
noncomputable def laws_FnExactExpMatrix_tab : List (FuncId × DFn × Bool) := [(29, laws_szMatrix_F, true), (31, laws_toMatrix_F, true), (30, spec_ExpMatrix_F, true), (32, impl_ExpMatrix_F, true), (33, laws_eqMatrix_F, true), (34, (orD (fun args => match args with | [.agg [_, _, .nilslc], _] => true | _ => false) laws_markMatrix_i1_F laws_markMatrix_F), false), (35, laws_heldMatrix_F, true)]
theorem laws_FnExactExpMatrix_hO : OrcOk Try.prog (tabD laws_FnExactExpMatrix_tab) (tabM laws_FnExactExpMatrix_tab) := tabD_cons laws_szMatrix_Fok (tabD_cons laws_toMatrix_Fok (tabD_cons spec_ExpMatrix_Fok (tabD_cons impl_ExpMatrix_Fok (tabD_cons laws_eqMatrix_Fok (tabD_cons (orD_ok (COk.weak laws_markMatrix_i1_Fok) laws_markMatrix_Fok) (tabD_cons laws_heldMatrix_Fok (tabD_nil _)))))))
noncomputable def laws_FnExactExpMatrix_T (v1 : Int) (v2 : Int) (v3 : List Nat) (v4 : Int) : Tree (Bool) :=
  (.br (decide ((laws_szMatrix_v v3 (1048576 : Int)) < (0 : Int))) (
   .leaf true
  ) (
   (.call (laws_toMatrix_g v1 v2 v3) fun v22 =>
   (.call (spec_ExpMatrix_g v22.1 v22.2.1 v22.2.2 v4) fun v456 =>
   (.sum v456 (fun v457 =>
    (.call (laws_toMatrix_g v1 v2 v3) fun v459 =>
    (.call (impl_ExpMatrix_g v459.1 v459.2.1 v459.2.2 v4) fun v1309 =>
    (.sum v1309 (fun v1310 =>
     (.call (laws_eqMatrix_g (0 : Int) (0 : Int) ([] : List Nat) (0 : Int) (0 : Int) ([] : List Nat)) fun v1329 =>
     (.br (!v1329) (
      .leaf false
     ) (
      (.br (!(false == false)) (
       .leaf false
      ) (
       (.call (laws_toMatrix_g v1 v2 v3) fun v1330 =>
       (.call (laws_eqMatrix_g v459.1 v459.2.1 v459.2.2 v1330.1 v1330.2.1 v1330.2.2) fun v1331 =>
       (.br (!v1331) (
        .leaf false
       ) (
        (.call (laws_markMatrix_g v459.2.2 (1 : Int)) fun v1356 =>
        (.grd (decide (v1356.2.length = v459.2.2.length)) <|
        (.br (decide (v1356.1 < (0 : Int))) (
         .leaf false
        ) (
         (.call (laws_eqMatrix_g (0 : Int) (0 : Int) ([] : List Nat) (0 : Int) (0 : Int) ([] : List Nat)) fun v1357 =>
         (.br (!v1357) (
          .leaf false
         ) (
          (.br (!(false == false)) (
           .leaf false
          ) (
           (.call (laws_markMatrix_i1_g (1 : Int)) fun v1366 =>
           (.call (laws_heldMatrix_g ([] : List Nat) (1 : Int)) fun v1383 =>
           (.br (decide (v1383 < (0 : Int))) (
            .leaf false
           ) (
            (.br (!decide (v1383 = v1366)) (
             .leaf false
            ) (
             (.call (laws_toMatrix_g v1 v2 v3) fun v1384 =>
             (.call (impl_ExpMatrix_g v1384.1 v1384.2.1 v1384.2.2 v4) fun v1385 =>
             (.sum v1385 (fun v1386 =>
              (.call (laws_eqMatrix_g (0 : Int) (0 : Int) ([] : List Nat) (0 : Int) (0 : Int) ([] : List Nat)) fun v1388 =>
              (.br (!v1388) (
               .leaf false
              ) (
               (.br (!(false == false)) (
                .leaf false
               ) (
                (.call (laws_heldMatrix_g ([] : List Nat) (1 : Int)) fun v1389 =>
                (.br (decide (v1389 < (0 : Int))) (
                 .leaf false
                ) (
                 (.br (!decide (v1389 = v1366)) (
                  .leaf false
                 ) (
                  .leaf true
                 ))
                )))
               ))
              )))
             ) (fun v1387 =>
              (.call (laws_eqMatrix_g v1387.1 v1387.2.1 v1387.2.2 (0 : Int) (0 : Int) ([] : List Nat)) fun v1390 =>
              (.br (!v1390) (
               .leaf false
              ) (
               (.br (!(true == false)) (
                .leaf false
               ) (
                (.call (laws_heldMatrix_g ([] : List Nat) (1 : Int)) fun v1391 =>
                (.br (decide (v1391 < (0 : Int))) (
                 .leaf false
                ) (
                 (.br (!decide (v1391 = v1366)) (
                  .leaf false
                 ) (
                  .leaf true
                 ))
                )))
               ))
              )))
             ))))
            ))
           ))))
          ))
         )))
        ))))
       ))))
      ))
     )))
    ) (fun v1311 =>
     (.call (laws_eqMatrix_g v1311.1 v1311.2.1 v1311.2.2 (0 : Int) (0 : Int) ([] : List Nat)) fun v1392 =>
     (.br (!v1392) (
      .leaf false
     ) (
      (.br (!(true == false)) (
       .leaf false
      ) (
       (.call (laws_toMatrix_g v1 v2 v3) fun v1393 =>
       (.call (laws_eqMatrix_g v459.1 v459.2.1 v459.2.2 v1393.1 v1393.2.1 v1393.2.2) fun v1394 =>
       (.br (!v1394) (
        .leaf false
       ) (
        (.call (laws_markMatrix_g v459.2.2 (1 : Int)) fun v1395 =>
        (.grd (decide (v1395.2.length = v459.2.2.length)) <|
        (.br (decide (v1395.1 < (0 : Int))) (
         .leaf false
        ) (
         (.call (laws_eqMatrix_g v1311.1 v1311.2.1 v1311.2.2 (0 : Int) (0 : Int) ([] : List Nat)) fun v1396 =>
         (.br (!v1396) (
          .leaf false
         ) (
          (.br (!(true == false)) (
           .leaf false
          ) (
           (.call (laws_markMatrix_g v1311.2.2 (1 : Int)) fun v1397 =>
           (.grd (decide (v1397.2.length = v1311.2.2.length)) <|
           (.call (laws_heldMatrix_g v1397.2 (1 : Int)) fun v1398 =>
           (.br (decide (v1398 < (0 : Int))) (
            .leaf false
           ) (
            (.br (!decide (v1398 = v1397.1)) (
             .leaf false
            ) (
             (.call (laws_toMatrix_g v1 v2 v3) fun v1399 =>
             (.call (impl_ExpMatrix_g v1399.1 v1399.2.1 v1399.2.2 v4) fun v1400 =>
             (.sum v1400 (fun v1401 =>
              (.call (laws_eqMatrix_g (0 : Int) (0 : Int) ([] : List Nat) (0 : Int) (0 : Int) ([] : List Nat)) fun v1403 =>
              (.br (!v1403) (
               .leaf false
              ) (
               (.br (!(false == false)) (
                .leaf false
               ) (
                (.call (laws_heldMatrix_g v1397.2 (1 : Int)) fun v1404 =>
                (.br (decide (v1404 < (0 : Int))) (
                 .leaf false
                ) (
                 (.br (!decide (v1404 = v1397.1)) (
                  .leaf false
                 ) (
                  .leaf true
                 ))
                )))
               ))
              )))
             ) (fun v1402 =>
              (.call (laws_eqMatrix_g v1402.1 v1402.2.1 v1402.2.2 (0 : Int) (0 : Int) ([] : List Nat)) fun v1405 =>
              (.br (!v1405) (
               .leaf false
              ) (
               (.br (!(true == false)) (
                .leaf false
               ) (
                (.call (laws_heldMatrix_g v1397.2 (1 : Int)) fun v1406 =>
                (.br (decide (v1406 < (0 : Int))) (
                 .leaf false
                ) (
                 (.br (!decide (v1406 = v1397.1)) (
                  .leaf false
                 ) (
                  .leaf true
                 ))
                )))
               ))
              )))
             ))))
            ))
           )))))
          ))
         )))
        ))))
       ))))
      ))
     )))
    ))))
   ) (fun v458 =>
    (.call (laws_toMatrix_g v1 v2 v3) fun v1407 =>
    (.call (impl_ExpMatrix_g v1407.1 v1407.2.1 v1407.2.2 v4) fun v1408 =>
    (.sum v1408 (fun v1409 =>
     (.call (laws_eqMatrix_g (0 : Int) (0 : Int) ([] : List Nat) v458.1 v458.2.1 v458.2.2) fun v1411 =>
     (.br (!v1411) (
      .leaf false
     ) (
      (.br (!(false == true)) (
       .leaf false
      ) (
       (.call (laws_toMatrix_g v1 v2 v3) fun v1412 =>
       (.call (laws_eqMatrix_g v1407.1 v1407.2.1 v1407.2.2 v1412.1 v1412.2.1 v1412.2.2) fun v1413 =>
       (.br (!v1413) (
        .leaf false
       ) (
        (.call (laws_markMatrix_g v1407.2.2 (1 : Int)) fun v1414 =>
        (.grd (decide (v1414.2.length = v1407.2.2.length)) <|
        (.br (decide (v1414.1 < (0 : Int))) (
         .leaf false
        ) (
         (.call (laws_eqMatrix_g (0 : Int) (0 : Int) ([] : List Nat) v458.1 v458.2.1 v458.2.2) fun v1415 =>
         (.br (!v1415) (
          .leaf false
         ) (
          (.br (!(false == true)) (
           .leaf false
          ) (
           (.call (laws_markMatrix_i1_g (1 : Int)) fun v1416 =>
           (.call (laws_heldMatrix_g ([] : List Nat) (1 : Int)) fun v1417 =>
           (.br (decide (v1417 < (0 : Int))) (
            .leaf false
           ) (
            (.br (!decide (v1417 = v1416)) (
             .leaf false
            ) (
             (.call (laws_toMatrix_g v1 v2 v3) fun v1418 =>
             (.call (impl_ExpMatrix_g v1418.1 v1418.2.1 v1418.2.2 v4) fun v1419 =>
             (.sum v1419 (fun v1420 =>
              (.call (laws_eqMatrix_g (0 : Int) (0 : Int) ([] : List Nat) v458.1 v458.2.1 v458.2.2) fun v1422 =>
              (.br (!v1422) (
               .leaf false
              ) (
               (.br (!(false == true)) (
                .leaf false
               ) (
                (.call (laws_heldMatrix_g ([] : List Nat) (1 : Int)) fun v1423 =>
                (.br (decide (v1423 < (0 : Int))) (
                 .leaf false
                ) (
                 (.br (!decide (v1423 = v1416)) (
                  .leaf false
                 ) (
                  .leaf true
                 ))
                )))
               ))
              )))
             ) (fun v1421 =>
              (.call (laws_eqMatrix_g v1421.1 v1421.2.1 v1421.2.2 v458.1 v458.2.1 v458.2.2) fun v1424 =>
              (.br (!v1424) (
               .leaf false
              ) (
               (.br (!(true == true)) (
                .leaf false
               ) (
                (.call (laws_heldMatrix_g ([] : List Nat) (1 : Int)) fun v1425 =>
                (.br (decide (v1425 < (0 : Int))) (
                 .leaf false
                ) (
                 (.br (!decide (v1425 = v1416)) (
                  .leaf false
                 ) (
                  .leaf true
                 ))
                )))
               ))
              )))
             ))))
            ))
           ))))
          ))
         )))
        ))))
       ))))
      ))
     )))
    ) (fun v1410 =>
     (.call (laws_eqMatrix_g v1410.1 v1410.2.1 v1410.2.2 v458.1 v458.2.1 v458.2.2) fun v1426 =>
     (.br (!v1426) (
      .leaf false
     ) (
      (.br (!(true == true)) (
       .leaf false
      ) (
       (.call (laws_toMatrix_g v1 v2 v3) fun v1427 =>
       (.call (laws_eqMatrix_g v1407.1 v1407.2.1 v1407.2.2 v1427.1 v1427.2.1 v1427.2.2) fun v1428 =>
       (.br (!v1428) (
        .leaf false
       ) (
        (.call (laws_markMatrix_g v1407.2.2 (1 : Int)) fun v1429 =>
        (.grd (decide (v1429.2.length = v1407.2.2.length)) <|
        (.br (decide (v1429.1 < (0 : Int))) (
         .leaf false
        ) (
         (.call (laws_eqMatrix_g v1410.1 v1410.2.1 v1410.2.2 v458.1 v458.2.1 v458.2.2) fun v1430 =>
         (.br (!v1430) (
          .leaf false
         ) (
          (.br (!(true == true)) (
           .leaf false
          ) (
           (.call (laws_markMatrix_g v1410.2.2 (1 : Int)) fun v1431 =>
           (.grd (decide (v1431.2.length = v1410.2.2.length)) <|
           (.call (laws_heldMatrix_g v1431.2 (1 : Int)) fun v1432 =>
           (.br (decide (v1432 < (0 : Int))) (
            .leaf false
           ) (
            (.br (!decide (v1432 = v1431.1)) (
             .leaf false
            ) (
             (.call (laws_toMatrix_g v1 v2 v3) fun v1433 =>
             (.call (impl_ExpMatrix_g v1433.1 v1433.2.1 v1433.2.2 v4) fun v1434 =>
             (.sum v1434 (fun v1435 =>
              (.call (laws_eqMatrix_g (0 : Int) (0 : Int) ([] : List Nat) v458.1 v458.2.1 v458.2.2) fun v1437 =>
              (.br (!v1437) (
               .leaf false
              ) (
               (.br (!(false == true)) (
                .leaf false
               ) (
                (.call (laws_heldMatrix_g v1431.2 (1 : Int)) fun v1438 =>
                (.br (decide (v1438 < (0 : Int))) (
                 .leaf false
                ) (
                 (.br (!decide (v1438 = v1431.1)) (
                  .leaf false
                 ) (
                  .leaf true
                 ))
                )))
               ))
              )))
             ) (fun v1436 =>
              (.call (laws_eqMatrix_g v1436.1 v1436.2.1 v1436.2.2 v458.1 v458.2.1 v458.2.2) fun v1439 =>
              (.br (!v1439) (
               .leaf false
              ) (
               (.br (!(true == true)) (
                .leaf false
               ) (
                (.call (laws_heldMatrix_g v1431.2 (1 : Int)) fun v1440 =>
                (.br (decide (v1440 < (0 : Int))) (
                 .leaf false
                ) (
                 (.br (!decide (v1440 = v1431.1)) (
                  .leaf false
                 ) (
                  .leaf true
                 ))
                )))
               ))
              )))
             ))))
            ))
           )))))
          ))
         )))
        ))))
       ))))
      ))
     )))
    ))))
   ))))
  ))

noncomputable def laws_FnExactExpMatrix_g (v1 : Int) (v2 : Int) (v3 : List Nat) (v4 : Int) : Option (Bool) := (laws_FnExactExpMatrix_T v1 v2 v3 v4).run
def laws_FnExactExpMatrix_enc (v1 : Int) (v2 : Int) (v3 : List Nat) (v4 : Int) (y : Bool) : Rs := (.bool y, [])
theorem laws_FnExactExpMatrix_den (v1 : Int) (v2 : Int) (v3 : List Nat) (v4 : Int) : (den TT (tabD laws_FnExactExpMatrix_tab) (tabM laws_FnExactExpMatrix_tab) (laws_FnExactExpMatrix_LO v1 v2 v3 v4) (codeOf Try.f6) ([.agg [.int .i64 v1, .int .i64 v2, .bslc (BR.root 0) (.f32 v3)], .int .i64 v4] ++ List.replicate (Try.f6.ntmps - ([.agg [.int .i64 v1, .int .i64 v2, .bslc (BR.root 0) (.f32 v3)], .int .i64 v4] : List DV).length) .undef) []).bind (retD TT Try.f6.results.toList 0) = (laws_FnExactExpMatrix_T v1 v2 v3 v4).bind fun y => .leaf (laws_FnExactExpMatrix_enc v1 v2 v3 v4 y) := by kernel_rfl
theorem laws_FnExactExpMatrix_fn (v1 : Int) (v2 : Int) (v3 : List Nat) (v4 : Int) (F : Fr) (hm : F.ids.length = 0) (h0 : St F [] F.H0) (hA : DVs.Ok F [] [.agg [.int .i64 v1, .int .i64 v2, .bslc (BR.root 0) (.f32 v3)], .int .i64 v4]) {y : Bool} (hy : laws_FnExactExpMatrix_g v1 v2 v3 v4 = some y) : ∃ H', FnOk Try.prog 6 (DVs.av F [.agg [.int .i64 v1, .int .i64 v2, .bslc (BR.root 0) (.f32 v3)], .int .i64 v4]) F.H0 ((laws_FnExactExpMatrix_enc v1 v2 v3 v4 y).1.av F) H' ∧ St F (laws_FnExactExpMatrix_enc v1 v2 v3 v4 y).2 H' ∧ (laws_FnExactExpMatrix_enc v1 v2 v3 v4 y).1.Ok F (laws_FnExactExpMatrix_enc v1 v2 v3 v4 y).2 :=
  fn_fin tok laws_FnExactExpMatrix_hO mixed Try.func6 Try.call6 (by kernel_rfl) (LoopsOk_eq (l := []) (by kernel_rfl) trivial) (laws_FnExactExpMatrix_den v1 v2 v3 v4) hy hm h0 hA
noncomputable def laws_FnExactExpMatrix_F : DFn := fun args L =>
  match args with
  | [.agg [.int .i64 v1, .int .i64 v2, a1], .int .i64 v4] =>
    optT (rowF32 L a1) fun v3 =>
    .call (laws_FnExactExpMatrix_g v1 v2 v3 v4) fun y => .leaf (.bool y, L)
  | _ => .fail
theorem laws_FnExactExpMatrix_Fok : COk Try.prog 6 laws_FnExactExpMatrix_F true := by
  intro F L H args r L' hs ha hr
  unfold laws_FnExactExpMatrix_F at hr
  split at hr
  · rename_i v1 v2 a1 v4
    obtain ⟨v3, hv3, hr⟩ := optT_run hr
    simp only [Tree.run] at hr
    obtain ⟨y, hy, hr⟩ := Option.bind_eq_some_iff.1 hr
    simp only [Tree.run, Option.some.injEq, Prod.mk.injEq] at hr
    obtain ⟨rfl, rfl⟩ := hr
    exact call_ok0 hs (fun k => (([a1.av F] : List AV)[k]?).getD .top) [.agg [.int .i64 v1, .int .i64 v2, a1], .int .i64 v4] [.agg [.int .i64 v1, .int .i64 v2, .bslc (BR.root 0) (.f32 v3)], .int .i64 v4] (fun F' h0 hi hρ => ⟨by simp [DVs.av, DV.av, BR.av, hρ], laws_FnExactExpMatrix_fn v1 v2 v3 v4 F' (by rw [hi]; rfl) (st_nil hi) ⟨⟨trivial, trivial, bslc_ok hi (by rw [h0, hρ]; exact rowF32_ok hs (DVs.okAt (DVs.okAt ha 0 rfl) 2 rfl) hv3), trivial⟩, trivial, trivial⟩ hy⟩) rfl
  · cases hr
/-! laws.szFloat32S -/
noncomputable def laws_szFloat32S_len_LO (v1449 : Nat) (v1450 : Int) : LOr := fun id e L =>
  match id with
  | _ => .fail
noncomputable def laws_szFloat32S_len_tab : List (FuncId × DFn × Bool) := []
theorem laws_szFloat32S_len_hO : OrcOk Try.prog (tabD laws_szFloat32S_len_tab) (tabM laws_szFloat32S_len_tab) := tabD_nil _
noncomputable def laws_szFloat32S_len_T (v1449 : Nat) (v1450 : Int) : Tree (Int) :=
  (.br (decide (IntKind.i64.wrap (v1450 - ((v1449 : Nat) : Int)) < (0 : Int))) (
   .leaf (-1 : Int)
  ) (
   .leaf (IntKind.i64.wrap (v1450 - ((v1449 : Nat) : Int)))
  ))

noncomputable def laws_szFloat32S_len_g (v1449 : Nat) (v1450 : Int) : Option (Int) := (laws_szFloat32S_len_T v1449 v1450).run
def laws_szFloat32S_len_enc (v1449 : Nat) (v1450 : Int) (y : Int) : Rs := (.int .i64 y, [])
theorem laws_szFloat32S_len_den (v1449 : Nat) (v1450 : Int) : (den TT (tabD laws_szFloat32S_len_tab) (tabM laws_szFloat32S_len_tab) (laws_szFloat32S_len_LO v1449 v1450) (codeOf Try.f64) ([.hslc (BR.root 0) v1449, .int .i64 v1450] ++ List.replicate (Try.f64.ntmps - ([.hslc (BR.root 0) v1449, .int .i64 v1450] : List DV).length) .undef) []).bind (retD TT Try.f64.results.toList 0) = (laws_szFloat32S_len_T v1449 v1450).bind fun y => .leaf (laws_szFloat32S_len_enc v1449 v1450 y) := by kernel_rfl
theorem laws_szFloat32S_len_fn (v1449 : Nat) (v1450 : Int) (F : Fr) (hm : F.ids.length = 0) (h0 : St F [] F.H0) (hA : DVs.Ok F [] [.hslc (BR.root 0) v1449, .int .i64 v1450]) {y : Int} (hy : laws_szFloat32S_len_g v1449 v1450 = some y) : ∃ H', FnOk Try.prog 64 (DVs.av F [.hslc (BR.root 0) v1449, .int .i64 v1450]) F.H0 ((laws_szFloat32S_len_enc v1449 v1450 y).1.av F) H' ∧ St F (laws_szFloat32S_len_enc v1449 v1450 y).2 H' ∧ (laws_szFloat32S_len_enc v1449 v1450 y).1.Ok F (laws_szFloat32S_len_enc v1449 v1450 y).2 :=
  fn_fin tok laws_szFloat32S_len_hO mixed Try.func64 Try.call64 (by kernel_rfl) (LoopsOk_eq (l := []) (by kernel_rfl) trivial) (laws_szFloat32S_len_den v1449 v1450) hy hm h0 hA
def laws_szFloat32S_len_v (v1449 : Nat) (v1450 : Int) : Int :=
  if (decide (IntKind.i64.wrap (v1450 - ((v1449 : Nat) : Int)) < (0 : Int))) = true then (
   (-1 : Int)
  ) else (
   IntKind.i64.wrap (v1450 - ((v1449 : Nat) : Int))
  )
theorem laws_szFloat32S_len_tot (v1449 : Nat) (v1450 : Int) : laws_szFloat32S_len_g v1449 v1450 = some (laws_szFloat32S_len_v v1449 v1450) := by
  unfold laws_szFloat32S_len_g laws_szFloat32S_len_T laws_szFloat32S_len_v
  simp only [Tree.run]
  repeat' (first | rfl | split)
noncomputable def laws_szFloat32S_len_F : DFn := fun args L =>
  match args with
  | [a1, .int .i64 v1450] =>
    optT (lenV L a1) fun v1449 =>
    .leaf (.int .i64 (laws_szFloat32S_len_v v1449 v1450), L)
  | _ => .fail
theorem laws_szFloat32S_len_Fok : COk Try.prog 64 laws_szFloat32S_len_F true := by
  intro F L H args r L' hs ha hr
  unfold laws_szFloat32S_len_F at hr
  split at hr
  · rename_i a1 v1450
    obtain ⟨v1449, hv1449, hr⟩ := optT_run hr
    have hy := laws_szFloat32S_len_tot v1449 v1450
    generalize laws_szFloat32S_len_v v1449 v1450 = y at hy hr
    simp only [Tree.run, Option.some.injEq, Prod.mk.injEq] at hr
    obtain ⟨rfl, rfl⟩ := hr
    exact call_ok0 hs (fun k => (([a1.av F] : List AV)[k]?).getD .top) [a1, .int .i64 v1450] [.hslc (BR.root 0) v1449, .int .i64 v1450] (fun F' h0 hi hρ => ⟨by simp [DVs.av, DV.av, BR.av, hρ], laws_szFloat32S_len_fn v1449 v1450 F' (by rw [hi]; rfl) (st_nil hi) ⟨hslc_ok hi (by rw [h0, hρ]; exact lenV_ok hs (DVs.okAt ha 0 rfl) hv1449), trivial, trivial⟩ hy⟩) rfl
  · cases hr
/-! laws.szMatrix -/
noncomputable def laws_szMatrix_len_LO (v1445 : Int) (v1446 : Int) (v1447 : Nat) (v1448 : Int) : LOr := fun id e L =>
  match id with
  | _ => .fail
noncomputable def laws_szMatrix_len_tab : List (FuncId × DFn × Bool) := [(64, laws_szFloat32S_len_F, true)]
theorem laws_szMatrix_len_hO : OrcOk Try.prog (tabD laws_szMatrix_len_tab) (tabM laws_szMatrix_len_tab) := tabD_cons laws_szFloat32S_len_Fok (tabD_nil _)
noncomputable def laws_szMatrix_len_T (v1447 : Nat) (v1448 : Int) : Tree (Int) :=
  (.br (decide ((laws_szFloat32S_len_v v1447 v1448) < (0 : Int))) (
   .leaf (-1 : Int)
  ) (
   .leaf (laws_szFloat32S_len_v v1447 v1448)
  ))

noncomputable def laws_szMatrix_len_g (v1447 : Nat) (v1448 : Int) : Option (Int) := (laws_szMatrix_len_T v1447 v1448).run
def laws_szMatrix_len_enc (v1445 : Int) (v1446 : Int) (v1447 : Nat) (v1448 : Int) (y : Int) : Rs := (.int .i64 y, [])
theorem laws_szMatrix_len_den (v1445 : Int) (v1446 : Int) (v1447 : Nat) (v1448 : Int) : (den TT (tabD laws_szMatrix_len_tab) (tabM laws_szMatrix_len_tab) (laws_szMatrix_len_LO v1445 v1446 v1447 v1448) (codeOf Try.f29) ([.agg [.int .i64 v1445, .int .i64 v1446, .hslc (BR.root 0) v1447], .int .i64 v1448] ++ List.replicate (Try.f29.ntmps - ([.agg [.int .i64 v1445, .int .i64 v1446, .hslc (BR.root 0) v1447], .int .i64 v1448] : List DV).length) .undef) []).bind (retD TT Try.f29.results.toList 0) = (laws_szMatrix_len_T v1447 v1448).bind fun y => .leaf (laws_szMatrix_len_enc v1445 v1446 v1447 v1448 y) := by kernel_rfl
theorem laws_szMatrix_len_fn (v1445 : Int) (v1446 : Int) (v1447 : Nat) (v1448 : Int) (F : Fr) (hm : F.ids.length = 0) (h0 : St F [] F.H0) (hA : DVs.Ok F [] [.agg [.int .i64 v1445, .int .i64 v1446, .hslc (BR.root 0) v1447], .int .i64 v1448]) {y : Int} (hy : laws_szMatrix_len_g v1447 v1448 = some y) : ∃ H', FnOk Try.prog 29 (DVs.av F [.agg [.int .i64 v1445, .int .i64 v1446, .hslc (BR.root 0) v1447], .int .i64 v1448]) F.H0 ((laws_szMatrix_len_enc v1445 v1446 v1447 v1448 y).1.av F) H' ∧ St F (laws_szMatrix_len_enc v1445 v1446 v1447 v1448 y).2 H' ∧ (laws_szMatrix_len_enc v1445 v1446 v1447 v1448 y).1.Ok F (laws_szMatrix_len_enc v1445 v1446 v1447 v1448 y).2 :=
  fn_fin tok laws_szMatrix_len_hO mixed Try.func29 Try.call29 (by kernel_rfl) (LoopsOk_eq (l := []) (by kernel_rfl) trivial) (laws_szMatrix_len_den v1445 v1446 v1447 v1448) hy hm h0 hA
def laws_szMatrix_len_v (v1447 : Nat) (v1448 : Int) : Int :=
  if (decide ((laws_szFloat32S_len_v v1447 v1448) < (0 : Int))) = true then (
   (-1 : Int)
  ) else (
   (laws_szFloat32S_len_v v1447 v1448)
  )
theorem laws_szMatrix_len_tot (v1447 : Nat) (v1448 : Int) : laws_szMatrix_len_g v1447 v1448 = some (laws_szMatrix_len_v v1447 v1448) := by
  unfold laws_szMatrix_len_g laws_szMatrix_len_T laws_szMatrix_len_v
  simp only [Tree.run]
  repeat' (first | rfl | split)
noncomputable def laws_szMatrix_len_F : DFn := fun args L =>
  match args with
  | [.agg [.int .i64 v1445, .int .i64 v1446, a1], .int .i64 v1448] =>
    optT (lenV L a1) fun v1447 =>
    .leaf (.int .i64 (laws_szMatrix_len_v v1447 v1448), L)
  | _ => .fail
theorem laws_szMatrix_len_Fok : COk Try.prog 29 laws_szMatrix_len_F true := by
  intro F L H args r L' hs ha hr
  unfold laws_szMatrix_len_F at hr
  split at hr
  · rename_i v1445 v1446 a1 v1448
    obtain ⟨v1447, hv1447, hr⟩ := optT_run hr
    have hy := laws_szMatrix_len_tot v1447 v1448
    generalize laws_szMatrix_len_v v1447 v1448 = y at hy hr
    simp only [Tree.run, Option.some.injEq, Prod.mk.injEq] at hr
    obtain ⟨rfl, rfl⟩ := hr
    exact call_ok0 hs (fun k => (([a1.av F] : List AV)[k]?).getD .top) [.agg [.int .i64 v1445, .int .i64 v1446, a1], .int .i64 v1448] [.agg [.int .i64 v1445, .int .i64 v1446, .hslc (BR.root 0) v1447], .int .i64 v1448] (fun F' h0 hi hρ => ⟨by simp [DVs.av, DV.av, BR.av, hρ], laws_szMatrix_len_fn v1445 v1446 v1447 v1448 F' (by rw [hi]; rfl) (st_nil hi) ⟨⟨trivial, trivial, hslc_ok hi (by rw [h0, hρ]; exact lenV_ok hs (DVs.okAt (DVs.okAt ha 0 rfl) 2 rfl) hv1447), trivial⟩, trivial, trivial⟩ hy⟩) rfl
  · cases hr
/-! laws.FnExactExpMatrix -/
noncomputable def laws_FnExactExpMatrix_len_LO (v1441 : Int) (v1442 : Int) (v1443 : Nat) (v1444 : Int) : LOr := fun id e L =>
  match id with
  | _ => .fail
noncomputable def laws_FnExactExpMatrix_len_tab : List (FuncId × DFn × Bool) := [(29, laws_szMatrix_len_F, true)]
theorem laws_FnExactExpMatrix_len_hO : OrcOk Try.prog (tabD laws_FnExactExpMatrix_len_tab) (tabM laws_FnExactExpMatrix_len_tab) := tabD_cons laws_szMatrix_len_Fok (tabD_nil _)
noncomputable def laws_FnExactExpMatrix_len_T (v1443 : Nat) : Tree (Bool) :=
  (.br (decide ((laws_szMatrix_len_v v1443 (1048576 : Int)) < (0 : Int))) (
   .leaf true
  ) (
   .fail
  ))

noncomputable def laws_FnExactExpMatrix_len_g (v1443 : Nat) : Option (Bool) := (laws_FnExactExpMatrix_len_T v1443).run
def laws_FnExactExpMatrix_len_enc (v1441 : Int) (v1442 : Int) (v1443 : Nat) (v1444 : Int) (y : Bool) : Rs := (.bool y, [])
theorem laws_FnExactExpMatrix_len_den (v1441 : Int) (v1442 : Int) (v1443 : Nat) (v1444 : Int) : (den TT (tabD laws_FnExactExpMatrix_len_tab) (tabM laws_FnExactExpMatrix_len_tab) (laws_FnExactExpMatrix_len_LO v1441 v1442 v1443 v1444) (codeOf Try.f6) ([.agg [.int .i64 v1441, .int .i64 v1442, .hslc (BR.root 0) v1443], .int .i64 v1444] ++ List.replicate (Try.f6.ntmps - ([.agg [.int .i64 v1441, .int .i64 v1442, .hslc (BR.root 0) v1443], .int .i64 v1444] : List DV).length) .undef) []).bind (retD TT Try.f6.results.toList 0) = (laws_FnExactExpMatrix_len_T v1443).bind fun y => .leaf (laws_FnExactExpMatrix_len_enc v1441 v1442 v1443 v1444 y) := by kernel_rfl
theorem laws_FnExactExpMatrix_len_fn (v1441 : Int) (v1442 : Int) (v1443 : Nat) (v1444 : Int) (F : Fr) (hm : F.ids.length = 0) (h0 : St F [] F.H0) (hA : DVs.Ok F [] [.agg [.int .i64 v1441, .int .i64 v1442, .hslc (BR.root 0) v1443], .int .i64 v1444]) {y : Bool} (hy : laws_FnExactExpMatrix_len_g v1443 = some y) : ∃ H', FnOk Try.prog 6 (DVs.av F [.agg [.int .i64 v1441, .int .i64 v1442, .hslc (BR.root 0) v1443], .int .i64 v1444]) F.H0 ((laws_FnExactExpMatrix_len_enc v1441 v1442 v1443 v1444 y).1.av F) H' ∧ St F (laws_FnExactExpMatrix_len_enc v1441 v1442 v1443 v1444 y).2 H' ∧ (laws_FnExactExpMatrix_len_enc v1441 v1442 v1443 v1444 y).1.Ok F (laws_FnExactExpMatrix_len_enc v1441 v1442 v1443 v1444 y).2 :=
  fn_fin tok laws_FnExactExpMatrix_len_hO mixed Try.func6 Try.call6 (by kernel_rfl) (LoopsOk_eq (l := []) (by kernel_rfl) trivial) (laws_FnExactExpMatrix_len_den v1441 v1442 v1443 v1444) hy hm h0 hA
noncomputable def laws_FnExactExpMatrix_len_F : DFn := fun args L =>
  match args with
  | [.agg [.int .i64 v1441, .int .i64 v1442, a1], .int .i64 v1444] =>
    optT (lenV L a1) fun v1443 =>
    .call (laws_FnExactExpMatrix_len_g v1443) fun y => .leaf (.bool y, L)
  | _ => .fail
theorem laws_FnExactExpMatrix_len_Fok : COk Try.prog 6 laws_FnExactExpMatrix_len_F true := by
  intro F L H args r L' hs ha hr
  unfold laws_FnExactExpMatrix_len_F at hr
  split at hr
  · rename_i v1441 v1442 a1 v1444
    obtain ⟨v1443, hv1443, hr⟩ := optT_run hr
    simp only [Tree.run] at hr
    obtain ⟨y, hy, hr⟩ := Option.bind_eq_some_iff.1 hr
    simp only [Tree.run, Option.some.injEq, Prod.mk.injEq] at hr
    obtain ⟨rfl, rfl⟩ := hr
    exact call_ok0 hs (fun k => (([a1.av F] : List AV)[k]?).getD .top) [.agg [.int .i64 v1441, .int .i64 v1442, a1], .int .i64 v1444] [.agg [.int .i64 v1441, .int .i64 v1442, .hslc (BR.root 0) v1443], .int .i64 v1444] (fun F' h0 hi hρ => ⟨by simp [DVs.av, DV.av, BR.av, hρ], laws_FnExactExpMatrix_len_fn v1441 v1442 v1443 v1444 F' (by rw [hi]; rfl) (st_nil hi) ⟨⟨trivial, trivial, hslc_ok hi (by rw [h0, hρ]; exact lenV_ok hs (DVs.okAt (DVs.okAt ha 0 rfl) 2 rfl) hv1443), trivial⟩, trivial, trivial⟩ hy⟩) rfl
  · cases hr
end Go.Proofs.Ytjadfgeemfdbmaa.AM
