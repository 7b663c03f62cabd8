/- Functions: what they come to. -/
import Derived.Test.YtooakheodgndaaaX0
set_option maxRecDepth 100000
set_option maxHeartbeats 4000000
set_option linter.unusedSimpArgs false
set_option linter.unusedVariables false
namespace Go.Proofs.Ytooakheodgndaaa.AM
open Go.Proofs
/-! impl.norm -/
noncomputable def impl_norm_LO (v350 : List Nat) : LOr := fun id e L =>
  match id with
  | _ => .fail
noncomputable def impl_norm_tab : List (FuncId × DFn × Bool) := [(82, impl_dot_F, true), (114, impl_RootNumber_F, true)]
theorem impl_norm_hO : OrcOk Try.prog (tabD impl_norm_tab) (tabM impl_norm_tab) := tabD_cons impl_dot_Fok (tabD_cons impl_RootNumber_Fok (tabD_nil _))
noncomputable def impl_norm_T (v350 : List Nat) : Tree (Nat) :=
  (.call (impl_dot_g v350 v350) fun v362 =>
  (.call (impl_RootNumber_g v362) fun v365 =>
  .leaf v365))

noncomputable def impl_norm_g (v350 : List Nat) : Option (Nat) := (impl_norm_T v350).run
def impl_norm_enc (v350 : List Nat) (y : Nat) : Rs := (.flt .f32 y, [])
theorem impl_norm_den (v350 : List Nat) : (den TT (tabD impl_norm_tab) (tabM impl_norm_tab) (impl_norm_LO v350) (codeOf Try.f118) ([.bslc (BR.root 0) (.f32 v350)] ++ List.replicate (Try.f118.ntmps - ([.bslc (BR.root 0) (.f32 v350)] : List DV).length) .undef) []).bind (retD TT Try.f118.results.toList 0) = (impl_norm_T v350).bind fun y => .leaf (impl_norm_enc v350 y) := by kernel_rfl
theorem impl_norm_fn (v350 : List Nat) (F : Fr) (hm : F.ids.length = 0) (h0 : St F [] F.H0) (hA : DVs.Ok F [] [.bslc (BR.root 0) (.f32 v350)]) {y : Nat} (hy : impl_norm_g v350 = some y) : ∃ H', FnOk Try.prog 118 (DVs.av F [.bslc (BR.root 0) (.f32 v350)]) F.H0 ((impl_norm_enc v350 y).1.av F) H' ∧ St F (impl_norm_enc v350 y).2 H' ∧ (impl_norm_enc v350 y).1.Ok F (impl_norm_enc v350 y).2 :=
  fn_fin tok impl_norm_hO mixed Try.func118 Try.call118 (by kernel_rfl) (LoopsOk_eq (l := []) (by kernel_rfl) trivial) (impl_norm_den v350) hy hm h0 hA
noncomputable def impl_norm_F : DFn := fun args L =>
  match args with
  | [a1] =>
    optT (rowF32 L a1) fun v350 =>
    .call (impl_norm_g v350) fun y => .leaf (.flt .f32 y, L)
  | _ => .fail
theorem impl_norm_Fok : COk Try.prog 118 impl_norm_F true := by
  intro F L H args r L' hs ha hr
  unfold impl_norm_F at hr
  split at hr
  · rename_i a1
    obtain ⟨v350, hv350, hr⟩ := optT_run hr
    simp only [Tree.run] at hr
    obtain ⟨y, hy, hr⟩ := Option.bind_eq_some_iff.1 hr
    simp only [Tree.run, Option.some.injEq, Prod.mk.injEq] at hr
    obtain ⟨rfl, rfl⟩ := hr
    exact call_ok0 hs (fun k => (([a1.av F] : List AV)[k]?).getD .top) [a1] [.bslc (BR.root 0) (.f32 v350)] (fun F' h0 hi hρ => ⟨by simp [DVs.av, DV.av, BR.av, hρ], impl_norm_fn v350 F' (by rw [hi]; rfl) (st_nil hi) ⟨bslc_ok hi (by rw [h0, hρ]; exact rowF32_ok hs (DVs.okAt ha 0 rfl) hv350), trivial⟩ hy⟩) rfl
  · cases hr
/-! impl.finite -/
noncomputable def impl_finite_LO (v367 : Nat) : LOr := fun id e L =>
  match id with
  | _ => .fail
noncomputable def impl_finite_tab : List (FuncId × DFn × Bool) := [(96, impl_IsFinite_F, true)]
theorem impl_finite_hO : OrcOk Try.prog (tabD impl_finite_tab) (tabM impl_finite_tab) := tabD_cons impl_IsFinite_Fok (tabD_nil _)
noncomputable def impl_finite_T (v367 : Nat) : Tree ((Unit) ⊕ (Nat)) :=
  (.br (!(impl_IsFinite_v v367)) (
   .leaf (.inl ())
  ) (
   .leaf (.inr v367)
  ))

noncomputable def impl_finite_g (v367 : Nat) : Option ((Unit) ⊕ (Nat)) := (impl_finite_T v367).run
def impl_finite_enc (v367 : Nat) (y : (Unit) ⊕ (Nat)) : Rs := (match y with | .inl y => (.tup [.flt .f32 (0 : Nat), .lit false], []) | .inr y => (.tup [.flt .f32 y, .lit true], []))
theorem impl_finite_den (v367 : Nat) : (den TT (tabD impl_finite_tab) (tabM impl_finite_tab) (impl_finite_LO v367) (codeOf Try.f162) ([.flt .f32 v367] ++ List.replicate (Try.f162.ntmps - ([.flt .f32 v367] : List DV).length) .undef) []).bind (retD TT Try.f162.results.toList 0) = (impl_finite_T v367).bind fun y => .leaf (impl_finite_enc v367 y) := by kernel_rfl
theorem impl_finite_fn (v367 : Nat) (F : Fr) (hm : F.ids.length = 0) (h0 : St F [] F.H0) (hA : DVs.Ok F [] [.flt .f32 v367]) {y : (Unit) ⊕ (Nat)} (hy : impl_finite_g v367 = some y) : ∃ H', FnOk Try.prog 162 (DVs.av F [.flt .f32 v367]) F.H0 ((impl_finite_enc v367 y).1.av F) H' ∧ St F (impl_finite_enc v367 y).2 H' ∧ (impl_finite_enc v367 y).1.Ok F (impl_finite_enc v367 y).2 :=
  fn_fin tok impl_finite_hO mixed Try.func162 Try.call162 (by kernel_rfl) (LoopsOk_eq (l := []) (by kernel_rfl) trivial) (impl_finite_den v367) hy hm h0 hA
def impl_finite_v (v367 : Nat) : (Unit) ⊕ (Nat) :=
  if (!(impl_IsFinite_v v367)) = true then (
   .inl ()
  ) else (
   .inr v367
  )
theorem impl_finite_tot (v367 : Nat) : impl_finite_g v367 = some (impl_finite_v v367) := by
  unfold impl_finite_g impl_finite_T impl_finite_v
  simp only [Tree.run]
  repeat' (first | rfl | split)
noncomputable def impl_finite_F : DFn := fun args L =>
  match args with
  | [.flt .f32 v367] =>
    .sum (impl_finite_v v367) (fun y0 => .leaf (.tup [.flt .f32 (0 : Nat), .lit false], L)) (fun z0 => .leaf (.tup [.flt .f32 z0, .lit true], L))
  | _ => .fail
theorem impl_finite_Fok : COk Try.prog 162 impl_finite_F true := by
  intro F L H args r L' hs ha hr
  unfold impl_finite_F at hr
  split at hr
  · rename_i v367
    have hy := impl_finite_tot v367
    generalize impl_finite_v v367 = y at hy hr
    cases y with
    | inl y =>
      simp only [Tree.run, Option.some.injEq, Prod.mk.injEq] at hr
      obtain ⟨rfl, rfl⟩ := hr
      exact call_ok0 hs (fun k => (([] : List AV)[k]?).getD .top) [.flt .f32 v367] [.flt .f32 v367] (fun F' h0 hi hρ => ⟨by simp [DVs.av, DV.av, BR.av, hρ], impl_finite_fn v367 F' (by rw [hi]; rfl) (st_nil hi) ⟨trivial, trivial⟩ hy⟩) rfl
    | inr y =>
      simp only [Tree.run, Option.some.injEq, Prod.mk.injEq] at hr
      obtain ⟨rfl, rfl⟩ := hr
      exact call_ok0 hs (fun k => (([] : List AV)[k]?).getD .top) [.flt .f32 v367] [.flt .f32 v367] (fun F' h0 hi hρ => ⟨by simp [DVs.av, DV.av, BR.av, hρ], impl_finite_fn v367 F' (by rw [hi]; rfl) (st_nil hi) ⟨trivial, trivial⟩ hy⟩) rfl
  · cases hr
/-! impl.WholeNorm -/
noncomputable def impl_WholeNorm_LO (v346 : Int) (v347 : Int) (v348 : List Nat) : LOr := fun id e L =>
  match id with
  | _ => .fail
noncomputable def impl_WholeNorm_tab : List (FuncId × DFn × Bool) := [(67, impl_ValidMatrix_F, true), (118, impl_norm_F, true), (162, impl_finite_F, true)]
theorem impl_WholeNorm_hO : OrcOk Try.prog (tabD impl_WholeNorm_tab) (tabM impl_WholeNorm_tab) := tabD_cons impl_ValidMatrix_Fok (tabD_cons impl_norm_Fok (tabD_cons impl_finite_Fok (tabD_nil _)))
noncomputable def impl_WholeNorm_T (v346 : Int) (v347 : Int) (v348 : List Nat) : Tree ((Unit) ⊕ (Nat)) :=
  (.call (impl_ValidMatrix_g v346 v347 v348) fun v349 =>
  (.br (!v349) (
   .leaf (.inl ())
  ) (
   (.call (impl_norm_g v348) fun v366 =>
   (.sum (impl_finite_v v366) (fun v368 =>
    .leaf (.inl ())
   ) (fun v369 =>
    .leaf (.inr v369)
   )))
  )))

noncomputable def impl_WholeNorm_g (v346 : Int) (v347 : Int) (v348 : List Nat) : Option ((Unit) ⊕ (Nat)) := (impl_WholeNorm_T v346 v347 v348).run
def impl_WholeNorm_enc (v346 : Int) (v347 : Int) (v348 : List Nat) (y : (Unit) ⊕ (Nat)) : Rs := (match y with | .inl y => (.tup [.flt .f32 (0 : Nat), .lit false], []) | .inr y => (.tup [.flt .f32 y, .lit true], []))
theorem impl_WholeNorm_den (v346 : Int) (v347 : Int) (v348 : List Nat) : (den TT (tabD impl_WholeNorm_tab) (tabM impl_WholeNorm_tab) (impl_WholeNorm_LO v346 v347 v348) (codeOf Try.f126) ([.agg [.int .i64 v346, .int .i64 v347, .bslc (BR.root 0) (.f32 v348)]] ++ List.replicate (Try.f126.ntmps - ([.agg [.int .i64 v346, .int .i64 v347, .bslc (BR.root 0) (.f32 v348)]] : List DV).length) .undef) []).bind (retD TT Try.f126.results.toList 0) = (impl_WholeNorm_T v346 v347 v348).bind fun y => .leaf (impl_WholeNorm_enc v346 v347 v348 y) := by kernel_rfl
theorem impl_WholeNorm_fn (v346 : Int) (v347 : Int) (v348 : List Nat) (F : Fr) (hm : F.ids.length = 0) (h0 : St F [] F.H0) (hA : DVs.Ok F [] [.agg [.int .i64 v346, .int .i64 v347, .bslc (BR.root 0) (.f32 v348)]]) {y : (Unit) ⊕ (Nat)} (hy : impl_WholeNorm_g v346 v347 v348 = some y) : ∃ H', FnOk Try.prog 126 (DVs.av F [.agg [.int .i64 v346, .int .i64 v347, .bslc (BR.root 0) (.f32 v348)]]) F.H0 ((impl_WholeNorm_enc v346 v347 v348 y).1.av F) H' ∧ St F (impl_WholeNorm_enc v346 v347 v348 y).2 H' ∧ (impl_WholeNorm_enc v346 v347 v348 y).1.Ok F (impl_WholeNorm_enc v346 v347 v348 y).2 :=
  fn_fin tok impl_WholeNorm_hO mixed Try.func126 Try.call126 (by kernel_rfl) (LoopsOk_eq (l := []) (by kernel_rfl) trivial) (impl_WholeNorm_den v346 v347 v348) hy hm h0 hA
noncomputable def impl_WholeNorm_F : DFn := fun args L =>
  match args with
  | [.agg [.int .i64 v346, .int .i64 v347, a1]] =>
    optT (rowF32 L a1) fun v348 =>
    .call (impl_WholeNorm_g v346 v347 v348) fun y => .sum y (fun y0 => .leaf (.tup [.flt .f32 (0 : Nat), .lit false], L)) (fun z0 => .leaf (.tup [.flt .f32 z0, .lit true], L))
  | _ => .fail
theorem impl_WholeNorm_Fok : COk Try.prog 126 impl_WholeNorm_F true := by
  intro F L H args r L' hs ha hr
  unfold impl_WholeNorm_F at hr
  split at hr
  · rename_i v346 v347 a1
    obtain ⟨v348, hv348, hr⟩ := optT_run hr
    simp only [Tree.run] at hr
    obtain ⟨y, hy, hr⟩ := Option.bind_eq_some_iff.1 hr
    cases y with
    | inl y =>
      simp only [Tree.run, Option.some.injEq, Prod.mk.injEq] at hr
      obtain ⟨rfl, rfl⟩ := hr
      exact call_ok0 hs (fun k => (([a1.av F] : List AV)[k]?).getD .top) [.agg [.int .i64 v346, .int .i64 v347, a1]] [.agg [.int .i64 v346, .int .i64 v347, .bslc (BR.root 0) (.f32 v348)]] (fun F' h0 hi hρ => ⟨by simp [DVs.av, DV.av, BR.av, hρ], impl_WholeNorm_fn v346 v347 v348 F' (by rw [hi]; rfl) (st_nil hi) ⟨⟨trivial, trivial, bslc_ok hi (by rw [h0, hρ]; exact rowF32_ok hs (DVs.okAt (DVs.okAt ha 0 rfl) 2 rfl) hv348), trivial⟩, trivial⟩ hy⟩) rfl
    | inr y =>
      simp only [Tree.run, Option.some.injEq, Prod.mk.injEq] at hr
      obtain ⟨rfl, rfl⟩ := hr
      exact call_ok0 hs (fun k => (([a1.av F] : List AV)[k]?).getD .top) [.agg [.int .i64 v346, .int .i64 v347, a1]] [.agg [.int .i64 v346, .int .i64 v347, .bslc (BR.root 0) (.f32 v348)]] (fun F' h0 hi hρ => ⟨by simp [DVs.av, DV.av, BR.av, hρ], impl_WholeNorm_fn v346 v347 v348 F' (by rw [hi]; rfl) (st_nil hi) ⟨⟨trivial, trivial, bslc_ok hi (by rw [h0, hρ]; exact rowF32_ok hs (DVs.okAt (DVs.okAt ha 0 rfl) 2 rfl) hv348), trivial⟩, trivial⟩ hy⟩) rfl
  · cases hr
/-! impl.newMatrix -/
noncomputable def impl_newMatrix_LO (v379 : Int) (v380 : Int) : LOr := fun id e L =>
  match id with
  | _ => .fail
noncomputable def impl_newMatrix_tab : List (FuncId × DFn × Bool) := []
theorem impl_newMatrix_hO : OrcOk Try.prog (tabD impl_newMatrix_tab) (tabM impl_newMatrix_tab) := tabD_nil _
noncomputable def impl_newMatrix_T (v379 : Int) (v380 : Int) : Tree (Int × Int) :=
  (.need (IntKind.i64.wrap (v379 * v380) = IntKind.i64.wrap (v379 * v380)) <|
  (.grd (inb (IntKind.i64.wrap (v379 * v380)) (maxN + 1)) <|
  .leaf (v379, v380)))

noncomputable def impl_newMatrix_g (v379 : Int) (v380 : Int) : Option (Int × Int) := (impl_newMatrix_T v379 v380).run
def impl_newMatrix_enc (v379 : Int) (v380 : Int) (y : Int × Int) : Rs := (.agg [.int .i64 y.1, .int .i64 y.2, .own 0 0 ((List.replicate (Int.toNat (IntKind.i64.wrap (v379 * v380))) (0 : Nat)).length)], [.row (.f32 (List.replicate (Int.toNat (IntKind.i64.wrap (v379 * v380))) (0 : Nat))) 0])
theorem impl_newMatrix_den (v379 : Int) (v380 : Int) : (den TT (tabD impl_newMatrix_tab) (tabM impl_newMatrix_tab) (impl_newMatrix_LO v379 v380) (codeOf Try.f117) ([.int .i64 v379, .int .i64 v380] ++ List.replicate (Try.f117.ntmps - ([.int .i64 v379, .int .i64 v380] : List DV).length) .undef) []).bind (retD TT Try.f117.results.toList 0) = (impl_newMatrix_T v379 v380).bind fun y => .leaf (impl_newMatrix_enc v379 v380 y) := by kernel_rfl
theorem impl_newMatrix_fn (v379 : Int) (v380 : Int) (F : Fr) (hm : F.ids.length = 0) (h0 : St F [] F.H0) (hA : DVs.Ok F [] [.int .i64 v379, .int .i64 v380]) {y : Int × Int} (hy : impl_newMatrix_g v379 v380 = some y) : ∃ H', FnOk Try.prog 117 (DVs.av F [.int .i64 v379, .int .i64 v380]) F.H0 ((impl_newMatrix_enc v379 v380 y).1.av F) H' ∧ St F (impl_newMatrix_enc v379 v380 y).2 H' ∧ (impl_newMatrix_enc v379 v380 y).1.Ok F (impl_newMatrix_enc v379 v380 y).2 :=
  fn_fin tok impl_newMatrix_hO mixed Try.func117 Try.call117 (by kernel_rfl) (LoopsOk_eq (l := []) (by kernel_rfl) trivial) (impl_newMatrix_den v379 v380) hy hm h0 hA
noncomputable def impl_newMatrix_F : DFn := fun args L =>
  match args with
  | [.int .i64 v379, .int .i64 v380] =>
    .call (impl_newMatrix_g v379 v380) fun y => .leaf (.agg [.int .i64 y.1, .int .i64 y.2, .own (L.length + 0) 0 ((List.replicate (Int.toNat (IntKind.i64.wrap (v379 * v380))) (0 : Nat)).length)], L ++ [.row (.f32 (List.replicate (Int.toNat (IntKind.i64.wrap (v379 * v380))) (0 : Nat))) 0])
  | _ => .fail
theorem impl_newMatrix_Fok : COk Try.prog 117 impl_newMatrix_F true := by
  intro F L H args r L' hs ha hr
  unfold impl_newMatrix_F at hr
  split at hr
  · rename_i v379 v380
    simp only [Tree.run] at hr
    obtain ⟨y, hy, hr⟩ := Option.bind_eq_some_iff.1 hr
    simp only [Tree.run, Option.some.injEq, Prod.mk.injEq] at hr
    obtain ⟨rfl, rfl⟩ := hr
    exact call_ok1 hs (fun k => (([] : List AV)[k]?).getD .top) [.int .i64 v379, .int .i64 v380] [.int .i64 v379, .int .i64 v380] (fun F' h0 hi hρ => ⟨by simp [DVs.av, DV.av, BR.av, hρ], impl_newMatrix_fn v379 v380 F' (by rw [hi]; rfl) (st_nil hi) ⟨trivial, trivial, trivial⟩ hy⟩) rfl rfl
  · cases hr
/-! (impl.Matrix).at -/
noncomputable def impl_Matrix_at_LO (v395 : Int) (v396 : Int) (v397 : List Nat) (v398 : Int) (v399 : Int) : LOr := fun id e L =>
  match id with
  | _ => .fail
noncomputable def impl_Matrix_at_tab : List (FuncId × DFn × Bool) := []
theorem impl_Matrix_at_hO : OrcOk Try.prog (tabD impl_Matrix_at_tab) (tabM impl_Matrix_at_tab) := tabD_nil _
noncomputable def impl_Matrix_at_T (v396 : Int) (v397 : List Nat) (v398 : Int) (v399 : Int) : Tree (Nat) :=
  (.grd (inb (IntKind.i64.wrap ((IntKind.i64.wrap (v398 * v396)) + v399)) v397.length) <|
  .leaf (nth v397 (Int.toNat (IntKind.i64.wrap ((IntKind.i64.wrap (v398 * v396)) + v399)))))

noncomputable def impl_Matrix_at_g (v396 : Int) (v397 : List Nat) (v398 : Int) (v399 : Int) : Option (Nat) := (impl_Matrix_at_T v396 v397 v398 v399).run
def impl_Matrix_at_enc (v395 : Int) (v396 : Int) (v397 : List Nat) (v398 : Int) (v399 : Int) (y : Nat) : Rs := (.flt .f32 y, [])
theorem impl_Matrix_at_den (v395 : Int) (v396 : Int) (v397 : List Nat) (v398 : Int) (v399 : Int) : (den TT (tabD impl_Matrix_at_tab) (tabM impl_Matrix_at_tab) (impl_Matrix_at_LO v395 v396 v397 v398 v399) (codeOf Try.f64) ([.agg [.int .i64 v395, .int .i64 v396, .bslc (BR.root 0) (.f32 v397)], .int .i64 v398, .int .i64 v399] ++ List.replicate (Try.f64.ntmps - ([.agg [.int .i64 v395, .int .i64 v396, .bslc (BR.root 0) (.f32 v397)], .int .i64 v398, .int .i64 v399] : List DV).length) .undef) []).bind (retD TT Try.f64.results.toList 0) = (impl_Matrix_at_T v396 v397 v398 v399).bind fun y => .leaf (impl_Matrix_at_enc v395 v396 v397 v398 v399 y) := by kernel_rfl
theorem impl_Matrix_at_fn (v395 : Int) (v396 : Int) (v397 : List Nat) (v398 : Int) (v399 : Int) (F : Fr) (hm : F.ids.length = 0) (h0 : St F [] F.H0) (hA : DVs.Ok F [] [.agg [.int .i64 v395, .int .i64 v396, .bslc (BR.root 0) (.f32 v397)], .int .i64 v398, .int .i64 v399]) {y : Nat} (hy : impl_Matrix_at_g v396 v397 v398 v399 = some y) : ∃ H', FnOk Try.prog 64 (DVs.av F [.agg [.int .i64 v395, .int .i64 v396, .bslc (BR.root 0) (.f32 v397)], .int .i64 v398, .int .i64 v399]) F.H0 ((impl_Matrix_at_enc v395 v396 v397 v398 v399 y).1.av F) H' ∧ St F (impl_Matrix_at_enc v395 v396 v397 v398 v399 y).2 H' ∧ (impl_Matrix_at_enc v395 v396 v397 v398 v399 y).1.Ok F (impl_Matrix_at_enc v395 v396 v397 v398 v399 y).2 :=
  fn_fin tok impl_Matrix_at_hO mixed Try.func64 Try.call64 (by kernel_rfl) (LoopsOk_eq (l := []) (by kernel_rfl) trivial) (impl_Matrix_at_den v395 v396 v397 v398 v399) hy hm h0 hA
noncomputable def impl_Matrix_at_F : DFn := fun args L =>
  match args with
  | [.agg [.int .i64 v395, .int .i64 v396, a1], .int .i64 v398, .int .i64 v399] =>
    optT (rowF32 L a1) fun v397 =>
    .call (impl_Matrix_at_g v396 v397 v398 v399) fun y => .leaf (.flt .f32 y, L)
  | _ => .fail
theorem impl_Matrix_at_Fok : COk Try.prog 64 impl_Matrix_at_F true := by
  intro F L H args r L' hs ha hr
  unfold impl_Matrix_at_F at hr
  split at hr
  · rename_i v395 v396 a1 v398 v399
    obtain ⟨v397, hv397, hr⟩ := optT_run hr
    simp only [Tree.run] at hr
    obtain ⟨y, hy, hr⟩ := Option.bind_eq_some_iff.1 hr
    simp only [Tree.run, Option.some.injEq, Prod.mk.injEq] at hr
    obtain ⟨rfl, rfl⟩ := hr
    exact call_ok0 hs (fun k => (([a1.av F] : List AV)[k]?).getD .top) [.agg [.int .i64 v395, .int .i64 v396, a1], .int .i64 v398, .int .i64 v399] [.agg [.int .i64 v395, .int .i64 v396, .bslc (BR.root 0) (.f32 v397)], .int .i64 v398, .int .i64 v399] (fun F' h0 hi hρ => ⟨by simp [DVs.av, DV.av, BR.av, hρ], impl_Matrix_at_fn v395 v396 v397 v398 v399 F' (by rw [hi]; rfl) (st_nil hi) ⟨⟨trivial, trivial, bslc_ok hi (by rw [h0, hρ]; exact rowF32_ok hs (DVs.okAt (DVs.okAt ha 0 rfl) 2 rfl) hv397), trivial⟩, trivial, trivial, trivial⟩ hy⟩) rfl
  · cases hr
/-! impl.PolarPart$1 -/
noncomputable def impl_PolarPart_1_LO (v389 : Int) (v390 : Int) (v391 : Int) (v392 : Int) (v393 : List Nat) (v394 : Nat) : LOr := fun id e L =>
  match id with
  | _ => .fail
noncomputable def impl_PolarPart_1_tab : List (FuncId × DFn × Bool) := [(64, impl_Matrix_at_F, true)]
theorem impl_PolarPart_1_hO : OrcOk Try.prog (tabD impl_PolarPart_1_tab) (tabM impl_PolarPart_1_tab) := tabD_cons impl_Matrix_at_Fok (tabD_nil _)
noncomputable def impl_PolarPart_1_T (v389 : Int) (v390 : Int) (v392 : Int) (v393 : List Nat) (v394 : Nat) : Tree (Nat) :=
  (.call (impl_Matrix_at_g v392 v393 v389 v390) fun v400 =>
  .leaf (fdiv .f32 v400 v394))

noncomputable def impl_PolarPart_1_g (v389 : Int) (v390 : Int) (v392 : Int) (v393 : List Nat) (v394 : Nat) : Option (Nat) := (impl_PolarPart_1_T v389 v390 v392 v393 v394).run
def impl_PolarPart_1_enc (v389 : Int) (v390 : Int) (v391 : Int) (v392 : Int) (v393 : List Nat) (v394 : Nat) (y : Nat) : Rs := (.flt .f32 y, [])
theorem impl_PolarPart_1_den (v389 : Int) (v390 : Int) (v391 : Int) (v392 : Int) (v393 : List Nat) (v394 : Nat) : (den TT (tabD impl_PolarPart_1_tab) (tabM impl_PolarPart_1_tab) (impl_PolarPart_1_LO v389 v390 v391 v392 v393 v394) (codeOf Try.f127) ([.int .i64 v389, .int .i64 v390, .bptr (BR.root 0) [.int .i64 v391, .int .i64 v392, .bslc (BR.root 1) (.f32 v393)], .bptr (BR.root 2) [.flt .f32 v394]] ++ List.replicate (Try.f127.ntmps - ([.int .i64 v389, .int .i64 v390, .bptr (BR.root 0) [.int .i64 v391, .int .i64 v392, .bslc (BR.root 1) (.f32 v393)], .bptr (BR.root 2) [.flt .f32 v394]] : List DV).length) .undef) []).bind (retD TT Try.f127.results.toList 0) = (impl_PolarPart_1_T v389 v390 v392 v393 v394).bind fun y => .leaf (impl_PolarPart_1_enc v389 v390 v391 v392 v393 v394 y) := by kernel_rfl
theorem impl_PolarPart_1_fn (v389 : Int) (v390 : Int) (v391 : Int) (v392 : Int) (v393 : List Nat) (v394 : Nat) (F : Fr) (hm : F.ids.length = 0) (h0 : St F [] F.H0) (hA : DVs.Ok F [] [.int .i64 v389, .int .i64 v390, .bptr (BR.root 0) [.int .i64 v391, .int .i64 v392, .bslc (BR.root 1) (.f32 v393)], .bptr (BR.root 2) [.flt .f32 v394]]) {y : Nat} (hy : impl_PolarPart_1_g v389 v390 v392 v393 v394 = some y) : ∃ H', FnOk Try.prog 127 (DVs.av F [.int .i64 v389, .int .i64 v390, .bptr (BR.root 0) [.int .i64 v391, .int .i64 v392, .bslc (BR.root 1) (.f32 v393)], .bptr (BR.root 2) [.flt .f32 v394]]) F.H0 ((impl_PolarPart_1_enc v389 v390 v391 v392 v393 v394 y).1.av F) H' ∧ St F (impl_PolarPart_1_enc v389 v390 v391 v392 v393 v394 y).2 H' ∧ (impl_PolarPart_1_enc v389 v390 v391 v392 v393 v394 y).1.Ok F (impl_PolarPart_1_enc v389 v390 v391 v392 v393 v394 y).2 :=
  fn_fin tok impl_PolarPart_1_hO mixed Try.func127 Try.call127 (by kernel_rfl) (LoopsOk_eq (l := []) (by kernel_rfl) trivial) (impl_PolarPart_1_den v389 v390 v391 v392 v393 v394) hy hm h0 hA
noncomputable def impl_PolarPart_1_F : DFn := fun args L =>
  match args with
  | [.int .i64 v389, .int .i64 v390, a1, a3] =>
    optT (cellsOf L 3 a1) fun cs0 =>
    (match cs0 with
    | [.int .i64 v391, .int .i64 v392, a2] =>
    optT (rowF32 L a2) fun v393 =>
    optT (cellsOf L 1 a3) fun cs2 =>
    (match cs2 with
    | [.flt .f32 v394] =>
    .call (impl_PolarPart_1_g v389 v390 v392 v393 v394) fun y => .leaf (.flt .f32 y, L)
    | _ => .fail)
    | _ => .fail)
  | _ => .fail
theorem impl_PolarPart_1_Fok : COk Try.prog 127 impl_PolarPart_1_F true := by
  intro F L H args r L' hs ha hr
  unfold impl_PolarPart_1_F at hr
  split at hr
  · rename_i v389 v390 a1 a3
    obtain ⟨cs0, hcp0, hr⟩ := optT_run hr
    split at hr
    · rename_i v391 v392 a2
      obtain ⟨v393, hv393, hr⟩ := optT_run hr
      obtain ⟨cs2, hcp2, hr⟩ := optT_run hr
      split at hr
      · rename_i v394
        simp only [Tree.run] at hr
        obtain ⟨y, hy, hr⟩ := Option.bind_eq_some_iff.1 hr
        simp only [Tree.run, Option.some.injEq, Prod.mk.injEq] at hr
        obtain ⟨rfl, rfl⟩ := hr
        exact call_ok0 hs (fun k => (([a1.av F, a2.av F, a3.av F] : List AV)[k]?).getD .top) [.int .i64 v389, .int .i64 v390, a1, a3] [.int .i64 v389, .int .i64 v390, .bptr (BR.root 0) [.int .i64 v391, .int .i64 v392, .bslc (BR.root 1) (.f32 v393)], .bptr (BR.root 2) [.flt .f32 v394]] (fun F' h0 hi hρ => ⟨by simp [DVs.av, DV.av, BR.av, hρ], impl_PolarPart_1_fn v389 v390 v391 v392 v393 v394 F' (by rw [hi]; rfl) (st_nil hi) ⟨trivial, trivial, bptr_ok hi (by rw [h0]; simpa [DVs.av, DV.av, BR.av, hρ] using (cellsOf_ok hs (DVs.okAt ha 2 rfl) hcp0).1) ⟨trivial, trivial, bslc_ok hi (by rw [h0, hρ]; exact rowF32_ok hs (DVs.okAt (cellsOf_ok hs (DVs.okAt ha 2 rfl) hcp0).2 2 rfl) hv393), trivial⟩, bptr_ok hi (by rw [h0]; simpa [DVs.av, DV.av, BR.av, hρ] using (cellsOf_ok hs (DVs.okAt ha 3 rfl) hcp2).1) ⟨trivial, trivial⟩, trivial⟩ hy⟩) rfl
      · cases hr
    · cases hr
  · cases hr
/-! (impl.Matrix).set -/
noncomputable def impl_Matrix_set_LO (v408 : Int) (v409 : Int) (v410 : List Nat) (v411 : Int) (v412 : Int) (v413 : Nat) : LOr := fun id e L =>
  match id with
  | _ => .fail
noncomputable def impl_Matrix_set_tab : List (FuncId × DFn × Bool) := []
theorem impl_Matrix_set_hO : OrcOk Try.prog (tabD impl_Matrix_set_tab) (tabM impl_Matrix_set_tab) := tabD_nil _
noncomputable def impl_Matrix_set_T (v409 : Int) (v410 : List Nat) (v411 : Int) (v412 : Int) : Tree (Unit) :=
  (.grd (inb (IntKind.i64.wrap ((IntKind.i64.wrap (v411 * v409)) + v412)) v410.length) <|
  .leaf ())

noncomputable def impl_Matrix_set_g (v409 : Int) (v410 : List Nat) (v411 : Int) (v412 : Int) : Option (Unit) := (impl_Matrix_set_T v409 v410 v411 v412).run
def impl_Matrix_set_enc (v408 : Int) (v409 : Int) (v410 : List Nat) (v411 : Int) (v412 : Int) (v413 : Nat) (y : Unit) : Rs := (.tup [], [.row (.f32 (List.set v410 (Int.toNat (IntKind.i64.wrap ((IntKind.i64.wrap (v411 * v409)) + v412))) v413)) 0])
theorem impl_Matrix_set_den (v408 : Int) (v409 : Int) (v410 : List Nat) (v411 : Int) (v412 : Int) (v413 : Nat) : (den TT (tabD impl_Matrix_set_tab) (tabM impl_Matrix_set_tab) (impl_Matrix_set_LO v408 v409 v410 v411 v412 v413) (codeOf Try.f66) ([.agg [.int .i64 v408, .int .i64 v409, .own 0 0 v410.length], .int .i64 v411, .int .i64 v412, .flt .f32 v413] ++ List.replicate (Try.f66.ntmps - ([.agg [.int .i64 v408, .int .i64 v409, .own 0 0 v410.length], .int .i64 v411, .int .i64 v412, .flt .f32 v413] : List DV).length) .undef) [.row (.f32 v410) 0]).bind (retD TT Try.f66.results.toList 1) = (impl_Matrix_set_T v409 v410 v411 v412).bind fun y => .leaf (impl_Matrix_set_enc v408 v409 v410 v411 v412 v413 y) := by kernel_rfl
theorem impl_Matrix_set_fn (v408 : Int) (v409 : Int) (v410 : List Nat) (v411 : Int) (v412 : Int) (v413 : Nat) (F : Fr) (hm : F.ids.length = 1) (h0 : St F [.row (.f32 v410) 0] F.H0) (hA : DVs.Ok F [.row (.f32 v410) 0] [.agg [.int .i64 v408, .int .i64 v409, .own 0 0 v410.length], .int .i64 v411, .int .i64 v412, .flt .f32 v413]) {y : Unit} (hy : impl_Matrix_set_g v409 v410 v411 v412 = some y) : ∃ H', FnOk Try.prog 66 (DVs.av F [.agg [.int .i64 v408, .int .i64 v409, .own 0 0 v410.length], .int .i64 v411, .int .i64 v412, .flt .f32 v413]) F.H0 ((impl_Matrix_set_enc v408 v409 v410 v411 v412 v413 y).1.av F) H' ∧ St F (impl_Matrix_set_enc v408 v409 v410 v411 v412 v413 y).2 H' ∧ (impl_Matrix_set_enc v408 v409 v410 v411 v412 v413 y).1.Ok F (impl_Matrix_set_enc v408 v409 v410 v411 v412 v413 y).2 :=
  fn_fin tok impl_Matrix_set_hO mixed Try.func66 Try.call66 (by kernel_rfl) (LoopsOk_eq (l := []) (by kernel_rfl) trivial) (impl_Matrix_set_den v408 v409 v410 v411 v412 v413) hy hm h0 hA
noncomputable def impl_Matrix_set_F : DFn := fun args L =>
  match args with
  | [.agg [.int .i64 v408, .int .i64 v409, a1], .int .i64 v411, .int .i64 v412, .flt .f32 v413] =>
    optT (ownF32 L a1) fun qv410 =>
    (match sepB [qv410.1] [] with
    | true =>
    .call (impl_Matrix_set_g v409 qv410.2 v411 v412) fun y => .grd (decide ((List.set qv410.2 (Int.toNat (IntKind.i64.wrap ((IntKind.i64.wrap (v411 * v409)) + v412))) v413).length = qv410.2.length)) (.leaf (.tup [], setRows L ([qv410.1].zip [.f32 (List.set qv410.2 (Int.toNat (IntKind.i64.wrap ((IntKind.i64.wrap (v411 * v409)) + v412))) v413)])))
    | false => .fail)
  | _ => .fail
theorem impl_Matrix_set_Fok : COk Try.prog 66 impl_Matrix_set_F false := by
  intro F L H args r L' hs ha hr
  unfold impl_Matrix_set_F at hr
  split at hr
  · rename_i v408 v409 a1 v411 v412 v413
    obtain ⟨⟨jv410, v410⟩, hqv410, hr⟩ := optT_run hr
    simp only at hr
    split at hr
    · rename_i hsep
      obtain ⟨hnd, hsepv⟩ := sepB_spec hsep
      simp only [Tree.run] at hr
      obtain ⟨y, hy, hr⟩ := Option.bind_eq_some_iff.1 hr
      try simp only [Tree.run] at hr
      obtain ⟨hl0, hr⟩ := ite_run hr
      simp only [Option.some.injEq, Prod.mk.injEq] at hr
      obtain ⟨rfl, rfl⟩ := hr
      obtain ⟨hr0, hu0, ha0, hb0⟩ := (ownR_spec (DVs.okAt (DVs.okAt ha 0 rfl) 2 rfl) (ownF32_or hqv410))
      exact mut_ok hs (fun k => (([a1.av F] : List AV)[k]?).getD .top) [.agg [.int .i64 v408, .int .i64 v409, a1], .int .i64 v411, .int .i64 v412, .flt .f32 v413] [.agg [.int .i64 v408, .int .i64 v409, .own 0 0 v410.length], .int .i64 v411, .int .i64 v412, .flt .f32 v413] [jv410] [.f32 v410] [.f32 (List.set v410 (Int.toNat (IntKind.i64.wrap ((IntKind.i64.wrap (v411 * v409)) + v412))) v413)] hnd rfl rfl (fun i j q h1 h2 => by
          rcases i with _ | i
          · simp at h1 h2; subst h1; subst h2; exact hr0
          · simp at h1) (fun i q q' h1 h2 => by
          rcases i with _ | i
          · simp at h1 h2; subst h1; subst h2; exact of_decide_eq_true hl0
          · simp at h1) (fun j hj => by simp at hj; subst hj; simp [DVs.refs, DV.refs, hu0]) (fun F' h0 hi hρ hst hS => ⟨by (have ab0 : F'.abs 0 = F.abs jv410 := (by simp [Fr.abs, hi]); simp [DVs.av, DV.av, BR.av, hρ, Row.len, ha0, ab0]), by
          obtain ⟨H1, k1, k2, _⟩ := impl_Matrix_set_fn v408 v409 v410 v411 v412 v413 F' (by rw [hi]; rfl) hst ⟨⟨trivial, trivial, ⟨_, rfl, Nat.le_refl _, Nat.le_refl _, fun _ => rfl, (ownR_spec (DVs.okAt (DVs.okAt ha 0 rfl) 2 rfl) (ownF32_or hqv410)).2.2.2⟩, trivial⟩, trivial, trivial, trivial, trivial⟩ hy
          exact ⟨H1, k1, k2⟩⟩) (fun F' => rfl) (fun L' => trivial)
    · cases hr
  · cases hr
/-! impl.made -/
noncomputable def impl_made_l2_T (v374 : Int) (v376 : Int) (v377 : List Nat) (v378 : Nat) (v474 : Int) (v476 : Int) (v477 : Int) (s : Int × (List Nat)) : Tree ((Int × (List Nat)) ⊕ ((List Nat))) :=
  (.br (decide (s.1 < v374)) (
   (.call (impl_PolarPart_1_g v474 s.1 v376 v377 v378) fun v479 =>
   (.call (impl_Matrix_set_g v477 s.2 v474 s.1) fun v480 =>
   (.grd (decide ((List.set s.2 (Int.toNat (IntKind.i64.wrap ((IntKind.i64.wrap (v474 * v477)) + s.1))) v479).length = s.2.length)) <|
   .leaf (.inl (IntKind.i64.wrap (s.1 + (1 : Int)), List.set s.2 (Int.toNat (IntKind.i64.wrap ((IntKind.i64.wrap (v474 * v477)) + s.1))) v479)))))
  ) (
   .leaf (.inr s.2)
  ))

noncomputable def impl_made_l2_g (v374 : Int) (v376 : Int) (v377 : List Nat) (v378 : Nat) (v474 : Int) (v476 : Int) (v477 : Int) (s0 : Int × (List Nat)) : Option ((List Nat)) := whileM (fun s => (impl_made_l2_T v374 v376 v377 v378 v474 v476 v477 s).run) s0
def impl_made_l2_E (v373 : Int) (v374 : Int) (v375 : Int) (v376 : Int) (v377 : List Nat) (v378 : Nat) (v474 : Int) (v476 : Int) (v477 : Int) (s : Int × (List Nat)) : Sd := ([.top, .int .i64 v374, .fn 127 [.bptr (BR.root 0) [.int .i64 v375, .int .i64 v376, .bslc (BR.root 1) (.f32 v377)], .bptr (BR.root 2) [.flt .f32 v378]], .top, .top, .top, .ptr 0 (0 : Nat) 0 (3 : Nat), .ptr 1 (0 : Nat) 0 (3 : Nat), .int .i64 v474, .top, .top, .top, .top, .int .i64 v373, .int .i64 v474, .top, .top, .int .i64 v374, .int .i64 s.1, .top, .top, .top, .top, .top, .top, .top, .top, .top, .top, .top, .top, .top], [.gen [.int .i64 (0 : Int), .int .i64 (0 : Int), .nilslc] false 0, .gen [.int .i64 v476, .int .i64 v477, .own 2 0 ((s.2).length)] false 0, .row (.f32 s.2) 0])
def impl_made_l2_X (v373 : Int) (v374 : Int) (v375 : Int) (v376 : Int) (v377 : List Nat) (v378 : Nat) (v474 : Int) (v476 : Int) (v477 : Int) (x : (List Nat)) : Out := (.normal, [.top, .int .i64 v374, .fn 127 [.bptr (BR.root 0) [.int .i64 v375, .int .i64 v376, .bslc (BR.root 1) (.f32 v377)], .bptr (BR.root 2) [.flt .f32 v378]], .top, .top, .top, .ptr 0 (0 : Nat) 0 (3 : Nat), .ptr 1 (0 : Nat) 0 (3 : Nat), .top, .top, .top, .top, .top, .int .i64 v373, .int .i64 v474, .top, .top, .top, .top, .top, .top, .top, .top, .top, .top, .top, .top, .top, .top, .top, .top, .top], [.gen [.int .i64 (0 : Int), .int .i64 (0 : Int), .nilslc] false 0, .gen [.int .i64 v476, .int .i64 v477, .own 2 0 ((x).length)] false 0, .row (.f32 x) 0])
def impl_made_l2_kill : List Nat := [1, 0, 0, 1, 1, 1, 0, 0, 0, 1, 1, 1, 1, 0, 0, 1, 1, 0, 0, 1, 1, 1, 1, 1, 1, 1, 1, 1, 1, 1, 1, 1]
def impl_made_l2_nx : Exit → List Nat
  | .exit 0 => [1, 1, 1, 1, 1, 1, 0, 0, 1, 1, 1, 1, 1, 1, 1, 1, 1, 1, 1, 1, 1, 1, 1, 1, 1, 1, 1, 1, 1, 1, 1, 1]
  | .exit 1 => [1, 0, 0, 1, 1, 1, 0, 0, 1, 1, 1, 1, 1, 0, 0, 1, 1, 1, 1, 1, 1, 1, 1, 1, 1, 1, 1, 1, 1, 1, 1, 1]
  | .exit 2 => [1, 0, 0, 1, 1, 1, 0, 0, 1, 1, 1, 1, 1, 0, 0, 1, 1, 1, 1, 1, 1, 1, 1, 1, 1, 1, 1, 1, 1, 1, 1, 1]
  | .ret => [1, 1, 1, 1, 1, 1, 0, 1, 1, 1, 1, 1, 1, 1, 1, 1, 1, 1, 1, 1, 1, 1, 1, 1, 1, 1, 1, 1, 1, 1, 1, 1]
  | _ => []
noncomputable def impl_made_l0_T (v373 : Int) (v374 : Int) (v375 : Int) (v376 : Int) (v377 : List Nat) (v378 : Nat) (v457 : Int) (v458 : Int) (s : Int × (List Nat)) : Tree ((Int × (List Nat)) ⊕ ((List Nat))) :=
  (.br (decide (s.1 < v373)) (
   (.need (some (impl_made_l2_E v373 v374 v375 v376 v377 v378 s.1 v457 v458 ((0 : Int), s.2)) = some (impl_made_l2_E v373 v374 v375 v376 v377 v378 s.1 v457 v458 ((0 : Int), s.2))) <|
   (.call (impl_made_l2_g v374 v376 v377 v378 s.1 v457 v458 ((0 : Int), s.2)) fun v481 =>
   .leaf (.inl (IntKind.i64.wrap (s.1 + (1 : Int)), v481))))
  ) (
   .leaf (.inr s.2)
  ))

noncomputable def impl_made_l0_g (v373 : Int) (v374 : Int) (v375 : Int) (v376 : Int) (v377 : List Nat) (v378 : Nat) (v457 : Int) (v458 : Int) (s0 : Int × (List Nat)) : Option ((List Nat)) := whileM (fun s => (impl_made_l0_T v373 v374 v375 v376 v377 v378 v457 v458 s).run) s0
def impl_made_l0_E (v373 : Int) (v374 : Int) (v375 : Int) (v376 : Int) (v377 : List Nat) (v378 : Nat) (v457 : Int) (v458 : Int) (s : Int × (List Nat)) : Sd := ([.top, .int .i64 v374, .fn 127 [.bptr (BR.root 0) [.int .i64 v375, .int .i64 v376, .bslc (BR.root 1) (.f32 v377)], .bptr (BR.root 2) [.flt .f32 v378]], .top, .top, .top, .ptr 0 (0 : Nat) 0 (3 : Nat), .ptr 1 (0 : Nat) 0 (3 : Nat), .top, .top, .top, .top, .top, .int .i64 v373, .int .i64 s.1, .top, .top, .top, .top, .top, .top, .top, .top, .top, .top, .top, .top, .top, .top, .top, .top, .top], [.gen [.int .i64 (0 : Int), .int .i64 (0 : Int), .nilslc] false 0, .gen [.int .i64 v457, .int .i64 v458, .own 2 0 ((s.2).length)] false 0, .row (.f32 s.2) 0])
def impl_made_l0_X (v373 : Int) (v374 : Int) (v375 : Int) (v376 : Int) (v377 : List Nat) (v378 : Nat) (v457 : Int) (v458 : Int) (x : (List Nat)) : Out := (.normal, [.top, .top, .top, .top, .top, .top, .ptr 0 (0 : Nat) 0 (3 : Nat), .ptr 1 (0 : Nat) 0 (3 : Nat), .top, .top, .top, .top, .top, .top, .top, .top, .top, .top, .top, .top, .top, .top, .top, .top, .top, .top, .top, .top, .top, .top, .top, .top], [.gen [.int .i64 (0 : Int), .int .i64 (0 : Int), .nilslc] false 0, .gen [.int .i64 v457, .int .i64 v458, .own 2 0 ((x).length)] false 0, .row (.f32 x) 0])
def impl_made_l0_kill : List Nat := [1, 0, 0, 1, 1, 1, 0, 0, 1, 1, 1, 1, 1, 0, 0, 1, 1, 1, 1, 1, 1, 1, 1, 1, 1, 1, 1, 1, 1, 1, 1, 1]
def impl_made_l0_nx : Exit → List Nat
  | .exit 0 => [1, 1, 1, 1, 1, 1, 0, 0, 1, 1, 1, 1, 1, 1, 1, 1, 1, 1, 1, 1, 1, 1, 1, 1, 1, 1, 1, 1, 1, 1, 1, 1]
  | .ret => [1, 1, 1, 1, 1, 1, 0, 1, 1, 1, 1, 1, 1, 1, 1, 1, 1, 1, 1, 1, 1, 1, 1, 1, 1, 1, 1, 1, 1, 1, 1, 1]
  | _ => []
noncomputable def impl_made_LO (v373 : Int) (v374 : Int) (v375 : Int) (v376 : Int) (v377 : List Nat) (v378 : Nat) : LOr := fun id e L =>
  match id with
  | 2 => .need (normA 0 impl_made_l2_kill e L = some (impl_made_l2_E v373 v374 v375 v376 v377 v378 (gI (vAt e 8)) (gI (cAt L (vAt e 7) 0)) (gI (cAt L (vAt e 7) 1)) ((gI (vAt e 18)), (gRF L (cAt L (vAt e 7) 2))))) (.call (impl_made_l2_g v374 v376 v377 v378 (gI (vAt e 8)) (gI (cAt L (vAt e 7) 0)) (gI (cAt L (vAt e 7) 1)) ((gI (vAt e 18)), (gRF L (cAt L (vAt e 7) 2)))) fun x => .leaf (impl_made_l2_X v373 v374 v375 v376 v377 v378 (gI (vAt e 8)) (gI (cAt L (vAt e 7) 0)) (gI (cAt L (vAt e 7) 1)) x))
  | 0 => .need (normA 0 impl_made_l0_kill e L = some (impl_made_l0_E v373 v374 v375 v376 v377 v378 (gI (cAt L (vAt e 7) 0)) (gI (cAt L (vAt e 7) 1)) ((gI (vAt e 14)), (gRF L (cAt L (vAt e 7) 2))))) (.call (impl_made_l0_g v373 v374 v375 v376 v377 v378 (gI (cAt L (vAt e 7) 0)) (gI (cAt L (vAt e 7) 1)) ((gI (vAt e 14)), (gRF L (cAt L (vAt e 7) 2)))) fun x => .leaf (impl_made_l0_X v373 v374 v375 v376 v377 v378 (gI (cAt L (vAt e 7) 0)) (gI (cAt L (vAt e 7) 1)) x))
  | _ => .fail
noncomputable def impl_made_tab : List (FuncId × DFn × Bool) := [(117, impl_newMatrix_F, true), (127, impl_PolarPart_1_F, true), (66, impl_Matrix_set_F, false)]
theorem impl_made_hO : OrcOk Try.prog (tabD impl_made_tab) (tabM impl_made_tab) := tabD_cons impl_newMatrix_Fok (tabD_cons impl_PolarPart_1_Fok (tabD_cons impl_Matrix_set_Fok (tabD_nil _)))
theorem impl_made_l2_be (v373 : Int) (v374 : Int) (v375 : Int) (v376 : Int) (v377 : List Nat) (v378 : Nat) (v474 : Int) (v476 : Int) (v477 : Int) (s : Int × (List Nat)) : bodyT TT (tabD impl_made_tab) (tabM impl_made_tab) (impl_made_LO v373 v374 v375 v376 v377 v378) 0 impl_made_l2_kill impl_made_l2_nx (bodyOf Try.f78 2) 2 (impl_made_l2_E v373 v374 v375 v376 v377 v378 v474 v476 v477 s) = (impl_made_l2_T v374 v376 v377 v378 v474 v476 v477 s).bind fun y => .leaf (outS (impl_made_l2_E v373 v374 v375 v376 v377 v378 v474 v476 v477) (impl_made_l2_X v373 v374 v375 v376 v377 v378 v474 v476 v477) y) := by kernel_rfl
theorem impl_made_l2_ok (v373 : Int) (v374 : Int) (v375 : Int) (v376 : Int) (v377 : List Nat) (v378 : Nat) : LSound Try.prog 0 (impl_made_LO v373 v374 v375 v376 v377 v378) 2 (bodyOf Try.f78 2) := by
  intro e L out h
  exact lo_ok (E := impl_made_l2_E v373 v374 v375 v376 v377 v378 (gI (vAt e 8)) (gI (cAt L (vAt e 7) 0)) (gI (cAt L (vAt e 7) 1))) (gT := impl_made_l2_T v374 v376 v377 v378 (gI (vAt e 8)) (gI (cAt L (vAt e 7) 0)) (gI (cAt L (vAt e 7) 1))) (X := impl_made_l2_X v373 v374 v375 v376 v377 v378 (gI (vAt e 8)) (gI (cAt L (vAt e 7) 0)) (gI (cAt L (vAt e 7) 1))) (s0 := ((gI (vAt e 18)), (gRF L (cAt L (vAt e 7) 2)))) tok impl_made_hO mixed (LoopsOk_eq (l := []) (by kernel_rfl) trivial) (impl_made_l2_be v373 v374 v375 v376 v377 v378 (gI (vAt e 8)) (gI (cAt L (vAt e 7) 0)) (gI (cAt L (vAt e 7) 1))) rfl (by intro x; rfl) h
theorem impl_made_l0_be (v373 : Int) (v374 : Int) (v375 : Int) (v376 : Int) (v377 : List Nat) (v378 : Nat) (v457 : Int) (v458 : Int) (s : Int × (List Nat)) : bodyT TT (tabD impl_made_tab) (tabM impl_made_tab) (impl_made_LO v373 v374 v375 v376 v377 v378) 0 impl_made_l0_kill impl_made_l0_nx (bodyOf Try.f78 0) 0 (impl_made_l0_E v373 v374 v375 v376 v377 v378 v457 v458 s) = (impl_made_l0_T v373 v374 v375 v376 v377 v378 v457 v458 s).bind fun y => .leaf (outS (impl_made_l0_E v373 v374 v375 v376 v377 v378 v457 v458) (impl_made_l0_X v373 v374 v375 v376 v377 v378 v457 v458) y) := by kernel_rfl
theorem impl_made_l0_ok (v373 : Int) (v374 : Int) (v375 : Int) (v376 : Int) (v377 : List Nat) (v378 : Nat) : LSound Try.prog 0 (impl_made_LO v373 v374 v375 v376 v377 v378) 0 (bodyOf Try.f78 0) := by
  intro e L out h
  exact lo_ok (E := impl_made_l0_E v373 v374 v375 v376 v377 v378 (gI (cAt L (vAt e 7) 0)) (gI (cAt L (vAt e 7) 1))) (gT := impl_made_l0_T v373 v374 v375 v376 v377 v378 (gI (cAt L (vAt e 7) 0)) (gI (cAt L (vAt e 7) 1))) (X := impl_made_l0_X v373 v374 v375 v376 v377 v378 (gI (cAt L (vAt e 7) 0)) (gI (cAt L (vAt e 7) 1))) (s0 := ((gI (vAt e 14)), (gRF L (cAt L (vAt e 7) 2)))) tok impl_made_hO mixed (LoopsOk_eq (l := [(2, bodyOf Try.f78 2)]) (by kernel_rfl) ⟨impl_made_l2_ok v373 v374 v375 v376 v377 v378, trivial⟩) (impl_made_l0_be v373 v374 v375 v376 v377 v378 (gI (cAt L (vAt e 7) 0)) (gI (cAt L (vAt e 7) 1))) rfl (by intro x; rfl) h
noncomputable def impl_made_T (v373 : Int) (v374 : Int) (v375 : Int) (v376 : Int) (v377 : List Nat) (v378 : Nat) : Tree (Int × Int × (List Nat)) :=
  (.call (impl_newMatrix_g v373 v374) fun v381 =>
  (.need (some (impl_made_l0_E v373 v374 v375 v376 v377 v378 v381.1 v381.2 ((0 : Int), List.replicate (Int.toNat (IntKind.i64.wrap (v373 * v374))) (0 : Nat))) = some (impl_made_l0_E v373 v374 v375 v376 v377 v378 v381.1 v381.2 ((0 : Int), List.replicate (Int.toNat (IntKind.i64.wrap (v373 * v374))) (0 : Nat)))) <|
  (.call (impl_made_l0_g v373 v374 v375 v376 v377 v378 v381.1 v381.2 ((0 : Int), List.replicate (Int.toNat (IntKind.i64.wrap (v373 * v374))) (0 : Nat))) fun v482 =>
  .leaf (v381.1, v381.2, v482))))

noncomputable def impl_made_g (v373 : Int) (v374 : Int) (v375 : Int) (v376 : Int) (v377 : List Nat) (v378 : Nat) : Option (Int × Int × (List Nat)) := (impl_made_T v373 v374 v375 v376 v377 v378).run
def impl_made_enc (v373 : Int) (v374 : Int) (v375 : Int) (v376 : Int) (v377 : List Nat) (v378 : Nat) (y : Int × Int × (List Nat)) : Rs := (.agg [.int .i64 y.1, .int .i64 y.2.1, .own 0 0 ((y.2.2).length)], [.row (.f32 y.2.2) 0])
theorem impl_made_den (v373 : Int) (v374 : Int) (v375 : Int) (v376 : Int) (v377 : List Nat) (v378 : Nat) : (den TT (tabD impl_made_tab) (tabM impl_made_tab) (impl_made_LO v373 v374 v375 v376 v377 v378) (codeOf Try.f78) ([.int .i64 v373, .int .i64 v374, .fn 127 [.bptr (BR.root 0) [.int .i64 v375, .int .i64 v376, .bslc (BR.root 1) (.f32 v377)], .bptr (BR.root 2) [.flt .f32 v378]]] ++ List.replicate (Try.f78.ntmps - ([.int .i64 v373, .int .i64 v374, .fn 127 [.bptr (BR.root 0) [.int .i64 v375, .int .i64 v376, .bslc (BR.root 1) (.f32 v377)], .bptr (BR.root 2) [.flt .f32 v378]]] : List DV).length) .undef) []).bind (retD TT Try.f78.results.toList 0) = (impl_made_T v373 v374 v375 v376 v377 v378).bind fun y => .leaf (impl_made_enc v373 v374 v375 v376 v377 v378 y) := by kernel_rfl
theorem impl_made_fn (v373 : Int) (v374 : Int) (v375 : Int) (v376 : Int) (v377 : List Nat) (v378 : Nat) (F : Fr) (hm : F.ids.length = 0) (h0 : St F [] F.H0) (hA : DVs.Ok F [] [.int .i64 v373, .int .i64 v374, .fn 127 [.bptr (BR.root 0) [.int .i64 v375, .int .i64 v376, .bslc (BR.root 1) (.f32 v377)], .bptr (BR.root 2) [.flt .f32 v378]]]) {y : Int × Int × (List Nat)} (hy : impl_made_g v373 v374 v375 v376 v377 v378 = some y) : ∃ H', FnOk Try.prog 78 (DVs.av F [.int .i64 v373, .int .i64 v374, .fn 127 [.bptr (BR.root 0) [.int .i64 v375, .int .i64 v376, .bslc (BR.root 1) (.f32 v377)], .bptr (BR.root 2) [.flt .f32 v378]]]) F.H0 ((impl_made_enc v373 v374 v375 v376 v377 v378 y).1.av F) H' ∧ St F (impl_made_enc v373 v374 v375 v376 v377 v378 y).2 H' ∧ (impl_made_enc v373 v374 v375 v376 v377 v378 y).1.Ok F (impl_made_enc v373 v374 v375 v376 v377 v378 y).2 :=
  fn_fin tok impl_made_hO mixed Try.func78 Try.call78 (by kernel_rfl) (LoopsOk_eq (l := [(0, bodyOf Try.f78 0)]) (by kernel_rfl) ⟨impl_made_l0_ok v373 v374 v375 v376 v377 v378, trivial⟩) (impl_made_den v373 v374 v375 v376 v377 v378) hy hm h0 hA
noncomputable def impl_made_F : DFn := fun args L =>
  match args with
  | [.int .i64 v373, .int .i64 v374, .fn 127 [a1, a3]] =>
    optT (cellsOf L 3 a1) fun cs0 =>
    (match cs0 with
    | [.int .i64 v375, .int .i64 v376, a2] =>
    optT (rowF32 L a2) fun v377 =>
    optT (cellsOf L 1 a3) fun cs2 =>
    (match cs2 with
    | [.flt .f32 v378] =>
    .call (impl_made_g v373 v374 v375 v376 v377 v378) fun y => .leaf (.agg [.int .i64 y.1, .int .i64 y.2.1, .own (L.length + 0) 0 ((y.2.2).length)], L ++ [.row (.f32 y.2.2) 0])
    | _ => .fail)
    | _ => .fail)
  | _ => .fail
theorem impl_made_Fok : COk Try.prog 78 impl_made_F true := by
  intro F L H args r L' hs ha hr
  unfold impl_made_F at hr
  split at hr
  · rename_i v373 v374 a1 a3
    obtain ⟨cs0, hcp0, hr⟩ := optT_run hr
    split at hr
    · rename_i v375 v376 a2
      obtain ⟨v377, hv377, hr⟩ := optT_run hr
      obtain ⟨cs2, hcp2, hr⟩ := optT_run hr
      split at hr
      · rename_i v378
        simp only [Tree.run] at hr
        obtain ⟨y, hy, hr⟩ := Option.bind_eq_some_iff.1 hr
        simp only [Tree.run, Option.some.injEq, Prod.mk.injEq] at hr
        obtain ⟨rfl, rfl⟩ := hr
        exact call_ok1 hs (fun k => (([a1.av F, a2.av F, a3.av F] : List AV)[k]?).getD .top) [.int .i64 v373, .int .i64 v374, .fn 127 [a1, a3]] [.int .i64 v373, .int .i64 v374, .fn 127 [.bptr (BR.root 0) [.int .i64 v375, .int .i64 v376, .bslc (BR.root 1) (.f32 v377)], .bptr (BR.root 2) [.flt .f32 v378]]] (fun F' h0 hi hρ => ⟨by simp [DVs.av, DV.av, BR.av, hρ], impl_made_fn v373 v374 v375 v376 v377 v378 F' (by rw [hi]; rfl) (st_nil hi) ⟨trivial, trivial, ⟨bptr_ok hi (by rw [h0]; simpa [DVs.av, DV.av, BR.av, hρ] using (cellsOf_ok hs (DVs.okAt (DVs.okAt ha 2 rfl) 0 rfl) hcp0).1) ⟨trivial, trivial, bslc_ok hi (by rw [h0, hρ]; exact rowF32_ok hs (DVs.okAt (cellsOf_ok hs (DVs.okAt (DVs.okAt ha 2 rfl) 0 rfl) hcp0).2 2 rfl) hv377), trivial⟩, bptr_ok hi (by rw [h0]; simpa [DVs.av, DV.av, BR.av, hρ] using (cellsOf_ok hs (DVs.okAt (DVs.okAt ha 2 rfl) 1 rfl) hcp2).1) ⟨trivial, trivial⟩, trivial⟩, trivial⟩ hy⟩) rfl rfl
      · cases hr
    · cases hr
  · cases hr
/-! (impl.Matrix).valid -/
noncomputable def impl_Matrix_valid_LO (v484 : Int) (v485 : Int) (v486 : List Nat) : LOr := fun id e L =>
  match id with
  | _ => .fail
noncomputable def impl_Matrix_valid_tab : List (FuncId × DFn × Bool) := [(67, impl_ValidMatrix_F, true)]
theorem impl_Matrix_valid_hO : OrcOk Try.prog (tabD impl_Matrix_valid_tab) (tabM impl_Matrix_valid_tab) := tabD_cons impl_ValidMatrix_Fok (tabD_nil _)
noncomputable def impl_Matrix_valid_T (v484 : Int) (v485 : Int) (v486 : List Nat) : Tree ((Unit) ⊕ (Int × Int)) :=
  (.call (impl_ValidMatrix_g v484 v485 v486) fun v487 =>
  (.br (!v487) (
   .leaf (.inl ())
  ) (
   .leaf (.inr (v484, v485))
  )))

noncomputable def impl_Matrix_valid_g (v484 : Int) (v485 : Int) (v486 : List Nat) : Option ((Unit) ⊕ (Int × Int)) := (impl_Matrix_valid_T v484 v485 v486).run
def impl_Matrix_valid_enc (v484 : Int) (v485 : Int) (v486 : List Nat) (y : (Unit) ⊕ (Int × Int)) : Rs := (match y with | .inl y => (.tup [.agg [.int .i64 (0 : Int), .int .i64 (0 : Int), .nilslc], .lit false], []) | .inr y => (.tup [.agg [.int .i64 y.1, .int .i64 y.2, .bslc (BR.root 0) (.f32 v486)], .lit true], []))
theorem impl_Matrix_valid_den (v484 : Int) (v485 : Int) (v486 : List Nat) : (den TT (tabD impl_Matrix_valid_tab) (tabM impl_Matrix_valid_tab) (impl_Matrix_valid_LO v484 v485 v486) (codeOf Try.f83) ([.agg [.int .i64 v484, .int .i64 v485, .bslc (BR.root 0) (.f32 v486)]] ++ List.replicate (Try.f83.ntmps - ([.agg [.int .i64 v484, .int .i64 v485, .bslc (BR.root 0) (.f32 v486)]] : List DV).length) .undef) []).bind (retD TT Try.f83.results.toList 0) = (impl_Matrix_valid_T v484 v485 v486).bind fun y => .leaf (impl_Matrix_valid_enc v484 v485 v486 y) := by kernel_rfl
theorem impl_Matrix_valid_fn (v484 : Int) (v485 : Int) (v486 : List Nat) (F : Fr) (hm : F.ids.length = 0) (h0 : St F [] F.H0) (hA : DVs.Ok F [] [.agg [.int .i64 v484, .int .i64 v485, .bslc (BR.root 0) (.f32 v486)]]) {y : (Unit) ⊕ (Int × Int)} (hy : impl_Matrix_valid_g v484 v485 v486 = some y) : ∃ H', FnOk Try.prog 83 (DVs.av F [.agg [.int .i64 v484, .int .i64 v485, .bslc (BR.root 0) (.f32 v486)]]) F.H0 ((impl_Matrix_valid_enc v484 v485 v486 y).1.av F) H' ∧ St F (impl_Matrix_valid_enc v484 v485 v486 y).2 H' ∧ (impl_Matrix_valid_enc v484 v485 v486 y).1.Ok F (impl_Matrix_valid_enc v484 v485 v486 y).2 :=
  fn_fin tok impl_Matrix_valid_hO mixed Try.func83 Try.call83 (by kernel_rfl) (LoopsOk_eq (l := []) (by kernel_rfl) trivial) (impl_Matrix_valid_den v484 v485 v486) hy hm h0 hA
noncomputable def impl_Matrix_valid_F : DFn := fun args L =>
  match args with
  | [.agg [.int .i64 v484, .int .i64 v485, a1]] =>
    optT (rowF32 L a1) fun v486 =>
    .call (impl_Matrix_valid_g v484 v485 v486) fun y => .sum y (fun y0 => .leaf (.tup [.agg [.int .i64 (0 : Int), .int .i64 (0 : Int), .nilslc], .lit false], L)) (fun z0 => .leaf (.tup [.agg [.int .i64 z0.1, .int .i64 z0.2, a1], .lit true], L))
  | _ => .fail
theorem impl_Matrix_valid_Fok : COk Try.prog 83 impl_Matrix_valid_F true := by
  intro F L H args r L' hs ha hr
  unfold impl_Matrix_valid_F at hr
  split at hr
  · rename_i v484 v485 a1
    obtain ⟨v486, hv486, hr⟩ := optT_run hr
    simp only [Tree.run] at hr
    obtain ⟨y, hy, hr⟩ := Option.bind_eq_some_iff.1 hr
    cases y with
    | inl y =>
      simp only [Tree.run, Option.some.injEq, Prod.mk.injEq] at hr
      obtain ⟨rfl, rfl⟩ := hr
      exact call_ok0 hs (fun k => (([a1.av F] : List AV)[k]?).getD .top) [.agg [.int .i64 v484, .int .i64 v485, a1]] [.agg [.int .i64 v484, .int .i64 v485, .bslc (BR.root 0) (.f32 v486)]] (fun F' h0 hi hρ => ⟨by simp [DVs.av, DV.av, BR.av, hρ], impl_Matrix_valid_fn v484 v485 v486 F' (by rw [hi]; rfl) (st_nil hi) ⟨⟨trivial, trivial, bslc_ok hi (by rw [h0, hρ]; exact rowF32_ok hs (DVs.okAt (DVs.okAt ha 0 rfl) 2 rfl) hv486), trivial⟩, trivial⟩ hy⟩) rfl
    | inr y =>
      simp only [Tree.run, Option.some.injEq, Prod.mk.injEq] at hr
      obtain ⟨rfl, rfl⟩ := hr
      exact call_al0 hs (fun k => (([a1.av F] : List AV)[k]?).getD .top) [.agg [.int .i64 v484, .int .i64 v485, a1]] [.agg [.int .i64 v484, .int .i64 v485, .bslc (BR.root 0) (.f32 v486)]] (fun F' h0 hi hρ => ⟨by simp [DVs.av, DV.av, BR.av, hρ], impl_Matrix_valid_fn v484 v485 v486 F' (by rw [hi]; rfl) (st_nil hi) ⟨⟨trivial, trivial, bslc_ok hi (by rw [h0, hρ]; exact rowF32_ok hs (DVs.okAt (DVs.okAt ha 0 rfl) 2 rfl) hv486), trivial⟩, trivial⟩ hy⟩) (fun F' h0 hi hρ => by simp [impl_Matrix_valid_enc, DVs.av, DV.av, BR.av, hρ]) ⟨⟨trivial, trivial, (DVs.okAt (DVs.okAt ha 0 rfl) 2 rfl), trivial⟩, trivial, trivial⟩
  · cases hr
/-! (impl.Matrix).flip$1 -/
noncomputable def impl_Matrix_flip_1_LO (v515 : Int) (v516 : Int) (v517 : Int) (v518 : Int) (v519 : List Nat) : LOr := fun id e L =>
  match id with
  | _ => .fail
noncomputable def impl_Matrix_flip_1_tab : List (FuncId × DFn × Bool) := [(64, impl_Matrix_at_F, true)]
theorem impl_Matrix_flip_1_hO : OrcOk Try.prog (tabD impl_Matrix_flip_1_tab) (tabM impl_Matrix_flip_1_tab) := tabD_cons impl_Matrix_at_Fok (tabD_nil _)
noncomputable def impl_Matrix_flip_1_T (v515 : Int) (v516 : Int) (v518 : Int) (v519 : List Nat) : Tree (Nat) :=
  (.call (impl_Matrix_at_g v518 v519 v516 v515) fun v520 =>
  .leaf v520)

noncomputable def impl_Matrix_flip_1_g (v515 : Int) (v516 : Int) (v518 : Int) (v519 : List Nat) : Option (Nat) := (impl_Matrix_flip_1_T v515 v516 v518 v519).run
def impl_Matrix_flip_1_enc (v515 : Int) (v516 : Int) (v517 : Int) (v518 : Int) (v519 : List Nat) (y : Nat) : Rs := (.flt .f32 y, [])
theorem impl_Matrix_flip_1_den (v515 : Int) (v516 : Int) (v517 : Int) (v518 : Int) (v519 : List Nat) : (den TT (tabD impl_Matrix_flip_1_tab) (tabM impl_Matrix_flip_1_tab) (impl_Matrix_flip_1_LO v515 v516 v517 v518 v519) (codeOf Try.f163) ([.int .i64 v515, .int .i64 v516, .bptr (BR.root 0) [.int .i64 v517, .int .i64 v518, .bslc (BR.root 1) (.f32 v519)]] ++ List.replicate (Try.f163.ntmps - ([.int .i64 v515, .int .i64 v516, .bptr (BR.root 0) [.int .i64 v517, .int .i64 v518, .bslc (BR.root 1) (.f32 v519)]] : List DV).length) .undef) []).bind (retD TT Try.f163.results.toList 0) = (impl_Matrix_flip_1_T v515 v516 v518 v519).bind fun y => .leaf (impl_Matrix_flip_1_enc v515 v516 v517 v518 v519 y) := by kernel_rfl
theorem impl_Matrix_flip_1_fn (v515 : Int) (v516 : Int) (v517 : Int) (v518 : Int) (v519 : List Nat) (F : Fr) (hm : F.ids.length = 0) (h0 : St F [] F.H0) (hA : DVs.Ok F [] [.int .i64 v515, .int .i64 v516, .bptr (BR.root 0) [.int .i64 v517, .int .i64 v518, .bslc (BR.root 1) (.f32 v519)]]) {y : Nat} (hy : impl_Matrix_flip_1_g v515 v516 v518 v519 = some y) : ∃ H', FnOk Try.prog 163 (DVs.av F [.int .i64 v515, .int .i64 v516, .bptr (BR.root 0) [.int .i64 v517, .int .i64 v518, .bslc (BR.root 1) (.f32 v519)]]) F.H0 ((impl_Matrix_flip_1_enc v515 v516 v517 v518 v519 y).1.av F) H' ∧ St F (impl_Matrix_flip_1_enc v515 v516 v517 v518 v519 y).2 H' ∧ (impl_Matrix_flip_1_enc v515 v516 v517 v518 v519 y).1.Ok F (impl_Matrix_flip_1_enc v515 v516 v517 v518 v519 y).2 :=
  fn_fin tok impl_Matrix_flip_1_hO mixed Try.func163 Try.call163 (by kernel_rfl) (LoopsOk_eq (l := []) (by kernel_rfl) trivial) (impl_Matrix_flip_1_den v515 v516 v517 v518 v519) hy hm h0 hA
noncomputable def impl_Matrix_flip_1_F : DFn := fun args L =>
  match args with
  | [.int .i64 v515, .int .i64 v516, a1] =>
    optT (cellsOf L 3 a1) fun cs0 =>
    (match cs0 with
    | [.int .i64 v517, .int .i64 v518, a2] =>
    optT (rowF32 L a2) fun v519 =>
    .call (impl_Matrix_flip_1_g v515 v516 v518 v519) fun y => .leaf (.flt .f32 y, L)
    | _ => .fail)
  | _ => .fail
theorem impl_Matrix_flip_1_Fok : COk Try.prog 163 impl_Matrix_flip_1_F true := by
  intro F L H args r L' hs ha hr
  unfold impl_Matrix_flip_1_F at hr
  split at hr
  · rename_i v515 v516 a1
    obtain ⟨cs0, hcp0, hr⟩ := optT_run hr
    split at hr
    · rename_i v517 v518 a2
      obtain ⟨v519, hv519, hr⟩ := optT_run hr
      simp only [Tree.run] at hr
      obtain ⟨y, hy, hr⟩ := Option.bind_eq_some_iff.1 hr
      simp only [Tree.run, Option.some.injEq, Prod.mk.injEq] at hr
      obtain ⟨rfl, rfl⟩ := hr
      exact call_ok0 hs (fun k => (([a1.av F, a2.av F] : List AV)[k]?).getD .top) [.int .i64 v515, .int .i64 v516, a1] [.int .i64 v515, .int .i64 v516, .bptr (BR.root 0) [.int .i64 v517, .int .i64 v518, .bslc (BR.root 1) (.f32 v519)]] (fun F' h0 hi hρ => ⟨by simp [DVs.av, DV.av, BR.av, hρ], impl_Matrix_flip_1_fn v515 v516 v517 v518 v519 F' (by rw [hi]; rfl) (st_nil hi) ⟨trivial, trivial, bptr_ok hi (by rw [h0]; simpa [DVs.av, DV.av, BR.av, hρ] using (cellsOf_ok hs (DVs.okAt ha 2 rfl) hcp0).1) ⟨trivial, trivial, bslc_ok hi (by rw [h0, hρ]; exact rowF32_ok hs (DVs.okAt (cellsOf_ok hs (DVs.okAt ha 2 rfl) hcp0).2 2 rfl) hv519), trivial⟩, trivial⟩ hy⟩) rfl
    · cases hr
  · cases hr
/-! impl.made -/
noncomputable def impl_made_i1_l2_T (v503 : Int) (v505 : Int) (v506 : List Nat) (v582 : Int) (v584 : Int) (v585 : Int) (s : Int × (List Nat)) : Tree ((Int × (List Nat)) ⊕ ((List Nat))) :=
  (.br (decide (s.1 < v503)) (
   (.call (impl_Matrix_flip_1_g v582 s.1 v505 v506) fun v587 =>
   (.call (impl_Matrix_set_g v585 s.2 v582 s.1) fun v588 =>
   (.grd (decide ((List.set s.2 (Int.toNat (IntKind.i64.wrap ((IntKind.i64.wrap (v582 * v585)) + s.1))) v587).length = s.2.length)) <|
   .leaf (.inl (IntKind.i64.wrap (s.1 + (1 : Int)), List.set s.2 (Int.toNat (IntKind.i64.wrap ((IntKind.i64.wrap (v582 * v585)) + s.1))) v587)))))
  ) (
   .leaf (.inr s.2)
  ))

noncomputable def impl_made_i1_l2_g (v503 : Int) (v505 : Int) (v506 : List Nat) (v582 : Int) (v584 : Int) (v585 : Int) (s0 : Int × (List Nat)) : Option ((List Nat)) := whileM (fun s => (impl_made_i1_l2_T v503 v505 v506 v582 v584 v585 s).run) s0
def impl_made_i1_l2_E (v502 : Int) (v503 : Int) (v504 : Int) (v505 : Int) (v506 : List Nat) (v582 : Int) (v584 : Int) (v585 : Int) (s : Int × (List Nat)) : Sd := ([.top, .int .i64 v503, .fn 163 [.bptr (BR.root 0) [.int .i64 v504, .int .i64 v505, .bslc (BR.root 1) (.f32 v506)]], .top, .top, .top, .ptr 0 (0 : Nat) 0 (3 : Nat), .ptr 1 (0 : Nat) 0 (3 : Nat), .int .i64 v582, .top, .top, .top, .top, .int .i64 v502, .int .i64 v582, .top, .top, .int .i64 v503, .int .i64 s.1, .top, .top, .top, .top, .top, .top, .top, .top, .top, .top, .top, .top, .top], [.gen [.int .i64 (0 : Int), .int .i64 (0 : Int), .nilslc] false 0, .gen [.int .i64 v584, .int .i64 v585, .own 2 0 ((s.2).length)] false 0, .row (.f32 s.2) 0])
def impl_made_i1_l2_X (v502 : Int) (v503 : Int) (v504 : Int) (v505 : Int) (v506 : List Nat) (v582 : Int) (v584 : Int) (v585 : Int) (x : (List Nat)) : Out := (.normal, [.top, .int .i64 v503, .fn 163 [.bptr (BR.root 0) [.int .i64 v504, .int .i64 v505, .bslc (BR.root 1) (.f32 v506)]], .top, .top, .top, .ptr 0 (0 : Nat) 0 (3 : Nat), .ptr 1 (0 : Nat) 0 (3 : Nat), .top, .top, .top, .top, .top, .int .i64 v502, .int .i64 v582, .top, .top, .top, .top, .top, .top, .top, .top, .top, .top, .top, .top, .top, .top, .top, .top, .top], [.gen [.int .i64 (0 : Int), .int .i64 (0 : Int), .nilslc] false 0, .gen [.int .i64 v584, .int .i64 v585, .own 2 0 ((x).length)] false 0, .row (.f32 x) 0])
def impl_made_i1_l2_kill : List Nat := [1, 0, 0, 1, 1, 1, 0, 0, 0, 1, 1, 1, 1, 0, 0, 1, 1, 0, 0, 1, 1, 1, 1, 1, 1, 1, 1, 1, 1, 1, 1, 1]
def impl_made_i1_l2_nx : Exit → List Nat
  | .exit 0 => [1, 1, 1, 1, 1, 1, 0, 0, 1, 1, 1, 1, 1, 1, 1, 1, 1, 1, 1, 1, 1, 1, 1, 1, 1, 1, 1, 1, 1, 1, 1, 1]
  | .exit 1 => [1, 0, 0, 1, 1, 1, 0, 0, 1, 1, 1, 1, 1, 0, 0, 1, 1, 1, 1, 1, 1, 1, 1, 1, 1, 1, 1, 1, 1, 1, 1, 1]
  | .exit 2 => [1, 0, 0, 1, 1, 1, 0, 0, 1, 1, 1, 1, 1, 0, 0, 1, 1, 1, 1, 1, 1, 1, 1, 1, 1, 1, 1, 1, 1, 1, 1, 1]
  | .ret => [1, 1, 1, 1, 1, 1, 0, 1, 1, 1, 1, 1, 1, 1, 1, 1, 1, 1, 1, 1, 1, 1, 1, 1, 1, 1, 1, 1, 1, 1, 1, 1]
  | _ => []
noncomputable def impl_made_i1_l0_T (v502 : Int) (v503 : Int) (v504 : Int) (v505 : Int) (v506 : List Nat) (v565 : Int) (v566 : Int) (s : Int × (List Nat)) : Tree ((Int × (List Nat)) ⊕ ((List Nat))) :=
  (.br (decide (s.1 < v502)) (
   (.need (some (impl_made_i1_l2_E v502 v503 v504 v505 v506 s.1 v565 v566 ((0 : Int), s.2)) = some (impl_made_i1_l2_E v502 v503 v504 v505 v506 s.1 v565 v566 ((0 : Int), s.2))) <|
   (.call (impl_made_i1_l2_g v503 v505 v506 s.1 v565 v566 ((0 : Int), s.2)) fun v589 =>
   .leaf (.inl (IntKind.i64.wrap (s.1 + (1 : Int)), v589))))
  ) (
   .leaf (.inr s.2)
  ))

noncomputable def impl_made_i1_l0_g (v502 : Int) (v503 : Int) (v504 : Int) (v505 : Int) (v506 : List Nat) (v565 : Int) (v566 : Int) (s0 : Int × (List Nat)) : Option ((List Nat)) := whileM (fun s => (impl_made_i1_l0_T v502 v503 v504 v505 v506 v565 v566 s).run) s0
def impl_made_i1_l0_E (v502 : Int) (v503 : Int) (v504 : Int) (v505 : Int) (v506 : List Nat) (v565 : Int) (v566 : Int) (s : Int × (List Nat)) : Sd := ([.top, .int .i64 v503, .fn 163 [.bptr (BR.root 0) [.int .i64 v504, .int .i64 v505, .bslc (BR.root 1) (.f32 v506)]], .top, .top, .top, .ptr 0 (0 : Nat) 0 (3 : Nat), .ptr 1 (0 : Nat) 0 (3 : Nat), .top, .top, .top, .top, .top, .int .i64 v502, .int .i64 s.1, .top, .top, .top, .top, .top, .top, .top, .top, .top, .top, .top, .top, .top, .top, .top, .top, .top], [.gen [.int .i64 (0 : Int), .int .i64 (0 : Int), .nilslc] false 0, .gen [.int .i64 v565, .int .i64 v566, .own 2 0 ((s.2).length)] false 0, .row (.f32 s.2) 0])
def impl_made_i1_l0_X (v502 : Int) (v503 : Int) (v504 : Int) (v505 : Int) (v506 : List Nat) (v565 : Int) (v566 : Int) (x : (List Nat)) : Out := (.normal, [.top, .top, .top, .top, .top, .top, .ptr 0 (0 : Nat) 0 (3 : Nat), .ptr 1 (0 : Nat) 0 (3 : Nat), .top, .top, .top, .top, .top, .top, .top, .top, .top, .top, .top, .top, .top, .top, .top, .top, .top, .top, .top, .top, .top, .top, .top, .top], [.gen [.int .i64 (0 : Int), .int .i64 (0 : Int), .nilslc] false 0, .gen [.int .i64 v565, .int .i64 v566, .own 2 0 ((x).length)] false 0, .row (.f32 x) 0])
def impl_made_i1_l0_kill : List Nat := [1, 0, 0, 1, 1, 1, 0, 0, 1, 1, 1, 1, 1, 0, 0, 1, 1, 1, 1, 1, 1, 1, 1, 1, 1, 1, 1, 1, 1, 1, 1, 1]
def impl_made_i1_l0_nx : Exit → List Nat
  | .exit 0 => [1, 1, 1, 1, 1, 1, 0, 0, 1, 1, 1, 1, 1, 1, 1, 1, 1, 1, 1, 1, 1, 1, 1, 1, 1, 1, 1, 1, 1, 1, 1, 1]
  | .ret => [1, 1, 1, 1, 1, 1, 0, 1, 1, 1, 1, 1, 1, 1, 1, 1, 1, 1, 1, 1, 1, 1, 1, 1, 1, 1, 1, 1, 1, 1, 1, 1]
  | _ => []
noncomputable def impl_made_i1_LO (v502 : Int) (v503 : Int) (v504 : Int) (v505 : Int) (v506 : List Nat) : LOr := fun id e L =>
  match id with
  | 2 => .need (normA 0 impl_made_i1_l2_kill e L = some (impl_made_i1_l2_E v502 v503 v504 v505 v506 (gI (vAt e 8)) (gI (cAt L (vAt e 7) 0)) (gI (cAt L (vAt e 7) 1)) ((gI (vAt e 18)), (gRF L (cAt L (vAt e 7) 2))))) (.call (impl_made_i1_l2_g v503 v505 v506 (gI (vAt e 8)) (gI (cAt L (vAt e 7) 0)) (gI (cAt L (vAt e 7) 1)) ((gI (vAt e 18)), (gRF L (cAt L (vAt e 7) 2)))) fun x => .leaf (impl_made_i1_l2_X v502 v503 v504 v505 v506 (gI (vAt e 8)) (gI (cAt L (vAt e 7) 0)) (gI (cAt L (vAt e 7) 1)) x))
  | 0 => .need (normA 0 impl_made_i1_l0_kill e L = some (impl_made_i1_l0_E v502 v503 v504 v505 v506 (gI (cAt L (vAt e 7) 0)) (gI (cAt L (vAt e 7) 1)) ((gI (vAt e 14)), (gRF L (cAt L (vAt e 7) 2))))) (.call (impl_made_i1_l0_g v502 v503 v504 v505 v506 (gI (cAt L (vAt e 7) 0)) (gI (cAt L (vAt e 7) 1)) ((gI (vAt e 14)), (gRF L (cAt L (vAt e 7) 2)))) fun x => .leaf (impl_made_i1_l0_X v502 v503 v504 v505 v506 (gI (cAt L (vAt e 7) 0)) (gI (cAt L (vAt e 7) 1)) x))
  | _ => .fail
noncomputable def impl_made_i1_tab : List (FuncId × DFn × Bool) := [(117, impl_newMatrix_F, true), (163, impl_Matrix_flip_1_F, true), (66, impl_Matrix_set_F, false)]
theorem impl_made_i1_hO : OrcOk Try.prog (tabD impl_made_i1_tab) (tabM impl_made_i1_tab) := tabD_cons impl_newMatrix_Fok (tabD_cons impl_Matrix_flip_1_Fok (tabD_cons impl_Matrix_set_Fok (tabD_nil _)))
theorem impl_made_i1_l2_be (v502 : Int) (v503 : Int) (v504 : Int) (v505 : Int) (v506 : List Nat) (v582 : Int) (v584 : Int) (v585 : Int) (s : Int × (List Nat)) : bodyT TT (tabD impl_made_i1_tab) (tabM impl_made_i1_tab) (impl_made_i1_LO v502 v503 v504 v505 v506) 0 impl_made_i1_l2_kill impl_made_i1_l2_nx (bodyOf Try.f78 2) 2 (impl_made_i1_l2_E v502 v503 v504 v505 v506 v582 v584 v585 s) = (impl_made_i1_l2_T v503 v505 v506 v582 v584 v585 s).bind fun y => .leaf (outS (impl_made_i1_l2_E v502 v503 v504 v505 v506 v582 v584 v585) (impl_made_i1_l2_X v502 v503 v504 v505 v506 v582 v584 v585) y) := by kernel_rfl
theorem impl_made_i1_l2_ok (v502 : Int) (v503 : Int) (v504 : Int) (v505 : Int) (v506 : List Nat) : LSound Try.prog 0 (impl_made_i1_LO v502 v503 v504 v505 v506) 2 (bodyOf Try.f78 2) := by
  intro e L out h
  exact lo_ok (E := impl_made_i1_l2_E v502 v503 v504 v505 v506 (gI (vAt e 8)) (gI (cAt L (vAt e 7) 0)) (gI (cAt L (vAt e 7) 1))) (gT := impl_made_i1_l2_T v503 v505 v506 (gI (vAt e 8)) (gI (cAt L (vAt e 7) 0)) (gI (cAt L (vAt e 7) 1))) (X := impl_made_i1_l2_X v502 v503 v504 v505 v506 (gI (vAt e 8)) (gI (cAt L (vAt e 7) 0)) (gI (cAt L (vAt e 7) 1))) (s0 := ((gI (vAt e 18)), (gRF L (cAt L (vAt e 7) 2)))) tok impl_made_i1_hO mixed (LoopsOk_eq (l := []) (by kernel_rfl) trivial) (impl_made_i1_l2_be v502 v503 v504 v505 v506 (gI (vAt e 8)) (gI (cAt L (vAt e 7) 0)) (gI (cAt L (vAt e 7) 1))) rfl (by intro x; rfl) h
theorem impl_made_i1_l0_be (v502 : Int) (v503 : Int) (v504 : Int) (v505 : Int) (v506 : List Nat) (v565 : Int) (v566 : Int) (s : Int × (List Nat)) : bodyT TT (tabD impl_made_i1_tab) (tabM impl_made_i1_tab) (impl_made_i1_LO v502 v503 v504 v505 v506) 0 impl_made_i1_l0_kill impl_made_i1_l0_nx (bodyOf Try.f78 0) 0 (impl_made_i1_l0_E v502 v503 v504 v505 v506 v565 v566 s) = (impl_made_i1_l0_T v502 v503 v504 v505 v506 v565 v566 s).bind fun y => .leaf (outS (impl_made_i1_l0_E v502 v503 v504 v505 v506 v565 v566) (impl_made_i1_l0_X v502 v503 v504 v505 v506 v565 v566) y) := by kernel_rfl
theorem impl_made_i1_l0_ok (v502 : Int) (v503 : Int) (v504 : Int) (v505 : Int) (v506 : List Nat) : LSound Try.prog 0 (impl_made_i1_LO v502 v503 v504 v505 v506) 0 (bodyOf Try.f78 0) := by
  intro e L out h
  exact lo_ok (E := impl_made_i1_l0_E v502 v503 v504 v505 v506 (gI (cAt L (vAt e 7) 0)) (gI (cAt L (vAt e 7) 1))) (gT := impl_made_i1_l0_T v502 v503 v504 v505 v506 (gI (cAt L (vAt e 7) 0)) (gI (cAt L (vAt e 7) 1))) (X := impl_made_i1_l0_X v502 v503 v504 v505 v506 (gI (cAt L (vAt e 7) 0)) (gI (cAt L (vAt e 7) 1))) (s0 := ((gI (vAt e 14)), (gRF L (cAt L (vAt e 7) 2)))) tok impl_made_i1_hO mixed (LoopsOk_eq (l := [(2, bodyOf Try.f78 2)]) (by kernel_rfl) ⟨impl_made_i1_l2_ok v502 v503 v504 v505 v506, trivial⟩) (impl_made_i1_l0_be v502 v503 v504 v505 v506 (gI (cAt L (vAt e 7) 0)) (gI (cAt L (vAt e 7) 1))) rfl (by intro x; rfl) h
noncomputable def impl_made_i1_T (v502 : Int) (v503 : Int) (v504 : Int) (v505 : Int) (v506 : List Nat) : Tree (Int × Int × (List Nat)) :=
  (.call (impl_newMatrix_g v502 v503) fun v507 =>
  (.need (some (impl_made_i1_l0_E v502 v503 v504 v505 v506 v507.1 v507.2 ((0 : Int), List.replicate (Int.toNat (IntKind.i64.wrap (v502 * v503))) (0 : Nat))) = some (impl_made_i1_l0_E v502 v503 v504 v505 v506 v507.1 v507.2 ((0 : Int), List.replicate (Int.toNat (IntKind.i64.wrap (v502 * v503))) (0 : Nat)))) <|
  (.call (impl_made_i1_l0_g v502 v503 v504 v505 v506 v507.1 v507.2 ((0 : Int), List.replicate (Int.toNat (IntKind.i64.wrap (v502 * v503))) (0 : Nat))) fun v590 =>
  .leaf (v507.1, v507.2, v590))))

noncomputable def impl_made_i1_g (v502 : Int) (v503 : Int) (v504 : Int) (v505 : Int) (v506 : List Nat) : Option (Int × Int × (List Nat)) := (impl_made_i1_T v502 v503 v504 v505 v506).run
def impl_made_i1_enc (v502 : Int) (v503 : Int) (v504 : Int) (v505 : Int) (v506 : List Nat) (y : Int × Int × (List Nat)) : Rs := (.agg [.int .i64 y.1, .int .i64 y.2.1, .own 0 0 ((y.2.2).length)], [.row (.f32 y.2.2) 0])
theorem impl_made_i1_den (v502 : Int) (v503 : Int) (v504 : Int) (v505 : Int) (v506 : List Nat) : (den TT (tabD impl_made_i1_tab) (tabM impl_made_i1_tab) (impl_made_i1_LO v502 v503 v504 v505 v506) (codeOf Try.f78) ([.int .i64 v502, .int .i64 v503, .fn 163 [.bptr (BR.root 0) [.int .i64 v504, .int .i64 v505, .bslc (BR.root 1) (.f32 v506)]]] ++ List.replicate (Try.f78.ntmps - ([.int .i64 v502, .int .i64 v503, .fn 163 [.bptr (BR.root 0) [.int .i64 v504, .int .i64 v505, .bslc (BR.root 1) (.f32 v506)]]] : List DV).length) .undef) []).bind (retD TT Try.f78.results.toList 0) = (impl_made_i1_T v502 v503 v504 v505 v506).bind fun y => .leaf (impl_made_i1_enc v502 v503 v504 v505 v506 y) := by kernel_rfl
theorem impl_made_i1_fn (v502 : Int) (v503 : Int) (v504 : Int) (v505 : Int) (v506 : List Nat) (F : Fr) (hm : F.ids.length = 0) (h0 : St F [] F.H0) (hA : DVs.Ok F [] [.int .i64 v502, .int .i64 v503, .fn 163 [.bptr (BR.root 0) [.int .i64 v504, .int .i64 v505, .bslc (BR.root 1) (.f32 v506)]]]) {y : Int × Int × (List Nat)} (hy : impl_made_i1_g v502 v503 v504 v505 v506 = some y) : ∃ H', FnOk Try.prog 78 (DVs.av F [.int .i64 v502, .int .i64 v503, .fn 163 [.bptr (BR.root 0) [.int .i64 v504, .int .i64 v505, .bslc (BR.root 1) (.f32 v506)]]]) F.H0 ((impl_made_i1_enc v502 v503 v504 v505 v506 y).1.av F) H' ∧ St F (impl_made_i1_enc v502 v503 v504 v505 v506 y).2 H' ∧ (impl_made_i1_enc v502 v503 v504 v505 v506 y).1.Ok F (impl_made_i1_enc v502 v503 v504 v505 v506 y).2 :=
  fn_fin tok impl_made_i1_hO mixed Try.func78 Try.call78 (by kernel_rfl) (LoopsOk_eq (l := [(0, bodyOf Try.f78 0)]) (by kernel_rfl) ⟨impl_made_i1_l0_ok v502 v503 v504 v505 v506, trivial⟩) (impl_made_i1_den v502 v503 v504 v505 v506) hy hm h0 hA
noncomputable def impl_made_i1_F : DFn := fun args L =>
  match args with
  | [.int .i64 v502, .int .i64 v503, .fn 163 [a1]] =>
    optT (cellsOf L 3 a1) fun cs0 =>
    (match cs0 with
    | [.int .i64 v504, .int .i64 v505, a2] =>
    optT (rowF32 L a2) fun v506 =>
    .call (impl_made_i1_g v502 v503 v504 v505 v506) fun y => .leaf (.agg [.int .i64 y.1, .int .i64 y.2.1, .own (L.length + 0) 0 ((y.2.2).length)], L ++ [.row (.f32 y.2.2) 0])
    | _ => .fail)
  | _ => .fail
theorem impl_made_i1_Fok : COk Try.prog 78 impl_made_i1_F true := by
  intro F L H args r L' hs ha hr
  unfold impl_made_i1_F at hr
  split at hr
  · rename_i v502 v503 a1
    obtain ⟨cs0, hcp0, hr⟩ := optT_run hr
    split at hr
    · rename_i v504 v505 a2
      obtain ⟨v506, hv506, hr⟩ := optT_run hr
      simp only [Tree.run] at hr
      obtain ⟨y, hy, hr⟩ := Option.bind_eq_some_iff.1 hr
      simp only [Tree.run, Option.some.injEq, Prod.mk.injEq] at hr
      obtain ⟨rfl, rfl⟩ := hr
      exact call_ok1 hs (fun k => (([a1.av F, a2.av F] : List AV)[k]?).getD .top) [.int .i64 v502, .int .i64 v503, .fn 163 [a1]] [.int .i64 v502, .int .i64 v503, .fn 163 [.bptr (BR.root 0) [.int .i64 v504, .int .i64 v505, .bslc (BR.root 1) (.f32 v506)]]] (fun F' h0 hi hρ => ⟨by simp [DVs.av, DV.av, BR.av, hρ], impl_made_i1_fn v502 v503 v504 v505 v506 F' (by rw [hi]; rfl) (st_nil hi) ⟨trivial, trivial, ⟨bptr_ok hi (by rw [h0]; simpa [DVs.av, DV.av, BR.av, hρ] using (cellsOf_ok hs (DVs.okAt (DVs.okAt ha 2 rfl) 0 rfl) hcp0).1) ⟨trivial, trivial, bslc_ok hi (by rw [h0, hρ]; exact rowF32_ok hs (DVs.okAt (cellsOf_ok hs (DVs.okAt (DVs.okAt ha 2 rfl) 0 rfl) hcp0).2 2 rfl) hv506), trivial⟩, trivial⟩, trivial⟩ hy⟩) rfl rfl
    · cases hr
  · cases hr
/-! (impl.Matrix).flip -/
noncomputable def impl_Matrix_flip_LO (v499 : Int) (v500 : Int) (v501 : List Nat) : LOr := fun id e L =>
  match id with
  | _ => .fail
noncomputable def impl_Matrix_flip_tab : List (FuncId × DFn × Bool) := [(78, impl_made_i1_F, true)]
theorem impl_Matrix_flip_hO : OrcOk Try.prog (tabD impl_Matrix_flip_tab) (tabM impl_Matrix_flip_tab) := tabD_cons impl_made_i1_Fok (tabD_nil _)
noncomputable def impl_Matrix_flip_T (v499 : Int) (v500 : Int) (v501 : List Nat) : Tree (Int × Int × (List Nat)) :=
  (.call (impl_made_i1_g v500 v499 v499 v500 v501) fun v591 =>
  .leaf (v591.1, v591.2.1, v591.2.2))

noncomputable def impl_Matrix_flip_g (v499 : Int) (v500 : Int) (v501 : List Nat) : Option (Int × Int × (List Nat)) := (impl_Matrix_flip_T v499 v500 v501).run
def impl_Matrix_flip_enc (v499 : Int) (v500 : Int) (v501 : List Nat) (y : Int × Int × (List Nat)) : Rs := (.agg [.int .i64 y.1, .int .i64 y.2.1, .own 0 0 ((y.2.2).length)], [.row (.f32 y.2.2) 0])
theorem impl_Matrix_flip_den (v499 : Int) (v500 : Int) (v501 : List Nat) : (den TT (tabD impl_Matrix_flip_tab) (tabM impl_Matrix_flip_tab) (impl_Matrix_flip_LO v499 v500 v501) (codeOf Try.f128) ([.agg [.int .i64 v499, .int .i64 v500, .bslc (BR.root 0) (.f32 v501)]] ++ List.replicate (Try.f128.ntmps - ([.agg [.int .i64 v499, .int .i64 v500, .bslc (BR.root 0) (.f32 v501)]] : List DV).length) .undef) []).bind (retD TT Try.f128.results.toList 0) = (impl_Matrix_flip_T v499 v500 v501).bind fun y => .leaf (impl_Matrix_flip_enc v499 v500 v501 y) := by kernel_rfl
theorem impl_Matrix_flip_fn (v499 : Int) (v500 : Int) (v501 : List Nat) (F : Fr) (hm : F.ids.length = 0) (h0 : St F [] F.H0) (hA : DVs.Ok F [] [.agg [.int .i64 v499, .int .i64 v500, .bslc (BR.root 0) (.f32 v501)]]) {y : Int × Int × (List Nat)} (hy : impl_Matrix_flip_g v499 v500 v501 = some y) : ∃ H', FnOk Try.prog 128 (DVs.av F [.agg [.int .i64 v499, .int .i64 v500, .bslc (BR.root 0) (.f32 v501)]]) F.H0 ((impl_Matrix_flip_enc v499 v500 v501 y).1.av F) H' ∧ St F (impl_Matrix_flip_enc v499 v500 v501 y).2 H' ∧ (impl_Matrix_flip_enc v499 v500 v501 y).1.Ok F (impl_Matrix_flip_enc v499 v500 v501 y).2 :=
  fn_fin tok impl_Matrix_flip_hO mixed Try.func128 Try.call128 (by kernel_rfl) (LoopsOk_eq (l := []) (by kernel_rfl) trivial) (impl_Matrix_flip_den v499 v500 v501) hy hm h0 hA
noncomputable def impl_Matrix_flip_F : DFn := fun args L =>
  match args with
  | [.agg [.int .i64 v499, .int .i64 v500, a1]] =>
    optT (rowF32 L a1) fun v501 =>
    .call (impl_Matrix_flip_g v499 v500 v501) fun y => .leaf (.agg [.int .i64 y.1, .int .i64 y.2.1, .own (L.length + 0) 0 ((y.2.2).length)], L ++ [.row (.f32 y.2.2) 0])
  | _ => .fail
theorem impl_Matrix_flip_Fok : COk Try.prog 128 impl_Matrix_flip_F true := by
  intro F L H args r L' hs ha hr
  unfold impl_Matrix_flip_F at hr
  split at hr
  · rename_i v499 v500 a1
    obtain ⟨v501, hv501, hr⟩ := optT_run hr
    simp only [Tree.run] at hr
    obtain ⟨y, hy, hr⟩ := Option.bind_eq_some_iff.1 hr
    simp only [Tree.run, Option.some.injEq, Prod.mk.injEq] at hr
    obtain ⟨rfl, rfl⟩ := hr
    exact call_ok1 hs (fun k => (([a1.av F] : List AV)[k]?).getD .top) [.agg [.int .i64 v499, .int .i64 v500, a1]] [.agg [.int .i64 v499, .int .i64 v500, .bslc (BR.root 0) (.f32 v501)]] (fun F' h0 hi hρ => ⟨by simp [DVs.av, DV.av, BR.av, hρ], impl_Matrix_flip_fn v499 v500 v501 F' (by rw [hi]; rfl) (st_nil hi) ⟨⟨trivial, trivial, bslc_ok hi (by rw [h0, hρ]; exact rowF32_ok hs (DVs.okAt (DVs.okAt ha 0 rfl) 2 rfl) hv501), trivial⟩, trivial⟩ hy⟩) rfl rfl
  · cases hr
/-! impl.areFactors -/
noncomputable def impl_areFactors_LO (v599 : Int) (v600 : Int) (v601 : List Nat) (v602 : Int) (v603 : Int) (v604 : List Nat) : LOr := fun id e L =>
  match id with
  | _ => .fail
noncomputable def impl_areFactors_tab : List (FuncId × DFn × Bool) := [(67, impl_ValidMatrix_F, true)]
theorem impl_areFactors_hO : OrcOk Try.prog (tabD impl_areFactors_tab) (tabM impl_areFactors_tab) := tabD_cons impl_ValidMatrix_Fok (tabD_nil _)
noncomputable def impl_areFactors_T (v599 : Int) (v600 : Int) (v601 : List Nat) (v602 : Int) (v603 : Int) (v604 : List Nat) : Tree (Bool) :=
  (.call (impl_ValidMatrix_g v599 v600 v601) fun v605 =>
  (.br v605 (
   (.call (impl_ValidMatrix_g v602 v603 v604) fun v606 =>
   (.br v606 (
    .leaf (decide (v600 = v602))
   ) (
    .leaf false
   )))
  ) (
   .leaf false
  )))

noncomputable def impl_areFactors_g (v599 : Int) (v600 : Int) (v601 : List Nat) (v602 : Int) (v603 : Int) (v604 : List Nat) : Option (Bool) := (impl_areFactors_T v599 v600 v601 v602 v603 v604).run
def impl_areFactors_enc (v599 : Int) (v600 : Int) (v601 : List Nat) (v602 : Int) (v603 : Int) (v604 : List Nat) (y : Bool) : Rs := (.bool y, [])
theorem impl_areFactors_den (v599 : Int) (v600 : Int) (v601 : List Nat) (v602 : Int) (v603 : Int) (v604 : List Nat) : (den TT (tabD impl_areFactors_tab) (tabM impl_areFactors_tab) (impl_areFactors_LO v599 v600 v601 v602 v603 v604) (codeOf Try.f76) ([.agg [.int .i64 v599, .int .i64 v600, .bslc (BR.root 0) (.f32 v601)], .agg [.int .i64 v602, .int .i64 v603, .bslc (BR.root 1) (.f32 v604)]] ++ List.replicate (Try.f76.ntmps - ([.agg [.int .i64 v599, .int .i64 v600, .bslc (BR.root 0) (.f32 v601)], .agg [.int .i64 v602, .int .i64 v603, .bslc (BR.root 1) (.f32 v604)]] : List DV).length) .undef) []).bind (retD TT Try.f76.results.toList 0) = (impl_areFactors_T v599 v600 v601 v602 v603 v604).bind fun y => .leaf (impl_areFactors_enc v599 v600 v601 v602 v603 v604 y) := by kernel_rfl
theorem impl_areFactors_fn (v599 : Int) (v600 : Int) (v601 : List Nat) (v602 : Int) (v603 : Int) (v604 : List Nat) (F : Fr) (hm : F.ids.length = 0) (h0 : St F [] F.H0) (hA : DVs.Ok F [] [.agg [.int .i64 v599, .int .i64 v600, .bslc (BR.root 0) (.f32 v601)], .agg [.int .i64 v602, .int .i64 v603, .bslc (BR.root 1) (.f32 v604)]]) {y : Bool} (hy : impl_areFactors_g v599 v600 v601 v602 v603 v604 = some y) : ∃ H', FnOk Try.prog 76 (DVs.av F [.agg [.int .i64 v599, .int .i64 v600, .bslc (BR.root 0) (.f32 v601)], .agg [.int .i64 v602, .int .i64 v603, .bslc (BR.root 1) (.f32 v604)]]) F.H0 ((impl_areFactors_enc v599 v600 v601 v602 v603 v604 y).1.av F) H' ∧ St F (impl_areFactors_enc v599 v600 v601 v602 v603 v604 y).2 H' ∧ (impl_areFactors_enc v599 v600 v601 v602 v603 v604 y).1.Ok F (impl_areFactors_enc v599 v600 v601 v602 v603 v604 y).2 :=
  fn_fin tok impl_areFactors_hO mixed Try.func76 Try.call76 (by kernel_rfl) (LoopsOk_eq (l := []) (by kernel_rfl) trivial) (impl_areFactors_den v599 v600 v601 v602 v603 v604) hy hm h0 hA
noncomputable def impl_areFactors_F : DFn := fun args L =>
  match args with
  | [.agg [.int .i64 v599, .int .i64 v600, a1], .agg [.int .i64 v602, .int .i64 v603, a2]] =>
    optT (rowF32 L a1) fun v601 =>
    optT (rowF32 L a2) fun v604 =>
    .call (impl_areFactors_g v599 v600 v601 v602 v603 v604) fun y => .leaf (.bool y, L)
  | _ => .fail
theorem impl_areFactors_Fok : COk Try.prog 76 impl_areFactors_F true := by
  intro F L H args r L' hs ha hr
  unfold impl_areFactors_F at hr
  split at hr
  · rename_i v599 v600 a1 v602 v603 a2
    obtain ⟨v601, hv601, hr⟩ := optT_run hr
    obtain ⟨v604, hv604, hr⟩ := optT_run hr
    simp only [Tree.run] at hr
    obtain ⟨y, hy, hr⟩ := Option.bind_eq_some_iff.1 hr
    simp only [Tree.run, Option.some.injEq, Prod.mk.injEq] at hr
    obtain ⟨rfl, rfl⟩ := hr
    exact call_ok0 hs (fun k => (([a1.av F, a2.av F] : List AV)[k]?).getD .top) [.agg [.int .i64 v599, .int .i64 v600, a1], .agg [.int .i64 v602, .int .i64 v603, a2]] [.agg [.int .i64 v599, .int .i64 v600, .bslc (BR.root 0) (.f32 v601)], .agg [.int .i64 v602, .int .i64 v603, .bslc (BR.root 1) (.f32 v604)]] (fun F' h0 hi hρ => ⟨by simp [DVs.av, DV.av, BR.av, hρ], impl_areFactors_fn v599 v600 v601 v602 v603 v604 F' (by rw [hi]; rfl) (st_nil hi) ⟨⟨trivial, trivial, bslc_ok hi (by rw [h0, hρ]; exact rowF32_ok hs (DVs.okAt (DVs.okAt ha 0 rfl) 2 rfl) hv601), trivial⟩, ⟨trivial, trivial, bslc_ok hi (by rw [h0, hρ]; exact rowF32_ok hs (DVs.okAt (DVs.okAt ha 1 rfl) 2 rfl) hv604), trivial⟩, trivial⟩ hy⟩) rfl
  · cases hr
/-! slices.Clone[list of float32,float32] -/
noncomputable def slices_CloneF_LO (v642 : List Nat) : LOr := fun id e L =>
  match id with
  | _ => .fail
noncomputable def slices_CloneF_tab : List (FuncId × DFn × Bool) := []
theorem slices_CloneF_hO : OrcOk Try.prog (tabD slices_CloneF_tab) (tabM slices_CloneF_tab) := tabD_nil _
noncomputable def slices_CloneF_T (v642 : List Nat) : Tree (Unit) :=
  (.grd (decide (0 < v642.length)) <|
  (.grd (fits (([] : List Nat) ++ v642).length) <|
  .leaf ()))

noncomputable def slices_CloneF_g (v642 : List Nat) : Option (Unit) := (slices_CloneF_T v642).run
def slices_CloneF_enc (v642 : List Nat) (y : Unit) : Rs := (.own 0 0 ((([] : List Nat) ++ v642).length), [.row (.f32 (([] : List Nat) ++ v642)) 0])
theorem slices_CloneF_den (v642 : List Nat) : (den TT (tabD slices_CloneF_tab) (tabM slices_CloneF_tab) (slices_CloneF_LO v642) (codeOf Try.f105) ([.bslc (BR.root 0) (.f32 v642)] ++ List.replicate (Try.f105.ntmps - ([.bslc (BR.root 0) (.f32 v642)] : List DV).length) .undef) []).bind (retD TT Try.f105.results.toList 0) = (slices_CloneF_T v642).bind fun y => .leaf (slices_CloneF_enc v642 y) := by kernel_rfl
theorem slices_CloneF_fn (v642 : List Nat) (F : Fr) (hm : F.ids.length = 0) (h0 : St F [] F.H0) (hA : DVs.Ok F [] [.bslc (BR.root 0) (.f32 v642)]) {y : Unit} (hy : slices_CloneF_g v642 = some y) : ∃ H', FnOk Try.prog 105 (DVs.av F [.bslc (BR.root 0) (.f32 v642)]) F.H0 ((slices_CloneF_enc v642 y).1.av F) H' ∧ St F (slices_CloneF_enc v642 y).2 H' ∧ (slices_CloneF_enc v642 y).1.Ok F (slices_CloneF_enc v642 y).2 :=
  fn_fin tok slices_CloneF_hO mixed Try.func105 Try.call105 (by kernel_rfl) (LoopsOk_eq (l := []) (by kernel_rfl) trivial) (slices_CloneF_den v642) hy hm h0 hA
noncomputable def slices_CloneF_F : DFn := fun args L =>
  match args with
  | [a1] =>
    optT (rowF32 L a1) fun v642 =>
    .call (slices_CloneF_g v642) fun y => .leaf (.own (L.length + 0) 0 ((([] : List Nat) ++ v642).length), L ++ [.row (.f32 (([] : List Nat) ++ v642)) 0])
  | _ => .fail
theorem slices_CloneF_Fok : COk Try.prog 105 slices_CloneF_F true := by
  intro F L H args r L' hs ha hr
  unfold slices_CloneF_F at hr
  split at hr
  · rename_i a1
    obtain ⟨v642, hv642, hr⟩ := optT_run hr
    simp only [Tree.run] at hr
    obtain ⟨y, hy, hr⟩ := Option.bind_eq_some_iff.1 hr
    simp only [Tree.run, Option.some.injEq, Prod.mk.injEq] at hr
    obtain ⟨rfl, rfl⟩ := hr
    exact call_ok1 hs (fun k => (([a1.av F] : List AV)[k]?).getD .top) [a1] [.bslc (BR.root 0) (.f32 v642)] (fun F' h0 hi hρ => ⟨by simp [DVs.av, DV.av, BR.av, hρ], slices_CloneF_fn v642 F' (by rw [hi]; rfl) (st_nil hi) ⟨bslc_ok hi (by rw [h0, hρ]; exact rowF32_ok hs (DVs.okAt ha 0 rfl) hv642), trivial⟩ hy⟩) rfl rfl
  · cases hr
/-! (impl.Matrix).row -/
noncomputable def impl_Matrix_row_LO (v638 : Int) (v639 : Int) (v640 : List Nat) (v641 : Int) : LOr := fun id e L =>
  match id with
  | _ => .fail
noncomputable def impl_Matrix_row_tab : List (FuncId × DFn × Bool) := [(105, slices_CloneF_F, true)]
theorem impl_Matrix_row_hO : OrcOk Try.prog (tabD impl_Matrix_row_tab) (tabM impl_Matrix_row_tab) := tabD_cons slices_CloneF_Fok (tabD_nil _)
noncomputable def impl_Matrix_row_T (v639 : Int) (v640 : List Nat) (v641 : Int) : Tree (Unit) :=
  (.grd (sok (IntKind.i64.wrap (v641 * v639)) (IntKind.i64.wrap ((IntKind.i64.wrap (v641 + (1 : Int))) * v639)) v640.length) <|
  (.call (slices_CloneF_g (AM.sub v640 (IntKind.i64.wrap (v641 * v639)) (IntKind.i64.wrap ((IntKind.i64.wrap (v641 + (1 : Int))) * v639)))) fun v643 =>
  .leaf ()))

noncomputable def impl_Matrix_row_g (v639 : Int) (v640 : List Nat) (v641 : Int) : Option (Unit) := (impl_Matrix_row_T v639 v640 v641).run
def impl_Matrix_row_enc (v638 : Int) (v639 : Int) (v640 : List Nat) (v641 : Int) (y : Unit) : Rs := (.own 0 0 ((([] : List Nat) ++ (AM.sub v640 (IntKind.i64.wrap (v641 * v639)) (IntKind.i64.wrap ((IntKind.i64.wrap (v641 + (1 : Int))) * v639)))).length), [.row (.f32 (([] : List Nat) ++ (AM.sub v640 (IntKind.i64.wrap (v641 * v639)) (IntKind.i64.wrap ((IntKind.i64.wrap (v641 + (1 : Int))) * v639))))) 0])
theorem impl_Matrix_row_den (v638 : Int) (v639 : Int) (v640 : List Nat) (v641 : Int) : (den TT (tabD impl_Matrix_row_tab) (tabM impl_Matrix_row_tab) (impl_Matrix_row_LO v638 v639 v640 v641) (codeOf Try.f80) ([.agg [.int .i64 v638, .int .i64 v639, .bslc (BR.root 0) (.f32 v640)], .int .i64 v641] ++ List.replicate (Try.f80.ntmps - ([.agg [.int .i64 v638, .int .i64 v639, .bslc (BR.root 0) (.f32 v640)], .int .i64 v641] : List DV).length) .undef) []).bind (retD TT Try.f80.results.toList 0) = (impl_Matrix_row_T v639 v640 v641).bind fun y => .leaf (impl_Matrix_row_enc v638 v639 v640 v641 y) := by kernel_rfl
theorem impl_Matrix_row_fn (v638 : Int) (v639 : Int) (v640 : List Nat) (v641 : Int) (F : Fr) (hm : F.ids.length = 0) (h0 : St F [] F.H0) (hA : DVs.Ok F [] [.agg [.int .i64 v638, .int .i64 v639, .bslc (BR.root 0) (.f32 v640)], .int .i64 v641]) {y : Unit} (hy : impl_Matrix_row_g v639 v640 v641 = some y) : ∃ H', FnOk Try.prog 80 (DVs.av F [.agg [.int .i64 v638, .int .i64 v639, .bslc (BR.root 0) (.f32 v640)], .int .i64 v641]) F.H0 ((impl_Matrix_row_enc v638 v639 v640 v641 y).1.av F) H' ∧ St F (impl_Matrix_row_enc v638 v639 v640 v641 y).2 H' ∧ (impl_Matrix_row_enc v638 v639 v640 v641 y).1.Ok F (impl_Matrix_row_enc v638 v639 v640 v641 y).2 :=
  fn_fin tok impl_Matrix_row_hO mixed Try.func80 Try.call80 (by kernel_rfl) (LoopsOk_eq (l := []) (by kernel_rfl) trivial) (impl_Matrix_row_den v638 v639 v640 v641) hy hm h0 hA
noncomputable def impl_Matrix_row_F : DFn := fun args L =>
  match args with
  | [.agg [.int .i64 v638, .int .i64 v639, a1], .int .i64 v641] =>
    optT (rowF32 L a1) fun v640 =>
    .call (impl_Matrix_row_g v639 v640 v641) fun y => .leaf (.own (L.length + 0) 0 ((([] : List Nat) ++ (AM.sub v640 (IntKind.i64.wrap (v641 * v639)) (IntKind.i64.wrap ((IntKind.i64.wrap (v641 + (1 : Int))) * v639)))).length), L ++ [.row (.f32 (([] : List Nat) ++ (AM.sub v640 (IntKind.i64.wrap (v641 * v639)) (IntKind.i64.wrap ((IntKind.i64.wrap (v641 + (1 : Int))) * v639))))) 0])
  | _ => .fail
theorem impl_Matrix_row_Fok : COk Try.prog 80 impl_Matrix_row_F true := by
  intro F L H args r L' hs ha hr
  unfold impl_Matrix_row_F at hr
  split at hr
  · rename_i v638 v639 a1 v641
    obtain ⟨v640, hv640, hr⟩ := optT_run hr
    simp only [Tree.run] at hr
    obtain ⟨y, hy, hr⟩ := Option.bind_eq_some_iff.1 hr
    simp only [Tree.run, Option.some.injEq, Prod.mk.injEq] at hr
    obtain ⟨rfl, rfl⟩ := hr
    exact call_ok1 hs (fun k => (([a1.av F] : List AV)[k]?).getD .top) [.agg [.int .i64 v638, .int .i64 v639, a1], .int .i64 v641] [.agg [.int .i64 v638, .int .i64 v639, .bslc (BR.root 0) (.f32 v640)], .int .i64 v641] (fun F' h0 hi hρ => ⟨by simp [DVs.av, DV.av, BR.av, hρ], impl_Matrix_row_fn v638 v639 v640 v641 F' (by rw [hi]; rfl) (st_nil hi) ⟨⟨trivial, trivial, bslc_ok hi (by rw [h0, hρ]; exact rowF32_ok hs (DVs.okAt (DVs.okAt ha 0 rfl) 2 rfl) hv640), trivial⟩, trivial, trivial⟩ hy⟩) rfl rfl
  · cases hr
/-! (impl.Matrix).column -/
noncomputable def impl_Matrix_column_l0_T (v645 : Int) (v646 : Int) (v647 : List Nat) (v648 : Int) (s : Int × (List Nat)) : Tree ((Int × (List Nat)) ⊕ ((List Nat))) :=
  (.br (decide (s.1 < v645)) (
   (.call (impl_Matrix_at_g v646 v647 s.1 v648) fun v656 =>
   (.grd (fits (s.2 ++ ([v656] : List Nat)).length) <|
   .leaf (.inl (IntKind.i64.wrap (s.1 + (1 : Int)), s.2 ++ ([v656] : List Nat)))))
  ) (
   .leaf (.inr s.2)
  ))

noncomputable def impl_Matrix_column_l0_g (v645 : Int) (v646 : Int) (v647 : List Nat) (v648 : Int) (s0 : Int × (List Nat)) : Option ((List Nat)) := whileM (fun s => (impl_Matrix_column_l0_T v645 v646 v647 v648 s).run) s0
def impl_Matrix_column_l0_E (v645 : Int) (v646 : Int) (v647 : List Nat) (v648 : Int) (s : Int × (List Nat)) : Sd := ([.top, .int .i64 v648, .ptr 0 (0 : Nat) 0 (3 : Nat), .top, .top, .own 1 0 ((s.2).length), .top, .top, .top, .int .i64 v645, .int .i64 s.1, .top, .top, .top, .top, .top, .top, .top, .top, .top, .top, .top], [.gen [.int .i64 v645, .int .i64 v646, .bslc (BR.root 0) (.f32 v647)] false 0, .row (.f32 s.2) 0])
def impl_Matrix_column_l0_X (v645 : Int) (v646 : Int) (v647 : List Nat) (v648 : Int) (x : (List Nat)) : Out := (.normal, [.top, .top, .top, .top, .top, .own 0 0 ((x).length), .top, .top, .top, .top, .top, .top, .top, .top, .top, .top, .top, .top, .top, .top, .top, .top], [.row (.f32 x) 0])
def impl_Matrix_column_l0_kill : List Nat := [1, 0, 0, 1, 1, 0, 1, 1, 1, 0, 0, 1, 1, 1, 1, 1, 1, 1, 1, 1, 1, 1]
def impl_Matrix_column_l0_nx : Exit → List Nat
  | .exit 0 => [1, 1, 1, 1, 1, 0, 1, 1, 1, 1, 1, 1, 1, 1, 1, 1, 1, 1, 1, 1, 1, 1]
  | .ret => [1, 1, 1, 1, 0, 1, 1, 1, 1, 1, 1, 1, 1, 1, 1, 1, 1, 1, 1, 1, 1, 1]
  | _ => []
noncomputable def impl_Matrix_column_LO (v645 : Int) (v646 : Int) (v647 : List Nat) (v648 : Int) : LOr := fun id e L =>
  match id with
  | 0 => .need (normA 0 impl_Matrix_column_l0_kill e L = some (impl_Matrix_column_l0_E v645 v646 v647 v648 ((gI (vAt e 10)), (gRF L (vAt e 5))))) (.call (impl_Matrix_column_l0_g v645 v646 v647 v648 ((gI (vAt e 10)), (gRF L (vAt e 5)))) fun x => .leaf (impl_Matrix_column_l0_X v645 v646 v647 v648 x))
  | _ => .fail
noncomputable def impl_Matrix_column_tab : List (FuncId × DFn × Bool) := [(64, impl_Matrix_at_F, true)]
theorem impl_Matrix_column_hO : OrcOk Try.prog (tabD impl_Matrix_column_tab) (tabM impl_Matrix_column_tab) := tabD_cons impl_Matrix_at_Fok (tabD_nil _)
theorem impl_Matrix_column_l0_be (v645 : Int) (v646 : Int) (v647 : List Nat) (v648 : Int) (s : Int × (List Nat)) : bodyT TT (tabD impl_Matrix_column_tab) (tabM impl_Matrix_column_tab) (impl_Matrix_column_LO v645 v646 v647 v648) 0 impl_Matrix_column_l0_kill impl_Matrix_column_l0_nx (bodyOf Try.f81 0) 0 (impl_Matrix_column_l0_E v645 v646 v647 v648 s) = (impl_Matrix_column_l0_T v645 v646 v647 v648 s).bind fun y => .leaf (outS (impl_Matrix_column_l0_E v645 v646 v647 v648) (impl_Matrix_column_l0_X v645 v646 v647 v648) y) := by kernel_rfl
theorem impl_Matrix_column_l0_ok (v645 : Int) (v646 : Int) (v647 : List Nat) (v648 : Int) : LSound Try.prog 0 (impl_Matrix_column_LO v645 v646 v647 v648) 0 (bodyOf Try.f81 0) := by
  intro e L out h
  exact lo_ok (E := impl_Matrix_column_l0_E v645 v646 v647 v648) (gT := impl_Matrix_column_l0_T v645 v646 v647 v648) (X := impl_Matrix_column_l0_X v645 v646 v647 v648) (s0 := ((gI (vAt e 10)), (gRF L (vAt e 5)))) tok impl_Matrix_column_hO mixed (LoopsOk_eq (l := []) (by kernel_rfl) trivial) (impl_Matrix_column_l0_be v645 v646 v647 v648) rfl (by intro x; rfl) h
noncomputable def impl_Matrix_column_T (v645 : Int) (v646 : Int) (v647 : List Nat) (v648 : Int) : Tree ((List Nat)) :=
  (.need (some (impl_Matrix_column_l0_E v645 v646 v647 v648 ((0 : Int), ([] : List Nat))) = some (impl_Matrix_column_l0_E v645 v646 v647 v648 ((0 : Int), ([] : List Nat)))) <|
  (.call (impl_Matrix_column_l0_g v645 v646 v647 v648 ((0 : Int), ([] : List Nat))) fun v657 =>
  .leaf v657))

noncomputable def impl_Matrix_column_g (v645 : Int) (v646 : Int) (v647 : List Nat) (v648 : Int) : Option ((List Nat)) := (impl_Matrix_column_T v645 v646 v647 v648).run
def impl_Matrix_column_enc (v645 : Int) (v646 : Int) (v647 : List Nat) (v648 : Int) (y : (List Nat)) : Rs := (.own 0 0 ((y).length), [.row (.f32 y) 0])
theorem impl_Matrix_column_den (v645 : Int) (v646 : Int) (v647 : List Nat) (v648 : Int) : (den TT (tabD impl_Matrix_column_tab) (tabM impl_Matrix_column_tab) (impl_Matrix_column_LO v645 v646 v647 v648) (codeOf Try.f81) ([.agg [.int .i64 v645, .int .i64 v646, .bslc (BR.root 0) (.f32 v647)], .int .i64 v648] ++ List.replicate (Try.f81.ntmps - ([.agg [.int .i64 v645, .int .i64 v646, .bslc (BR.root 0) (.f32 v647)], .int .i64 v648] : List DV).length) .undef) []).bind (retD TT Try.f81.results.toList 0) = (impl_Matrix_column_T v645 v646 v647 v648).bind fun y => .leaf (impl_Matrix_column_enc v645 v646 v647 v648 y) := by kernel_rfl
theorem impl_Matrix_column_fn (v645 : Int) (v646 : Int) (v647 : List Nat) (v648 : Int) (F : Fr) (hm : F.ids.length = 0) (h0 : St F [] F.H0) (hA : DVs.Ok F [] [.agg [.int .i64 v645, .int .i64 v646, .bslc (BR.root 0) (.f32 v647)], .int .i64 v648]) {y : (List Nat)} (hy : impl_Matrix_column_g v645 v646 v647 v648 = some y) : ∃ H', FnOk Try.prog 81 (DVs.av F [.agg [.int .i64 v645, .int .i64 v646, .bslc (BR.root 0) (.f32 v647)], .int .i64 v648]) F.H0 ((impl_Matrix_column_enc v645 v646 v647 v648 y).1.av F) H' ∧ St F (impl_Matrix_column_enc v645 v646 v647 v648 y).2 H' ∧ (impl_Matrix_column_enc v645 v646 v647 v648 y).1.Ok F (impl_Matrix_column_enc v645 v646 v647 v648 y).2 :=
  fn_fin tok impl_Matrix_column_hO mixed Try.func81 Try.call81 (by kernel_rfl) (LoopsOk_eq (l := [(0, bodyOf Try.f81 0)]) (by kernel_rfl) ⟨impl_Matrix_column_l0_ok v645 v646 v647 v648, trivial⟩) (impl_Matrix_column_den v645 v646 v647 v648) hy hm h0 hA
noncomputable def impl_Matrix_column_F : DFn := fun args L =>
  match args with
  | [.agg [.int .i64 v645, .int .i64 v646, a1], .int .i64 v648] =>
    optT (rowF32 L a1) fun v647 =>
    .call (impl_Matrix_column_g v645 v646 v647 v648) fun y => .leaf (.own (L.length + 0) 0 ((y).length), L ++ [.row (.f32 y) 0])
  | _ => .fail
theorem impl_Matrix_column_Fok : COk Try.prog 81 impl_Matrix_column_F true := by
  intro F L H args r L' hs ha hr
  unfold impl_Matrix_column_F at hr
  split at hr
  · rename_i v645 v646 a1 v648
    obtain ⟨v647, hv647, hr⟩ := optT_run hr
    simp only [Tree.run] at hr
    obtain ⟨y, hy, hr⟩ := Option.bind_eq_some_iff.1 hr
    simp only [Tree.run, Option.some.injEq, Prod.mk.injEq] at hr
    obtain ⟨rfl, rfl⟩ := hr
    exact call_ok1 hs (fun k => (([a1.av F] : List AV)[k]?).getD .top) [.agg [.int .i64 v645, .int .i64 v646, a1], .int .i64 v648] [.agg [.int .i64 v645, .int .i64 v646, .bslc (BR.root 0) (.f32 v647)], .int .i64 v648] (fun F' h0 hi hρ => ⟨by simp [DVs.av, DV.av, BR.av, hρ], impl_Matrix_column_fn v645 v646 v647 v648 F' (by rw [hi]; rfl) (st_nil hi) ⟨⟨trivial, trivial, bslc_ok hi (by rw [h0, hρ]; exact rowF32_ok hs (DVs.okAt (DVs.okAt ha 0 rfl) 2 rfl) hv647), trivial⟩, trivial, trivial⟩ hy⟩) rfl rfl
  · cases hr
/-! impl.product$1 -/
noncomputable def impl_product_1_LO (v630 : Int) (v631 : Int) (v632 : Int) (v633 : Int) (v634 : List Nat) (v635 : Int) (v636 : Int) (v637 : List Nat) : LOr := fun id e L =>
  match id with
  | _ => .fail
noncomputable def impl_product_1_tab : List (FuncId × DFn × Bool) := [(80, impl_Matrix_row_F, true), (81, impl_Matrix_column_F, true), (82, impl_dot_F, true)]
theorem impl_product_1_hO : OrcOk Try.prog (tabD impl_product_1_tab) (tabM impl_product_1_tab) := tabD_cons impl_Matrix_row_Fok (tabD_cons impl_Matrix_column_Fok (tabD_cons impl_dot_Fok (tabD_nil _)))
noncomputable def impl_product_1_T (v630 : Int) (v631 : Int) (v633 : Int) (v634 : List Nat) (v635 : Int) (v636 : Int) (v637 : List Nat) : Tree (Nat) :=
  (.call (impl_Matrix_row_g v633 v634 v630) fun v644 =>
  (.call (impl_Matrix_column_g v635 v636 v637 v631) fun v658 =>
  (.call (impl_dot_g (([] : List Nat) ++ (AM.sub v634 (IntKind.i64.wrap (v630 * v633)) (IntKind.i64.wrap ((IntKind.i64.wrap (v630 + (1 : Int))) * v633)))) v658) fun v659 =>
  .leaf v659)))

noncomputable def impl_product_1_g (v630 : Int) (v631 : Int) (v633 : Int) (v634 : List Nat) (v635 : Int) (v636 : Int) (v637 : List Nat) : Option (Nat) := (impl_product_1_T v630 v631 v633 v634 v635 v636 v637).run
def impl_product_1_enc (v630 : Int) (v631 : Int) (v632 : Int) (v633 : Int) (v634 : List Nat) (v635 : Int) (v636 : Int) (v637 : List Nat) (y : Nat) : Rs := (.flt .f32 y, [])
theorem impl_product_1_den (v630 : Int) (v631 : Int) (v632 : Int) (v633 : Int) (v634 : List Nat) (v635 : Int) (v636 : Int) (v637 : List Nat) : (den TT (tabD impl_product_1_tab) (tabM impl_product_1_tab) (impl_product_1_LO v630 v631 v632 v633 v634 v635 v636 v637) (codeOf Try.f169) ([.int .i64 v630, .int .i64 v631, .bptr (BR.root 0) [.int .i64 v632, .int .i64 v633, .bslc (BR.root 1) (.f32 v634)], .bptr (BR.root 2) [.int .i64 v635, .int .i64 v636, .bslc (BR.root 3) (.f32 v637)]] ++ List.replicate (Try.f169.ntmps - ([.int .i64 v630, .int .i64 v631, .bptr (BR.root 0) [.int .i64 v632, .int .i64 v633, .bslc (BR.root 1) (.f32 v634)], .bptr (BR.root 2) [.int .i64 v635, .int .i64 v636, .bslc (BR.root 3) (.f32 v637)]] : List DV).length) .undef) []).bind (retD TT Try.f169.results.toList 0) = (impl_product_1_T v630 v631 v633 v634 v635 v636 v637).bind fun y => .leaf (impl_product_1_enc v630 v631 v632 v633 v634 v635 v636 v637 y) := by kernel_rfl
theorem impl_product_1_fn (v630 : Int) (v631 : Int) (v632 : Int) (v633 : Int) (v634 : List Nat) (v635 : Int) (v636 : Int) (v637 : List Nat) (F : Fr) (hm : F.ids.length = 0) (h0 : St F [] F.H0) (hA : DVs.Ok F [] [.int .i64 v630, .int .i64 v631, .bptr (BR.root 0) [.int .i64 v632, .int .i64 v633, .bslc (BR.root 1) (.f32 v634)], .bptr (BR.root 2) [.int .i64 v635, .int .i64 v636, .bslc (BR.root 3) (.f32 v637)]]) {y : Nat} (hy : impl_product_1_g v630 v631 v633 v634 v635 v636 v637 = some y) : ∃ H', FnOk Try.prog 169 (DVs.av F [.int .i64 v630, .int .i64 v631, .bptr (BR.root 0) [.int .i64 v632, .int .i64 v633, .bslc (BR.root 1) (.f32 v634)], .bptr (BR.root 2) [.int .i64 v635, .int .i64 v636, .bslc (BR.root 3) (.f32 v637)]]) F.H0 ((impl_product_1_enc v630 v631 v632 v633 v634 v635 v636 v637 y).1.av F) H' ∧ St F (impl_product_1_enc v630 v631 v632 v633 v634 v635 v636 v637 y).2 H' ∧ (impl_product_1_enc v630 v631 v632 v633 v634 v635 v636 v637 y).1.Ok F (impl_product_1_enc v630 v631 v632 v633 v634 v635 v636 v637 y).2 :=
  fn_fin tok impl_product_1_hO mixed Try.func169 Try.call169 (by kernel_rfl) (LoopsOk_eq (l := []) (by kernel_rfl) trivial) (impl_product_1_den v630 v631 v632 v633 v634 v635 v636 v637) hy hm h0 hA
noncomputable def impl_product_1_F : DFn := fun args L =>
  match args with
  | [.int .i64 v630, .int .i64 v631, a1, a3] =>
    optT (cellsOf L 3 a1) fun cs0 =>
    (match cs0 with
    | [.int .i64 v632, .int .i64 v633, a2] =>
    optT (rowF32 L a2) fun v634 =>
    optT (cellsOf L 3 a3) fun cs2 =>
    (match cs2 with
    | [.int .i64 v635, .int .i64 v636, a4] =>
    optT (rowF32 L a4) fun v637 =>
    .call (impl_product_1_g v630 v631 v633 v634 v635 v636 v637) fun y => .leaf (.flt .f32 y, L)
    | _ => .fail)
    | _ => .fail)
  | _ => .fail
theorem impl_product_1_Fok : COk Try.prog 169 impl_product_1_F true := by
  intro F L H args r L' hs ha hr
  unfold impl_product_1_F at hr
  split at hr
  · rename_i v630 v631 a1 a3
    obtain ⟨cs0, hcp0, hr⟩ := optT_run hr
    split at hr
    · rename_i v632 v633 a2
      obtain ⟨v634, hv634, hr⟩ := optT_run hr
      obtain ⟨cs2, hcp2, hr⟩ := optT_run hr
      split at hr
      · rename_i v635 v636 a4
        obtain ⟨v637, hv637, hr⟩ := optT_run hr
        simp only [Tree.run] at hr
        obtain ⟨y, hy, hr⟩ := Option.bind_eq_some_iff.1 hr
        simp only [Tree.run, Option.some.injEq, Prod.mk.injEq] at hr
        obtain ⟨rfl, rfl⟩ := hr
        exact call_ok0 hs (fun k => (([a1.av F, a2.av F, a3.av F, a4.av F] : List AV)[k]?).getD .top) [.int .i64 v630, .int .i64 v631, a1, a3] [.int .i64 v630, .int .i64 v631, .bptr (BR.root 0) [.int .i64 v632, .int .i64 v633, .bslc (BR.root 1) (.f32 v634)], .bptr (BR.root 2) [.int .i64 v635, .int .i64 v636, .bslc (BR.root 3) (.f32 v637)]] (fun F' h0 hi hρ => ⟨by simp [DVs.av, DV.av, BR.av, hρ], impl_product_1_fn v630 v631 v632 v633 v634 v635 v636 v637 F' (by rw [hi]; rfl) (st_nil hi) ⟨trivial, trivial, bptr_ok hi (by rw [h0]; simpa [DVs.av, DV.av, BR.av, hρ] using (cellsOf_ok hs (DVs.okAt ha 2 rfl) hcp0).1) ⟨trivial, trivial, bslc_ok hi (by rw [h0, hρ]; exact rowF32_ok hs (DVs.okAt (cellsOf_ok hs (DVs.okAt ha 2 rfl) hcp0).2 2 rfl) hv634), trivial⟩, bptr_ok hi (by rw [h0]; simpa [DVs.av, DV.av, BR.av, hρ] using (cellsOf_ok hs (DVs.okAt ha 3 rfl) hcp2).1) ⟨trivial, trivial, bslc_ok hi (by rw [h0, hρ]; exact rowF32_ok hs (DVs.okAt (cellsOf_ok hs (DVs.okAt ha 3 rfl) hcp2).2 2 rfl) hv637), trivial⟩, trivial⟩ hy⟩) rfl
      · cases hr
    · cases hr
  · cases hr
/-! impl.made -/
noncomputable def impl_made_i2_l2_T (v615 : Int) (v617 : Int) (v618 : List Nat) (v619 : Int) (v620 : Int) (v621 : List Nat) (v721 : Int) (v723 : Int) (v724 : Int) (s : Int × (List Nat)) : Tree ((Int × (List Nat)) ⊕ ((List Nat))) :=
  (.br (decide (s.1 < v615)) (
   (.call (impl_product_1_g v721 s.1 v617 v618 v619 v620 v621) fun v726 =>
   (.call (impl_Matrix_set_g v724 s.2 v721 s.1) fun v727 =>
   (.grd (decide ((List.set s.2 (Int.toNat (IntKind.i64.wrap ((IntKind.i64.wrap (v721 * v724)) + s.1))) v726).length = s.2.length)) <|
   .leaf (.inl (IntKind.i64.wrap (s.1 + (1 : Int)), List.set s.2 (Int.toNat (IntKind.i64.wrap ((IntKind.i64.wrap (v721 * v724)) + s.1))) v726)))))
  ) (
   .leaf (.inr s.2)
  ))

noncomputable def impl_made_i2_l2_g (v615 : Int) (v617 : Int) (v618 : List Nat) (v619 : Int) (v620 : Int) (v621 : List Nat) (v721 : Int) (v723 : Int) (v724 : Int) (s0 : Int × (List Nat)) : Option ((List Nat)) := whileM (fun s => (impl_made_i2_l2_T v615 v617 v618 v619 v620 v621 v721 v723 v724 s).run) s0
def impl_made_i2_l2_E (v614 : Int) (v615 : Int) (v616 : Int) (v617 : Int) (v618 : List Nat) (v619 : Int) (v620 : Int) (v621 : List Nat) (v721 : Int) (v723 : Int) (v724 : Int) (s : Int × (List Nat)) : Sd := ([.top, .int .i64 v615, .fn 169 [.bptr (BR.root 0) [.int .i64 v616, .int .i64 v617, .bslc (BR.root 1) (.f32 v618)], .bptr (BR.root 2) [.int .i64 v619, .int .i64 v620, .bslc (BR.root 3) (.f32 v621)]], .top, .top, .top, .ptr 0 (0 : Nat) 0 (3 : Nat), .ptr 1 (0 : Nat) 0 (3 : Nat), .int .i64 v721, .top, .top, .top, .top, .int .i64 v614, .int .i64 v721, .top, .top, .int .i64 v615, .int .i64 s.1, .top, .top, .top, .top, .top, .top, .top, .top, .top, .top, .top, .top, .top], [.gen [.int .i64 (0 : Int), .int .i64 (0 : Int), .nilslc] false 0, .gen [.int .i64 v723, .int .i64 v724, .own 2 0 ((s.2).length)] false 0, .row (.f32 s.2) 0])
def impl_made_i2_l2_X (v614 : Int) (v615 : Int) (v616 : Int) (v617 : Int) (v618 : List Nat) (v619 : Int) (v620 : Int) (v621 : List Nat) (v721 : Int) (v723 : Int) (v724 : Int) (x : (List Nat)) : Out := (.normal, [.top, .int .i64 v615, .fn 169 [.bptr (BR.root 0) [.int .i64 v616, .int .i64 v617, .bslc (BR.root 1) (.f32 v618)], .bptr (BR.root 2) [.int .i64 v619, .int .i64 v620, .bslc (BR.root 3) (.f32 v621)]], .top, .top, .top, .ptr 0 (0 : Nat) 0 (3 : Nat), .ptr 1 (0 : Nat) 0 (3 : Nat), .top, .top, .top, .top, .top, .int .i64 v614, .int .i64 v721, .top, .top, .top, .top, .top, .top, .top, .top, .top, .top, .top, .top, .top, .top, .top, .top, .top], [.gen [.int .i64 (0 : Int), .int .i64 (0 : Int), .nilslc] false 0, .gen [.int .i64 v723, .int .i64 v724, .own 2 0 ((x).length)] false 0, .row (.f32 x) 0])
def impl_made_i2_l2_kill : List Nat := [1, 0, 0, 1, 1, 1, 0, 0, 0, 1, 1, 1, 1, 0, 0, 1, 1, 0, 0, 1, 1, 1, 1, 1, 1, 1, 1, 1, 1, 1, 1, 1]
def impl_made_i2_l2_nx : Exit → List Nat
  | .exit 0 => [1, 1, 1, 1, 1, 1, 0, 0, 1, 1, 1, 1, 1, 1, 1, 1, 1, 1, 1, 1, 1, 1, 1, 1, 1, 1, 1, 1, 1, 1, 1, 1]
  | .exit 1 => [1, 0, 0, 1, 1, 1, 0, 0, 1, 1, 1, 1, 1, 0, 0, 1, 1, 1, 1, 1, 1, 1, 1, 1, 1, 1, 1, 1, 1, 1, 1, 1]
  | .exit 2 => [1, 0, 0, 1, 1, 1, 0, 0, 1, 1, 1, 1, 1, 0, 0, 1, 1, 1, 1, 1, 1, 1, 1, 1, 1, 1, 1, 1, 1, 1, 1, 1]
  | .ret => [1, 1, 1, 1, 1, 1, 0, 1, 1, 1, 1, 1, 1, 1, 1, 1, 1, 1, 1, 1, 1, 1, 1, 1, 1, 1, 1, 1, 1, 1, 1, 1]
  | _ => []
noncomputable def impl_made_i2_l0_T (v614 : Int) (v615 : Int) (v616 : Int) (v617 : Int) (v618 : List Nat) (v619 : Int) (v620 : Int) (v621 : List Nat) (v704 : Int) (v705 : Int) (s : Int × (List Nat)) : Tree ((Int × (List Nat)) ⊕ ((List Nat))) :=
  (.br (decide (s.1 < v614)) (
   (.need (some (impl_made_i2_l2_E v614 v615 v616 v617 v618 v619 v620 v621 s.1 v704 v705 ((0 : Int), s.2)) = some (impl_made_i2_l2_E v614 v615 v616 v617 v618 v619 v620 v621 s.1 v704 v705 ((0 : Int), s.2))) <|
   (.call (impl_made_i2_l2_g v615 v617 v618 v619 v620 v621 s.1 v704 v705 ((0 : Int), s.2)) fun v728 =>
   .leaf (.inl (IntKind.i64.wrap (s.1 + (1 : Int)), v728))))
  ) (
   .leaf (.inr s.2)
  ))

noncomputable def impl_made_i2_l0_g (v614 : Int) (v615 : Int) (v616 : Int) (v617 : Int) (v618 : List Nat) (v619 : Int) (v620 : Int) (v621 : List Nat) (v704 : Int) (v705 : Int) (s0 : Int × (List Nat)) : Option ((List Nat)) := whileM (fun s => (impl_made_i2_l0_T v614 v615 v616 v617 v618 v619 v620 v621 v704 v705 s).run) s0
def impl_made_i2_l0_E (v614 : Int) (v615 : Int) (v616 : Int) (v617 : Int) (v618 : List Nat) (v619 : Int) (v620 : Int) (v621 : List Nat) (v704 : Int) (v705 : Int) (s : Int × (List Nat)) : Sd := ([.top, .int .i64 v615, .fn 169 [.bptr (BR.root 0) [.int .i64 v616, .int .i64 v617, .bslc (BR.root 1) (.f32 v618)], .bptr (BR.root 2) [.int .i64 v619, .int .i64 v620, .bslc (BR.root 3) (.f32 v621)]], .top, .top, .top, .ptr 0 (0 : Nat) 0 (3 : Nat), .ptr 1 (0 : Nat) 0 (3 : Nat), .top, .top, .top, .top, .top, .int .i64 v614, .int .i64 s.1, .top, .top, .top, .top, .top, .top, .top, .top, .top, .top, .top, .top, .top, .top, .top, .top, .top], [.gen [.int .i64 (0 : Int), .int .i64 (0 : Int), .nilslc] false 0, .gen [.int .i64 v704, .int .i64 v705, .own 2 0 ((s.2).length)] false 0, .row (.f32 s.2) 0])
def impl_made_i2_l0_X (v614 : Int) (v615 : Int) (v616 : Int) (v617 : Int) (v618 : List Nat) (v619 : Int) (v620 : Int) (v621 : List Nat) (v704 : Int) (v705 : Int) (x : (List Nat)) : Out := (.normal, [.top, .top, .top, .top, .top, .top, .ptr 0 (0 : Nat) 0 (3 : Nat), .ptr 1 (0 : Nat) 0 (3 : Nat), .top, .top, .top, .top, .top, .top, .top, .top, .top, .top, .top, .top, .top, .top, .top, .top, .top, .top, .top, .top, .top, .top, .top, .top], [.gen [.int .i64 (0 : Int), .int .i64 (0 : Int), .nilslc] false 0, .gen [.int .i64 v704, .int .i64 v705, .own 2 0 ((x).length)] false 0, .row (.f32 x) 0])
def impl_made_i2_l0_kill : List Nat := [1, 0, 0, 1, 1, 1, 0, 0, 1, 1, 1, 1, 1, 0, 0, 1, 1, 1, 1, 1, 1, 1, 1, 1, 1, 1, 1, 1, 1, 1, 1, 1]
def impl_made_i2_l0_nx : Exit → List Nat
  | .exit 0 => [1, 1, 1, 1, 1, 1, 0, 0, 1, 1, 1, 1, 1, 1, 1, 1, 1, 1, 1, 1, 1, 1, 1, 1, 1, 1, 1, 1, 1, 1, 1, 1]
  | .ret => [1, 1, 1, 1, 1, 1, 0, 1, 1, 1, 1, 1, 1, 1, 1, 1, 1, 1, 1, 1, 1, 1, 1, 1, 1, 1, 1, 1, 1, 1, 1, 1]
  | _ => []
noncomputable def impl_made_i2_LO (v614 : Int) (v615 : Int) (v616 : Int) (v617 : Int) (v618 : List Nat) (v619 : Int) (v620 : Int) (v621 : List Nat) : LOr := fun id e L =>
  match id with
  | 2 => .need (normA 0 impl_made_i2_l2_kill e L = some (impl_made_i2_l2_E v614 v615 v616 v617 v618 v619 v620 v621 (gI (vAt e 8)) (gI (cAt L (vAt e 7) 0)) (gI (cAt L (vAt e 7) 1)) ((gI (vAt e 18)), (gRF L (cAt L (vAt e 7) 2))))) (.call (impl_made_i2_l2_g v615 v617 v618 v619 v620 v621 (gI (vAt e 8)) (gI (cAt L (vAt e 7) 0)) (gI (cAt L (vAt e 7) 1)) ((gI (vAt e 18)), (gRF L (cAt L (vAt e 7) 2)))) fun x => .leaf (impl_made_i2_l2_X v614 v615 v616 v617 v618 v619 v620 v621 (gI (vAt e 8)) (gI (cAt L (vAt e 7) 0)) (gI (cAt L (vAt e 7) 1)) x))
  | 0 => .need (normA 0 impl_made_i2_l0_kill e L = some (impl_made_i2_l0_E v614 v615 v616 v617 v618 v619 v620 v621 (gI (cAt L (vAt e 7) 0)) (gI (cAt L (vAt e 7) 1)) ((gI (vAt e 14)), (gRF L (cAt L (vAt e 7) 2))))) (.call (impl_made_i2_l0_g v614 v615 v616 v617 v618 v619 v620 v621 (gI (cAt L (vAt e 7) 0)) (gI (cAt L (vAt e 7) 1)) ((gI (vAt e 14)), (gRF L (cAt L (vAt e 7) 2)))) fun x => .leaf (impl_made_i2_l0_X v614 v615 v616 v617 v618 v619 v620 v621 (gI (cAt L (vAt e 7) 0)) (gI (cAt L (vAt e 7) 1)) x))
  | _ => .fail
noncomputable def impl_made_i2_tab : List (FuncId × DFn × Bool) := [(117, impl_newMatrix_F, true), (169, impl_product_1_F, true), (66, impl_Matrix_set_F, false)]
theorem impl_made_i2_hO : OrcOk Try.prog (tabD impl_made_i2_tab) (tabM impl_made_i2_tab) := tabD_cons impl_newMatrix_Fok (tabD_cons impl_product_1_Fok (tabD_cons impl_Matrix_set_Fok (tabD_nil _)))
theorem impl_made_i2_l2_be (v614 : Int) (v615 : Int) (v616 : Int) (v617 : Int) (v618 : List Nat) (v619 : Int) (v620 : Int) (v621 : List Nat) (v721 : Int) (v723 : Int) (v724 : Int) (s : Int × (List Nat)) : bodyT TT (tabD impl_made_i2_tab) (tabM impl_made_i2_tab) (impl_made_i2_LO v614 v615 v616 v617 v618 v619 v620 v621) 0 impl_made_i2_l2_kill impl_made_i2_l2_nx (bodyOf Try.f78 2) 2 (impl_made_i2_l2_E v614 v615 v616 v617 v618 v619 v620 v621 v721 v723 v724 s) = (impl_made_i2_l2_T v615 v617 v618 v619 v620 v621 v721 v723 v724 s).bind fun y => .leaf (outS (impl_made_i2_l2_E v614 v615 v616 v617 v618 v619 v620 v621 v721 v723 v724) (impl_made_i2_l2_X v614 v615 v616 v617 v618 v619 v620 v621 v721 v723 v724) y) := by kernel_rfl
theorem impl_made_i2_l2_ok (v614 : Int) (v615 : Int) (v616 : Int) (v617 : Int) (v618 : List Nat) (v619 : Int) (v620 : Int) (v621 : List Nat) : LSound Try.prog 0 (impl_made_i2_LO v614 v615 v616 v617 v618 v619 v620 v621) 2 (bodyOf Try.f78 2) := by
  intro e L out h
  exact lo_ok (E := impl_made_i2_l2_E v614 v615 v616 v617 v618 v619 v620 v621 (gI (vAt e 8)) (gI (cAt L (vAt e 7) 0)) (gI (cAt L (vAt e 7) 1))) (gT := impl_made_i2_l2_T v615 v617 v618 v619 v620 v621 (gI (vAt e 8)) (gI (cAt L (vAt e 7) 0)) (gI (cAt L (vAt e 7) 1))) (X := impl_made_i2_l2_X v614 v615 v616 v617 v618 v619 v620 v621 (gI (vAt e 8)) (gI (cAt L (vAt e 7) 0)) (gI (cAt L (vAt e 7) 1))) (s0 := ((gI (vAt e 18)), (gRF L (cAt L (vAt e 7) 2)))) tok impl_made_i2_hO mixed (LoopsOk_eq (l := []) (by kernel_rfl) trivial) (impl_made_i2_l2_be v614 v615 v616 v617 v618 v619 v620 v621 (gI (vAt e 8)) (gI (cAt L (vAt e 7) 0)) (gI (cAt L (vAt e 7) 1))) rfl (by intro x; rfl) h
theorem impl_made_i2_l0_be (v614 : Int) (v615 : Int) (v616 : Int) (v617 : Int) (v618 : List Nat) (v619 : Int) (v620 : Int) (v621 : List Nat) (v704 : Int) (v705 : Int) (s : Int × (List Nat)) : bodyT TT (tabD impl_made_i2_tab) (tabM impl_made_i2_tab) (impl_made_i2_LO v614 v615 v616 v617 v618 v619 v620 v621) 0 impl_made_i2_l0_kill impl_made_i2_l0_nx (bodyOf Try.f78 0) 0 (impl_made_i2_l0_E v614 v615 v616 v617 v618 v619 v620 v621 v704 v705 s) = (impl_made_i2_l0_T v614 v615 v616 v617 v618 v619 v620 v621 v704 v705 s).bind fun y => .leaf (outS (impl_made_i2_l0_E v614 v615 v616 v617 v618 v619 v620 v621 v704 v705) (impl_made_i2_l0_X v614 v615 v616 v617 v618 v619 v620 v621 v704 v705) y) := by kernel_rfl
theorem impl_made_i2_l0_ok (v614 : Int) (v615 : Int) (v616 : Int) (v617 : Int) (v618 : List Nat) (v619 : Int) (v620 : Int) (v621 : List Nat) : LSound Try.prog 0 (impl_made_i2_LO v614 v615 v616 v617 v618 v619 v620 v621) 0 (bodyOf Try.f78 0) := by
  intro e L out h
  exact lo_ok (E := impl_made_i2_l0_E v614 v615 v616 v617 v618 v619 v620 v621 (gI (cAt L (vAt e 7) 0)) (gI (cAt L (vAt e 7) 1))) (gT := impl_made_i2_l0_T v614 v615 v616 v617 v618 v619 v620 v621 (gI (cAt L (vAt e 7) 0)) (gI (cAt L (vAt e 7) 1))) (X := impl_made_i2_l0_X v614 v615 v616 v617 v618 v619 v620 v621 (gI (cAt L (vAt e 7) 0)) (gI (cAt L (vAt e 7) 1))) (s0 := ((gI (vAt e 14)), (gRF L (cAt L (vAt e 7) 2)))) tok impl_made_i2_hO mixed (LoopsOk_eq (l := [(2, bodyOf Try.f78 2)]) (by kernel_rfl) ⟨impl_made_i2_l2_ok v614 v615 v616 v617 v618 v619 v620 v621, trivial⟩) (impl_made_i2_l0_be v614 v615 v616 v617 v618 v619 v620 v621 (gI (cAt L (vAt e 7) 0)) (gI (cAt L (vAt e 7) 1))) rfl (by intro x; rfl) h
noncomputable def impl_made_i2_T (v614 : Int) (v615 : Int) (v616 : Int) (v617 : Int) (v618 : List Nat) (v619 : Int) (v620 : Int) (v621 : List Nat) : Tree (Int × Int × (List Nat)) :=
  (.call (impl_newMatrix_g v614 v615) fun v622 =>
  (.need (some (impl_made_i2_l0_E v614 v615 v616 v617 v618 v619 v620 v621 v622.1 v622.2 ((0 : Int), List.replicate (Int.toNat (IntKind.i64.wrap (v614 * v615))) (0 : Nat))) = some (impl_made_i2_l0_E v614 v615 v616 v617 v618 v619 v620 v621 v622.1 v622.2 ((0 : Int), List.replicate (Int.toNat (IntKind.i64.wrap (v614 * v615))) (0 : Nat)))) <|
  (.call (impl_made_i2_l0_g v614 v615 v616 v617 v618 v619 v620 v621 v622.1 v622.2 ((0 : Int), List.replicate (Int.toNat (IntKind.i64.wrap (v614 * v615))) (0 : Nat))) fun v729 =>
  .leaf (v622.1, v622.2, v729))))

noncomputable def impl_made_i2_g (v614 : Int) (v615 : Int) (v616 : Int) (v617 : Int) (v618 : List Nat) (v619 : Int) (v620 : Int) (v621 : List Nat) : Option (Int × Int × (List Nat)) := (impl_made_i2_T v614 v615 v616 v617 v618 v619 v620 v621).run
def impl_made_i2_enc (v614 : Int) (v615 : Int) (v616 : Int) (v617 : Int) (v618 : List Nat) (v619 : Int) (v620 : Int) (v621 : List Nat) (y : Int × Int × (List Nat)) : Rs := (.agg [.int .i64 y.1, .int .i64 y.2.1, .own 0 0 ((y.2.2).length)], [.row (.f32 y.2.2) 0])
theorem impl_made_i2_den (v614 : Int) (v615 : Int) (v616 : Int) (v617 : Int) (v618 : List Nat) (v619 : Int) (v620 : Int) (v621 : List Nat) : (den TT (tabD impl_made_i2_tab) (tabM impl_made_i2_tab) (impl_made_i2_LO v614 v615 v616 v617 v618 v619 v620 v621) (codeOf Try.f78) ([.int .i64 v614, .int .i64 v615, .fn 169 [.bptr (BR.root 0) [.int .i64 v616, .int .i64 v617, .bslc (BR.root 1) (.f32 v618)], .bptr (BR.root 2) [.int .i64 v619, .int .i64 v620, .bslc (BR.root 3) (.f32 v621)]]] ++ List.replicate (Try.f78.ntmps - ([.int .i64 v614, .int .i64 v615, .fn 169 [.bptr (BR.root 0) [.int .i64 v616, .int .i64 v617, .bslc (BR.root 1) (.f32 v618)], .bptr (BR.root 2) [.int .i64 v619, .int .i64 v620, .bslc (BR.root 3) (.f32 v621)]]] : List DV).length) .undef) []).bind (retD TT Try.f78.results.toList 0) = (impl_made_i2_T v614 v615 v616 v617 v618 v619 v620 v621).bind fun y => .leaf (impl_made_i2_enc v614 v615 v616 v617 v618 v619 v620 v621 y) := by kernel_rfl
theorem impl_made_i2_fn (v614 : Int) (v615 : Int) (v616 : Int) (v617 : Int) (v618 : List Nat) (v619 : Int) (v620 : Int) (v621 : List Nat) (F : Fr) (hm : F.ids.length = 0) (h0 : St F [] F.H0) (hA : DVs.Ok F [] [.int .i64 v614, .int .i64 v615, .fn 169 [.bptr (BR.root 0) [.int .i64 v616, .int .i64 v617, .bslc (BR.root 1) (.f32 v618)], .bptr (BR.root 2) [.int .i64 v619, .int .i64 v620, .bslc (BR.root 3) (.f32 v621)]]]) {y : Int × Int × (List Nat)} (hy : impl_made_i2_g v614 v615 v616 v617 v618 v619 v620 v621 = some y) : ∃ H', FnOk Try.prog 78 (DVs.av F [.int .i64 v614, .int .i64 v615, .fn 169 [.bptr (BR.root 0) [.int .i64 v616, .int .i64 v617, .bslc (BR.root 1) (.f32 v618)], .bptr (BR.root 2) [.int .i64 v619, .int .i64 v620, .bslc (BR.root 3) (.f32 v621)]]]) F.H0 ((impl_made_i2_enc v614 v615 v616 v617 v618 v619 v620 v621 y).1.av F) H' ∧ St F (impl_made_i2_enc v614 v615 v616 v617 v618 v619 v620 v621 y).2 H' ∧ (impl_made_i2_enc v614 v615 v616 v617 v618 v619 v620 v621 y).1.Ok F (impl_made_i2_enc v614 v615 v616 v617 v618 v619 v620 v621 y).2 :=
  fn_fin tok impl_made_i2_hO mixed Try.func78 Try.call78 (by kernel_rfl) (LoopsOk_eq (l := [(0, bodyOf Try.f78 0)]) (by kernel_rfl) ⟨impl_made_i2_l0_ok v614 v615 v616 v617 v618 v619 v620 v621, trivial⟩) (impl_made_i2_den v614 v615 v616 v617 v618 v619 v620 v621) hy hm h0 hA
noncomputable def impl_made_i2_F : DFn := fun args L =>
  match args with
  | [.int .i64 v614, .int .i64 v615, .fn 169 [a1, a3]] =>
    optT (cellsOf L 3 a1) fun cs0 =>
    (match cs0 with
    | [.int .i64 v616, .int .i64 v617, a2] =>
    optT (rowF32 L a2) fun v618 =>
    optT (cellsOf L 3 a3) fun cs2 =>
    (match cs2 with
    | [.int .i64 v619, .int .i64 v620, a4] =>
    optT (rowF32 L a4) fun v621 =>
    .call (impl_made_i2_g v614 v615 v616 v617 v618 v619 v620 v621) fun y => .leaf (.agg [.int .i64 y.1, .int .i64 y.2.1, .own (L.length + 0) 0 ((y.2.2).length)], L ++ [.row (.f32 y.2.2) 0])
    | _ => .fail)
    | _ => .fail)
  | _ => .fail
theorem impl_made_i2_Fok : COk Try.prog 78 impl_made_i2_F true := by
  intro F L H args r L' hs ha hr
  unfold impl_made_i2_F at hr
  split at hr
  · rename_i v614 v615 a1 a3
    obtain ⟨cs0, hcp0, hr⟩ := optT_run hr
    split at hr
    · rename_i v616 v617 a2
      obtain ⟨v618, hv618, hr⟩ := optT_run hr
      obtain ⟨cs2, hcp2, hr⟩ := optT_run hr
      split at hr
      · rename_i v619 v620 a4
        obtain ⟨v621, hv621, hr⟩ := optT_run hr
        simp only [Tree.run] at hr
        obtain ⟨y, hy, hr⟩ := Option.bind_eq_some_iff.1 hr
        simp only [Tree.run, Option.some.injEq, Prod.mk.injEq] at hr
        obtain ⟨rfl, rfl⟩ := hr
        exact call_ok1 hs (fun k => (([a1.av F, a2.av F, a3.av F, a4.av F] : List AV)[k]?).getD .top) [.int .i64 v614, .int .i64 v615, .fn 169 [a1, a3]] [.int .i64 v614, .int .i64 v615, .fn 169 [.bptr (BR.root 0) [.int .i64 v616, .int .i64 v617, .bslc (BR.root 1) (.f32 v618)], .bptr (BR.root 2) [.int .i64 v619, .int .i64 v620, .bslc (BR.root 3) (.f32 v621)]]] (fun F' h0 hi hρ => ⟨by simp [DVs.av, DV.av, BR.av, hρ], impl_made_i2_fn v614 v615 v616 v617 v618 v619 v620 v621 F' (by rw [hi]; rfl) (st_nil hi) ⟨trivial, trivial, ⟨bptr_ok hi (by rw [h0]; simpa [DVs.av, DV.av, BR.av, hρ] using (cellsOf_ok hs (DVs.okAt (DVs.okAt ha 2 rfl) 0 rfl) hcp0).1) ⟨trivial, trivial, bslc_ok hi (by rw [h0, hρ]; exact rowF32_ok hs (DVs.okAt (cellsOf_ok hs (DVs.okAt (DVs.okAt ha 2 rfl) 0 rfl) hcp0).2 2 rfl) hv618), trivial⟩, bptr_ok hi (by rw [h0]; simpa [DVs.av, DV.av, BR.av, hρ] using (cellsOf_ok hs (DVs.okAt (DVs.okAt ha 2 rfl) 1 rfl) hcp2).1) ⟨trivial, trivial, bslc_ok hi (by rw [h0, hρ]; exact rowF32_ok hs (DVs.okAt (cellsOf_ok hs (DVs.okAt (DVs.okAt ha 2 rfl) 1 rfl) hcp2).2 2 rfl) hv621), trivial⟩, trivial⟩, trivial⟩ hy⟩) rfl rfl
      · cases hr
    · cases hr
  · cases hr
/-! impl.product -/
noncomputable def impl_product_LO (v608 : Int) (v609 : Int) (v610 : List Nat) (v611 : Int) (v612 : Int) (v613 : List Nat) : LOr := fun id e L =>
  match id with
  | _ => .fail
noncomputable def impl_product_tab : List (FuncId × DFn × Bool) := [(78, impl_made_i2_F, true)]
theorem impl_product_hO : OrcOk Try.prog (tabD impl_product_tab) (tabM impl_product_tab) := tabD_cons impl_made_i2_Fok (tabD_nil _)
noncomputable def impl_product_T (v608 : Int) (v609 : Int) (v610 : List Nat) (v611 : Int) (v612 : Int) (v613 : List Nat) : Tree (Int × Int × (List Nat)) :=
  (.call (impl_made_i2_g v608 v612 v608 v609 v610 v611 v612 v613) fun v730 =>
  .leaf (v730.1, v730.2.1, v730.2.2))

noncomputable def impl_product_g (v608 : Int) (v609 : Int) (v610 : List Nat) (v611 : Int) (v612 : Int) (v613 : List Nat) : Option (Int × Int × (List Nat)) := (impl_product_T v608 v609 v610 v611 v612 v613).run
def impl_product_enc (v608 : Int) (v609 : Int) (v610 : List Nat) (v611 : Int) (v612 : Int) (v613 : List Nat) (y : Int × Int × (List Nat)) : Rs := (.agg [.int .i64 y.1, .int .i64 y.2.1, .own 0 0 ((y.2.2).length)], [.row (.f32 y.2.2) 0])
theorem impl_product_den (v608 : Int) (v609 : Int) (v610 : List Nat) (v611 : Int) (v612 : Int) (v613 : List Nat) : (den TT (tabD impl_product_tab) (tabM impl_product_tab) (impl_product_LO v608 v609 v610 v611 v612 v613) (codeOf Try.f140) ([.agg [.int .i64 v608, .int .i64 v609, .bslc (BR.root 0) (.f32 v610)], .agg [.int .i64 v611, .int .i64 v612, .bslc (BR.root 1) (.f32 v613)]] ++ List.replicate (Try.f140.ntmps - ([.agg [.int .i64 v608, .int .i64 v609, .bslc (BR.root 0) (.f32 v610)], .agg [.int .i64 v611, .int .i64 v612, .bslc (BR.root 1) (.f32 v613)]] : List DV).length) .undef) []).bind (retD TT Try.f140.results.toList 0) = (impl_product_T v608 v609 v610 v611 v612 v613).bind fun y => .leaf (impl_product_enc v608 v609 v610 v611 v612 v613 y) := by kernel_rfl
theorem impl_product_fn (v608 : Int) (v609 : Int) (v610 : List Nat) (v611 : Int) (v612 : Int) (v613 : List Nat) (F : Fr) (hm : F.ids.length = 0) (h0 : St F [] F.H0) (hA : DVs.Ok F [] [.agg [.int .i64 v608, .int .i64 v609, .bslc (BR.root 0) (.f32 v610)], .agg [.int .i64 v611, .int .i64 v612, .bslc (BR.root 1) (.f32 v613)]]) {y : Int × Int × (List Nat)} (hy : impl_product_g v608 v609 v610 v611 v612 v613 = some y) : ∃ H', FnOk Try.prog 140 (DVs.av F [.agg [.int .i64 v608, .int .i64 v609, .bslc (BR.root 0) (.f32 v610)], .agg [.int .i64 v611, .int .i64 v612, .bslc (BR.root 1) (.f32 v613)]]) F.H0 ((impl_product_enc v608 v609 v610 v611 v612 v613 y).1.av F) H' ∧ St F (impl_product_enc v608 v609 v610 v611 v612 v613 y).2 H' ∧ (impl_product_enc v608 v609 v610 v611 v612 v613 y).1.Ok F (impl_product_enc v608 v609 v610 v611 v612 v613 y).2 :=
  fn_fin tok impl_product_hO mixed Try.func140 Try.call140 (by kernel_rfl) (LoopsOk_eq (l := []) (by kernel_rfl) trivial) (impl_product_den v608 v609 v610 v611 v612 v613) hy hm h0 hA
noncomputable def impl_product_F : DFn := fun args L =>
  match args with
  | [.agg [.int .i64 v608, .int .i64 v609, a1], .agg [.int .i64 v611, .int .i64 v612, a2]] =>
    optT (rowF32 L a1) fun v610 =>
    optT (rowF32 L a2) fun v613 =>
    .call (impl_product_g v608 v609 v610 v611 v612 v613) fun y => .leaf (.agg [.int .i64 y.1, .int .i64 y.2.1, .own (L.length + 0) 0 ((y.2.2).length)], L ++ [.row (.f32 y.2.2) 0])
  | _ => .fail
theorem impl_product_Fok : COk Try.prog 140 impl_product_F true := by
  intro F L H args r L' hs ha hr
  unfold impl_product_F at hr
  split at hr
  · rename_i v608 v609 a1 v611 v612 a2
    obtain ⟨v610, hv610, hr⟩ := optT_run hr
    obtain ⟨v613, hv613, hr⟩ := optT_run hr
    simp only [Tree.run] at hr
    obtain ⟨y, hy, hr⟩ := Option.bind_eq_some_iff.1 hr
    simp only [Tree.run, Option.some.injEq, Prod.mk.injEq] at hr
    obtain ⟨rfl, rfl⟩ := hr
    exact call_ok1 hs (fun k => (([a1.av F, a2.av F] : List AV)[k]?).getD .top) [.agg [.int .i64 v608, .int .i64 v609, a1], .agg [.int .i64 v611, .int .i64 v612, a2]] [.agg [.int .i64 v608, .int .i64 v609, .bslc (BR.root 0) (.f32 v610)], .agg [.int .i64 v611, .int .i64 v612, .bslc (BR.root 1) (.f32 v613)]] (fun F' h0 hi hρ => ⟨by simp [DVs.av, DV.av, BR.av, hρ], impl_product_fn v608 v609 v610 v611 v612 v613 F' (by rw [hi]; rfl) (st_nil hi) ⟨⟨trivial, trivial, bslc_ok hi (by rw [h0, hρ]; exact rowF32_ok hs (DVs.okAt (DVs.okAt ha 0 rfl) 2 rfl) hv610), trivial⟩, ⟨trivial, trivial, bslc_ok hi (by rw [h0, hρ]; exact rowF32_ok hs (DVs.okAt (DVs.okAt ha 1 rfl) 2 rfl) hv613), trivial⟩, trivial⟩ hy⟩) rfl rfl
  · cases hr
/-! impl.MulMatrices -/
noncomputable def impl_MulMatrices_LO (v593 : Int) (v594 : Int) (v595 : List Nat) (v596 : Int) (v597 : Int) (v598 : List Nat) : LOr := fun id e L =>
  match id with
  | _ => .fail
noncomputable def impl_MulMatrices_tab : List (FuncId × DFn × Bool) := [(76, impl_areFactors_F, true), (140, impl_product_F, true), (83, impl_Matrix_valid_F, true)]
theorem impl_MulMatrices_hO : OrcOk Try.prog (tabD impl_MulMatrices_tab) (tabM impl_MulMatrices_tab) := tabD_cons impl_areFactors_Fok (tabD_cons impl_product_Fok (tabD_cons impl_Matrix_valid_Fok (tabD_nil _)))
noncomputable def impl_MulMatrices_T (v593 : Int) (v594 : Int) (v595 : List Nat) (v596 : Int) (v597 : Int) (v598 : List Nat) : Tree ((Unit) ⊕ (Int × Int × (List Nat))) :=
  (.call (impl_areFactors_g v593 v594 v595 v596 v597 v598) fun v607 =>
  (.br (!v607) (
   .leaf (.inl ())
  ) (
   (.call (impl_product_g v593 v594 v595 v596 v597 v598) fun v731 =>
   (.call (impl_Matrix_valid_g v731.1 v731.2.1 v731.2.2) fun v732 =>
   (.sum v732 (fun v733 =>
    .leaf (.inl ())
   ) (fun v734 =>
    .leaf (.inr (v734.1, v734.2, v731.2.2))
   ))))
  )))

noncomputable def impl_MulMatrices_g (v593 : Int) (v594 : Int) (v595 : List Nat) (v596 : Int) (v597 : Int) (v598 : List Nat) : Option ((Unit) ⊕ (Int × Int × (List Nat))) := (impl_MulMatrices_T v593 v594 v595 v596 v597 v598).run
def impl_MulMatrices_enc (v593 : Int) (v594 : Int) (v595 : List Nat) (v596 : Int) (v597 : Int) (v598 : List Nat) (y : (Unit) ⊕ (Int × Int × (List Nat))) : Rs := (match y with | .inl y => (.tup [.agg [.int .i64 (0 : Int), .int .i64 (0 : Int), .nilslc], .lit false], []) | .inr y => (.tup [.agg [.int .i64 y.1, .int .i64 y.2.1, .own 0 0 ((y.2.2).length)], .lit true], [.row (.f32 y.2.2) 0]))
theorem impl_MulMatrices_den (v593 : Int) (v594 : Int) (v595 : List Nat) (v596 : Int) (v597 : Int) (v598 : List Nat) : (den TT (tabD impl_MulMatrices_tab) (tabM impl_MulMatrices_tab) (impl_MulMatrices_LO v593 v594 v595 v596 v597 v598) (codeOf Try.f74) ([.agg [.int .i64 v593, .int .i64 v594, .bslc (BR.root 0) (.f32 v595)], .agg [.int .i64 v596, .int .i64 v597, .bslc (BR.root 1) (.f32 v598)]] ++ List.replicate (Try.f74.ntmps - ([.agg [.int .i64 v593, .int .i64 v594, .bslc (BR.root 0) (.f32 v595)], .agg [.int .i64 v596, .int .i64 v597, .bslc (BR.root 1) (.f32 v598)]] : List DV).length) .undef) []).bind (retD TT Try.f74.results.toList 0) = (impl_MulMatrices_T v593 v594 v595 v596 v597 v598).bind fun y => .leaf (impl_MulMatrices_enc v593 v594 v595 v596 v597 v598 y) := by kernel_rfl
theorem impl_MulMatrices_fn (v593 : Int) (v594 : Int) (v595 : List Nat) (v596 : Int) (v597 : Int) (v598 : List Nat) (F : Fr) (hm : F.ids.length = 0) (h0 : St F [] F.H0) (hA : DVs.Ok F [] [.agg [.int .i64 v593, .int .i64 v594, .bslc (BR.root 0) (.f32 v595)], .agg [.int .i64 v596, .int .i64 v597, .bslc (BR.root 1) (.f32 v598)]]) {y : (Unit) ⊕ (Int × Int × (List Nat))} (hy : impl_MulMatrices_g v593 v594 v595 v596 v597 v598 = some y) : ∃ H', FnOk Try.prog 74 (DVs.av F [.agg [.int .i64 v593, .int .i64 v594, .bslc (BR.root 0) (.f32 v595)], .agg [.int .i64 v596, .int .i64 v597, .bslc (BR.root 1) (.f32 v598)]]) F.H0 ((impl_MulMatrices_enc v593 v594 v595 v596 v597 v598 y).1.av F) H' ∧ St F (impl_MulMatrices_enc v593 v594 v595 v596 v597 v598 y).2 H' ∧ (impl_MulMatrices_enc v593 v594 v595 v596 v597 v598 y).1.Ok F (impl_MulMatrices_enc v593 v594 v595 v596 v597 v598 y).2 :=
  fn_fin tok impl_MulMatrices_hO mixed Try.func74 Try.call74 (by kernel_rfl) (LoopsOk_eq (l := []) (by kernel_rfl) trivial) (impl_MulMatrices_den v593 v594 v595 v596 v597 v598) hy hm h0 hA
noncomputable def impl_MulMatrices_F : DFn := fun args L =>
  match args with
  | [.agg [.int .i64 v593, .int .i64 v594, a1], .agg [.int .i64 v596, .int .i64 v597, a2]] =>
    optT (rowF32 L a1) fun v595 =>
    optT (rowF32 L a2) fun v598 =>
    .call (impl_MulMatrices_g v593 v594 v595 v596 v597 v598) fun y => .sum y (fun y0 => .leaf (.tup [.agg [.int .i64 (0 : Int), .int .i64 (0 : Int), .nilslc], .lit false], L)) (fun z0 => .leaf (.tup [.agg [.int .i64 z0.1, .int .i64 z0.2.1, .own (L.length + 0) 0 ((z0.2.2).length)], .lit true], L ++ [.row (.f32 z0.2.2) 0]))
  | _ => .fail
theorem impl_MulMatrices_Fok : COk Try.prog 74 impl_MulMatrices_F true := by
  intro F L H args r L' hs ha hr
  unfold impl_MulMatrices_F at hr
  split at hr
  · rename_i v593 v594 a1 v596 v597 a2
    obtain ⟨v595, hv595, hr⟩ := optT_run hr
    obtain ⟨v598, hv598, hr⟩ := optT_run hr
    simp only [Tree.run] at hr
    obtain ⟨y, hy, hr⟩ := Option.bind_eq_some_iff.1 hr
    cases y with
    | inl y =>
      simp only [Tree.run, Option.some.injEq, Prod.mk.injEq] at hr
      obtain ⟨rfl, rfl⟩ := hr
      exact call_ok0 hs (fun k => (([a1.av F, a2.av F] : List AV)[k]?).getD .top) [.agg [.int .i64 v593, .int .i64 v594, a1], .agg [.int .i64 v596, .int .i64 v597, a2]] [.agg [.int .i64 v593, .int .i64 v594, .bslc (BR.root 0) (.f32 v595)], .agg [.int .i64 v596, .int .i64 v597, .bslc (BR.root 1) (.f32 v598)]] (fun F' h0 hi hρ => ⟨by simp [DVs.av, DV.av, BR.av, hρ], impl_MulMatrices_fn v593 v594 v595 v596 v597 v598 F' (by rw [hi]; rfl) (st_nil hi) ⟨⟨trivial, trivial, bslc_ok hi (by rw [h0, hρ]; exact rowF32_ok hs (DVs.okAt (DVs.okAt ha 0 rfl) 2 rfl) hv595), trivial⟩, ⟨trivial, trivial, bslc_ok hi (by rw [h0, hρ]; exact rowF32_ok hs (DVs.okAt (DVs.okAt ha 1 rfl) 2 rfl) hv598), trivial⟩, trivial⟩ hy⟩) rfl
    | inr y =>
      simp only [Tree.run, Option.some.injEq, Prod.mk.injEq] at hr
      obtain ⟨rfl, rfl⟩ := hr
      exact call_ok1 hs (fun k => (([a1.av F, a2.av F] : List AV)[k]?).getD .top) [.agg [.int .i64 v593, .int .i64 v594, a1], .agg [.int .i64 v596, .int .i64 v597, a2]] [.agg [.int .i64 v593, .int .i64 v594, .bslc (BR.root 0) (.f32 v595)], .agg [.int .i64 v596, .int .i64 v597, .bslc (BR.root 1) (.f32 v598)]] (fun F' h0 hi hρ => ⟨by simp [DVs.av, DV.av, BR.av, hρ], impl_MulMatrices_fn v593 v594 v595 v596 v597 v598 F' (by rw [hi]; rfl) (st_nil hi) ⟨⟨trivial, trivial, bslc_ok hi (by rw [h0, hρ]; exact rowF32_ok hs (DVs.okAt (DVs.okAt ha 0 rfl) 2 rfl) hv595), trivial⟩, ⟨trivial, trivial, bslc_ok hi (by rw [h0, hρ]; exact rowF32_ok hs (DVs.okAt (DVs.okAt ha 1 rfl) 2 rfl) hv598), trivial⟩, trivial⟩ hy⟩) rfl rfl
  · cases hr
/-! impl.weigh$1 -/
noncomputable def impl_weigh_1_LO (v778 : Int) (v779 : Int) (v780 : Nat) (v781 : Int) (v782 : Int) (v783 : List Nat) (v784 : Nat) (v785 : Int) (v786 : Int) (v787 : List Nat) : LOr := fun id e L =>
  match id with
  | _ => .fail
noncomputable def impl_weigh_1_tab : List (FuncId × DFn × Bool) := [(64, impl_Matrix_at_F, true), (65, impl_mul_F, true)]
theorem impl_weigh_1_hO : OrcOk Try.prog (tabD impl_weigh_1_tab) (tabM impl_weigh_1_tab) := tabD_cons impl_Matrix_at_Fok (tabD_cons impl_mul_Fok (tabD_nil _))
noncomputable def impl_weigh_1_T (v778 : Int) (v779 : Int) (v780 : Nat) (v782 : Int) (v783 : List Nat) (v784 : Nat) (v786 : Int) (v787 : List Nat) : Tree (Nat) :=
  (.call (impl_Matrix_at_g v782 v783 v778 v779) fun v788 =>
  (.call (impl_Matrix_at_g v786 v787 v778 v779) fun v789 =>
  .leaf (fadd .f32 (impl_mul_v v780 v788) (impl_mul_v v784 v789))))

noncomputable def impl_weigh_1_g (v778 : Int) (v779 : Int) (v780 : Nat) (v782 : Int) (v783 : List Nat) (v784 : Nat) (v786 : Int) (v787 : List Nat) : Option (Nat) := (impl_weigh_1_T v778 v779 v780 v782 v783 v784 v786 v787).run
def impl_weigh_1_enc (v778 : Int) (v779 : Int) (v780 : Nat) (v781 : Int) (v782 : Int) (v783 : List Nat) (v784 : Nat) (v785 : Int) (v786 : Int) (v787 : List Nat) (y : Nat) : Rs := (.flt .f32 y, [])
theorem impl_weigh_1_den (v778 : Int) (v779 : Int) (v780 : Nat) (v781 : Int) (v782 : Int) (v783 : List Nat) (v784 : Nat) (v785 : Int) (v786 : Int) (v787 : List Nat) : (den TT (tabD impl_weigh_1_tab) (tabM impl_weigh_1_tab) (impl_weigh_1_LO v778 v779 v780 v781 v782 v783 v784 v785 v786 v787) (codeOf Try.f178) ([.int .i64 v778, .int .i64 v779, .bptr (BR.root 0) [.flt .f32 v780], .bptr (BR.root 1) [.int .i64 v781, .int .i64 v782, .bslc (BR.root 2) (.f32 v783)], .bptr (BR.root 3) [.flt .f32 v784], .bptr (BR.root 4) [.int .i64 v785, .int .i64 v786, .bslc (BR.root 5) (.f32 v787)]] ++ List.replicate (Try.f178.ntmps - ([.int .i64 v778, .int .i64 v779, .bptr (BR.root 0) [.flt .f32 v780], .bptr (BR.root 1) [.int .i64 v781, .int .i64 v782, .bslc (BR.root 2) (.f32 v783)], .bptr (BR.root 3) [.flt .f32 v784], .bptr (BR.root 4) [.int .i64 v785, .int .i64 v786, .bslc (BR.root 5) (.f32 v787)]] : List DV).length) .undef) []).bind (retD TT Try.f178.results.toList 0) = (impl_weigh_1_T v778 v779 v780 v782 v783 v784 v786 v787).bind fun y => .leaf (impl_weigh_1_enc v778 v779 v780 v781 v782 v783 v784 v785 v786 v787 y) := by kernel_rfl
theorem impl_weigh_1_fn (v778 : Int) (v779 : Int) (v780 : Nat) (v781 : Int) (v782 : Int) (v783 : List Nat) (v784 : Nat) (v785 : Int) (v786 : Int) (v787 : List Nat) (F : Fr) (hm : F.ids.length = 0) (h0 : St F [] F.H0) (hA : DVs.Ok F [] [.int .i64 v778, .int .i64 v779, .bptr (BR.root 0) [.flt .f32 v780], .bptr (BR.root 1) [.int .i64 v781, .int .i64 v782, .bslc (BR.root 2) (.f32 v783)], .bptr (BR.root 3) [.flt .f32 v784], .bptr (BR.root 4) [.int .i64 v785, .int .i64 v786, .bslc (BR.root 5) (.f32 v787)]]) {y : Nat} (hy : impl_weigh_1_g v778 v779 v780 v782 v783 v784 v786 v787 = some y) : ∃ H', FnOk Try.prog 178 (DVs.av F [.int .i64 v778, .int .i64 v779, .bptr (BR.root 0) [.flt .f32 v780], .bptr (BR.root 1) [.int .i64 v781, .int .i64 v782, .bslc (BR.root 2) (.f32 v783)], .bptr (BR.root 3) [.flt .f32 v784], .bptr (BR.root 4) [.int .i64 v785, .int .i64 v786, .bslc (BR.root 5) (.f32 v787)]]) F.H0 ((impl_weigh_1_enc v778 v779 v780 v781 v782 v783 v784 v785 v786 v787 y).1.av F) H' ∧ St F (impl_weigh_1_enc v778 v779 v780 v781 v782 v783 v784 v785 v786 v787 y).2 H' ∧ (impl_weigh_1_enc v778 v779 v780 v781 v782 v783 v784 v785 v786 v787 y).1.Ok F (impl_weigh_1_enc v778 v779 v780 v781 v782 v783 v784 v785 v786 v787 y).2 :=
  fn_fin tok impl_weigh_1_hO mixed Try.func178 Try.call178 (by kernel_rfl) (LoopsOk_eq (l := []) (by kernel_rfl) trivial) (impl_weigh_1_den v778 v779 v780 v781 v782 v783 v784 v785 v786 v787) hy hm h0 hA
noncomputable def impl_weigh_1_F : DFn := fun args L =>
  match args with
  | [.int .i64 v778, .int .i64 v779, a1, a2, a4, a5] =>
    optT (cellsOf L 1 a1) fun cs0 =>
    (match cs0 with
    | [.flt .f32 v780] =>
    optT (cellsOf L 3 a2) fun cs1 =>
    (match cs1 with
    | [.int .i64 v781, .int .i64 v782, a3] =>
    optT (rowF32 L a3) fun v783 =>
    optT (cellsOf L 1 a4) fun cs3 =>
    (match cs3 with
    | [.flt .f32 v784] =>
    optT (cellsOf L 3 a5) fun cs4 =>
    (match cs4 with
    | [.int .i64 v785, .int .i64 v786, a6] =>
    optT (rowF32 L a6) fun v787 =>
    .call (impl_weigh_1_g v778 v779 v780 v782 v783 v784 v786 v787) fun y => .leaf (.flt .f32 y, L)
    | _ => .fail)
    | _ => .fail)
    | _ => .fail)
    | _ => .fail)
  | _ => .fail
theorem impl_weigh_1_Fok : COk Try.prog 178 impl_weigh_1_F true := by
  intro F L H args r L' hs ha hr
  unfold impl_weigh_1_F at hr
  split at hr
  · rename_i v778 v779 a1 a2 a4 a5
    obtain ⟨cs0, hcp0, hr⟩ := optT_run hr
    split at hr
    · rename_i v780
      obtain ⟨cs1, hcp1, hr⟩ := optT_run hr
      split at hr
      · rename_i v781 v782 a3
        obtain ⟨v783, hv783, hr⟩ := optT_run hr
        obtain ⟨cs3, hcp3, hr⟩ := optT_run hr
        split at hr
        · rename_i v784
          obtain ⟨cs4, hcp4, hr⟩ := optT_run hr
          split at hr
          · rename_i v785 v786 a6
            obtain ⟨v787, hv787, hr⟩ := optT_run hr
            simp only [Tree.run] at hr
            obtain ⟨y, hy, hr⟩ := Option.bind_eq_some_iff.1 hr
            simp only [Tree.run, Option.some.injEq, Prod.mk.injEq] at hr
            obtain ⟨rfl, rfl⟩ := hr
            exact call_ok0 hs (fun k => (([a1.av F, a2.av F, a3.av F, a4.av F, a5.av F, a6.av F] : List AV)[k]?).getD .top) [.int .i64 v778, .int .i64 v779, a1, a2, a4, a5] [.int .i64 v778, .int .i64 v779, .bptr (BR.root 0) [.flt .f32 v780], .bptr (BR.root 1) [.int .i64 v781, .int .i64 v782, .bslc (BR.root 2) (.f32 v783)], .bptr (BR.root 3) [.flt .f32 v784], .bptr (BR.root 4) [.int .i64 v785, .int .i64 v786, .bslc (BR.root 5) (.f32 v787)]] (fun F' h0 hi hρ => ⟨by simp [DVs.av, DV.av, BR.av, hρ], impl_weigh_1_fn v778 v779 v780 v781 v782 v783 v784 v785 v786 v787 F' (by rw [hi]; rfl) (st_nil hi) ⟨trivial, trivial, bptr_ok hi (by rw [h0]; simpa [DVs.av, DV.av, BR.av, hρ] using (cellsOf_ok hs (DVs.okAt ha 2 rfl) hcp0).1) ⟨trivial, trivial⟩, bptr_ok hi (by rw [h0]; simpa [DVs.av, DV.av, BR.av, hρ] using (cellsOf_ok hs (DVs.okAt ha 3 rfl) hcp1).1) ⟨trivial, trivial, bslc_ok hi (by rw [h0, hρ]; exact rowF32_ok hs (DVs.okAt (cellsOf_ok hs (DVs.okAt ha 3 rfl) hcp1).2 2 rfl) hv783), trivial⟩, bptr_ok hi (by rw [h0]; simpa [DVs.av, DV.av, BR.av, hρ] using (cellsOf_ok hs (DVs.okAt ha 4 rfl) hcp3).1) ⟨trivial, trivial⟩, bptr_ok hi (by rw [h0]; simpa [DVs.av, DV.av, BR.av, hρ] using (cellsOf_ok hs (DVs.okAt ha 5 rfl) hcp4).1) ⟨trivial, trivial, bslc_ok hi (by rw [h0, hρ]; exact rowF32_ok hs (DVs.okAt (cellsOf_ok hs (DVs.okAt ha 5 rfl) hcp4).2 2 rfl) hv787), trivial⟩, trivial⟩ hy⟩) rfl
          · cases hr
        · cases hr
      · cases hr
    · cases hr
  · cases hr
/-! impl.made -/
noncomputable def impl_made_i3_l2_T (v761 : Int) (v762 : Nat) (v764 : Int) (v765 : List Nat) (v766 : Nat) (v768 : Int) (v769 : List Nat) (v851 : Int) (v853 : Int) (v854 : Int) (s : Int × (List Nat)) : Tree ((Int × (List Nat)) ⊕ ((List Nat))) :=
  (.br (decide (s.1 < v761)) (
   (.call (impl_weigh_1_g v851 s.1 v762 v764 v765 v766 v768 v769) fun v856 =>
   (.call (impl_Matrix_set_g v854 s.2 v851 s.1) fun v857 =>
   (.grd (decide ((List.set s.2 (Int.toNat (IntKind.i64.wrap ((IntKind.i64.wrap (v851 * v854)) + s.1))) v856).length = s.2.length)) <|
   .leaf (.inl (IntKind.i64.wrap (s.1 + (1 : Int)), List.set s.2 (Int.toNat (IntKind.i64.wrap ((IntKind.i64.wrap (v851 * v854)) + s.1))) v856)))))
  ) (
   .leaf (.inr s.2)
  ))

noncomputable def impl_made_i3_l2_g (v761 : Int) (v762 : Nat) (v764 : Int) (v765 : List Nat) (v766 : Nat) (v768 : Int) (v769 : List Nat) (v851 : Int) (v853 : Int) (v854 : Int) (s0 : Int × (List Nat)) : Option ((List Nat)) := whileM (fun s => (impl_made_i3_l2_T v761 v762 v764 v765 v766 v768 v769 v851 v853 v854 s).run) s0
def impl_made_i3_l2_E (v760 : Int) (v761 : Int) (v762 : Nat) (v763 : Int) (v764 : Int) (v765 : List Nat) (v766 : Nat) (v767 : Int) (v768 : Int) (v769 : List Nat) (v851 : Int) (v853 : Int) (v854 : Int) (s : Int × (List Nat)) : Sd := ([.top, .int .i64 v761, .fn 178 [.bptr (BR.root 0) [.flt .f32 v762], .bptr (BR.root 1) [.int .i64 v763, .int .i64 v764, .bslc (BR.root 2) (.f32 v765)], .bptr (BR.root 3) [.flt .f32 v766], .bptr (BR.root 4) [.int .i64 v767, .int .i64 v768, .bslc (BR.root 5) (.f32 v769)]], .top, .top, .top, .ptr 0 (0 : Nat) 0 (3 : Nat), .ptr 1 (0 : Nat) 0 (3 : Nat), .int .i64 v851, .top, .top, .top, .top, .int .i64 v760, .int .i64 v851, .top, .top, .int .i64 v761, .int .i64 s.1, .top, .top, .top, .top, .top, .top, .top, .top, .top, .top, .top, .top, .top], [.gen [.int .i64 (0 : Int), .int .i64 (0 : Int), .nilslc] false 0, .gen [.int .i64 v853, .int .i64 v854, .own 2 0 ((s.2).length)] false 0, .row (.f32 s.2) 0])
def impl_made_i3_l2_X (v760 : Int) (v761 : Int) (v762 : Nat) (v763 : Int) (v764 : Int) (v765 : List Nat) (v766 : Nat) (v767 : Int) (v768 : Int) (v769 : List Nat) (v851 : Int) (v853 : Int) (v854 : Int) (x : (List Nat)) : Out := (.normal, [.top, .int .i64 v761, .fn 178 [.bptr (BR.root 0) [.flt .f32 v762], .bptr (BR.root 1) [.int .i64 v763, .int .i64 v764, .bslc (BR.root 2) (.f32 v765)], .bptr (BR.root 3) [.flt .f32 v766], .bptr (BR.root 4) [.int .i64 v767, .int .i64 v768, .bslc (BR.root 5) (.f32 v769)]], .top, .top, .top, .ptr 0 (0 : Nat) 0 (3 : Nat), .ptr 1 (0 : Nat) 0 (3 : Nat), .top, .top, .top, .top, .top, .int .i64 v760, .int .i64 v851, .top, .top, .top, .top, .top, .top, .top, .top, .top, .top, .top, .top, .top, .top, .top, .top, .top], [.gen [.int .i64 (0 : Int), .int .i64 (0 : Int), .nilslc] false 0, .gen [.int .i64 v853, .int .i64 v854, .own 2 0 ((x).length)] false 0, .row (.f32 x) 0])
def impl_made_i3_l2_kill : List Nat := [1, 0, 0, 1, 1, 1, 0, 0, 0, 1, 1, 1, 1, 0, 0, 1, 1, 0, 0, 1, 1, 1, 1, 1, 1, 1, 1, 1, 1, 1, 1, 1]
def impl_made_i3_l2_nx : Exit → List Nat
  | .exit 0 => [1, 1, 1, 1, 1, 1, 0, 0, 1, 1, 1, 1, 1, 1, 1, 1, 1, 1, 1, 1, 1, 1, 1, 1, 1, 1, 1, 1, 1, 1, 1, 1]
  | .exit 1 => [1, 0, 0, 1, 1, 1, 0, 0, 1, 1, 1, 1, 1, 0, 0, 1, 1, 1, 1, 1, 1, 1, 1, 1, 1, 1, 1, 1, 1, 1, 1, 1]
  | .exit 2 => [1, 0, 0, 1, 1, 1, 0, 0, 1, 1, 1, 1, 1, 0, 0, 1, 1, 1, 1, 1, 1, 1, 1, 1, 1, 1, 1, 1, 1, 1, 1, 1]
  | .ret => [1, 1, 1, 1, 1, 1, 0, 1, 1, 1, 1, 1, 1, 1, 1, 1, 1, 1, 1, 1, 1, 1, 1, 1, 1, 1, 1, 1, 1, 1, 1, 1]
  | _ => []
noncomputable def impl_made_i3_l0_T (v760 : Int) (v761 : Int) (v762 : Nat) (v763 : Int) (v764 : Int) (v765 : List Nat) (v766 : Nat) (v767 : Int) (v768 : Int) (v769 : List Nat) (v834 : Int) (v835 : Int) (s : Int × (List Nat)) : Tree ((Int × (List Nat)) ⊕ ((List Nat))) :=
  (.br (decide (s.1 < v760)) (
   (.need (some (impl_made_i3_l2_E v760 v761 v762 v763 v764 v765 v766 v767 v768 v769 s.1 v834 v835 ((0 : Int), s.2)) = some (impl_made_i3_l2_E v760 v761 v762 v763 v764 v765 v766 v767 v768 v769 s.1 v834 v835 ((0 : Int), s.2))) <|
   (.call (impl_made_i3_l2_g v761 v762 v764 v765 v766 v768 v769 s.1 v834 v835 ((0 : Int), s.2)) fun v858 =>
   .leaf (.inl (IntKind.i64.wrap (s.1 + (1 : Int)), v858))))
  ) (
   .leaf (.inr s.2)
  ))

noncomputable def impl_made_i3_l0_g (v760 : Int) (v761 : Int) (v762 : Nat) (v763 : Int) (v764 : Int) (v765 : List Nat) (v766 : Nat) (v767 : Int) (v768 : Int) (v769 : List Nat) (v834 : Int) (v835 : Int) (s0 : Int × (List Nat)) : Option ((List Nat)) := whileM (fun s => (impl_made_i3_l0_T v760 v761 v762 v763 v764 v765 v766 v767 v768 v769 v834 v835 s).run) s0
def impl_made_i3_l0_E (v760 : Int) (v761 : Int) (v762 : Nat) (v763 : Int) (v764 : Int) (v765 : List Nat) (v766 : Nat) (v767 : Int) (v768 : Int) (v769 : List Nat) (v834 : Int) (v835 : Int) (s : Int × (List Nat)) : Sd := ([.top, .int .i64 v761, .fn 178 [.bptr (BR.root 0) [.flt .f32 v762], .bptr (BR.root 1) [.int .i64 v763, .int .i64 v764, .bslc (BR.root 2) (.f32 v765)], .bptr (BR.root 3) [.flt .f32 v766], .bptr (BR.root 4) [.int .i64 v767, .int .i64 v768, .bslc (BR.root 5) (.f32 v769)]], .top, .top, .top, .ptr 0 (0 : Nat) 0 (3 : Nat), .ptr 1 (0 : Nat) 0 (3 : Nat), .top, .top, .top, .top, .top, .int .i64 v760, .int .i64 s.1, .top, .top, .top, .top, .top, .top, .top, .top, .top, .top, .top, .top, .top, .top, .top, .top, .top], [.gen [.int .i64 (0 : Int), .int .i64 (0 : Int), .nilslc] false 0, .gen [.int .i64 v834, .int .i64 v835, .own 2 0 ((s.2).length)] false 0, .row (.f32 s.2) 0])
def impl_made_i3_l0_X (v760 : Int) (v761 : Int) (v762 : Nat) (v763 : Int) (v764 : Int) (v765 : List Nat) (v766 : Nat) (v767 : Int) (v768 : Int) (v769 : List Nat) (v834 : Int) (v835 : Int) (x : (List Nat)) : Out := (.normal, [.top, .top, .top, .top, .top, .top, .ptr 0 (0 : Nat) 0 (3 : Nat), .ptr 1 (0 : Nat) 0 (3 : Nat), .top, .top, .top, .top, .top, .top, .top, .top, .top, .top, .top, .top, .top, .top, .top, .top, .top, .top, .top, .top, .top, .top, .top, .top], [.gen [.int .i64 (0 : Int), .int .i64 (0 : Int), .nilslc] false 0, .gen [.int .i64 v834, .int .i64 v835, .own 2 0 ((x).length)] false 0, .row (.f32 x) 0])
def impl_made_i3_l0_kill : List Nat := [1, 0, 0, 1, 1, 1, 0, 0, 1, 1, 1, 1, 1, 0, 0, 1, 1, 1, 1, 1, 1, 1, 1, 1, 1, 1, 1, 1, 1, 1, 1, 1]
def impl_made_i3_l0_nx : Exit → List Nat
  | .exit 0 => [1, 1, 1, 1, 1, 1, 0, 0, 1, 1, 1, 1, 1, 1, 1, 1, 1, 1, 1, 1, 1, 1, 1, 1, 1, 1, 1, 1, 1, 1, 1, 1]
  | .ret => [1, 1, 1, 1, 1, 1, 0, 1, 1, 1, 1, 1, 1, 1, 1, 1, 1, 1, 1, 1, 1, 1, 1, 1, 1, 1, 1, 1, 1, 1, 1, 1]
  | _ => []
noncomputable def impl_made_i3_LO (v760 : Int) (v761 : Int) (v762 : Nat) (v763 : Int) (v764 : Int) (v765 : List Nat) (v766 : Nat) (v767 : Int) (v768 : Int) (v769 : List Nat) : LOr := fun id e L =>
  match id with
  | 2 => .need (normA 0 impl_made_i3_l2_kill e L = some (impl_made_i3_l2_E v760 v761 v762 v763 v764 v765 v766 v767 v768 v769 (gI (vAt e 8)) (gI (cAt L (vAt e 7) 0)) (gI (cAt L (vAt e 7) 1)) ((gI (vAt e 18)), (gRF L (cAt L (vAt e 7) 2))))) (.call (impl_made_i3_l2_g v761 v762 v764 v765 v766 v768 v769 (gI (vAt e 8)) (gI (cAt L (vAt e 7) 0)) (gI (cAt L (vAt e 7) 1)) ((gI (vAt e 18)), (gRF L (cAt L (vAt e 7) 2)))) fun x => .leaf (impl_made_i3_l2_X v760 v761 v762 v763 v764 v765 v766 v767 v768 v769 (gI (vAt e 8)) (gI (cAt L (vAt e 7) 0)) (gI (cAt L (vAt e 7) 1)) x))
  | 0 => .need (normA 0 impl_made_i3_l0_kill e L = some (impl_made_i3_l0_E v760 v761 v762 v763 v764 v765 v766 v767 v768 v769 (gI (cAt L (vAt e 7) 0)) (gI (cAt L (vAt e 7) 1)) ((gI (vAt e 14)), (gRF L (cAt L (vAt e 7) 2))))) (.call (impl_made_i3_l0_g v760 v761 v762 v763 v764 v765 v766 v767 v768 v769 (gI (cAt L (vAt e 7) 0)) (gI (cAt L (vAt e 7) 1)) ((gI (vAt e 14)), (gRF L (cAt L (vAt e 7) 2)))) fun x => .leaf (impl_made_i3_l0_X v760 v761 v762 v763 v764 v765 v766 v767 v768 v769 (gI (cAt L (vAt e 7) 0)) (gI (cAt L (vAt e 7) 1)) x))
  | _ => .fail
noncomputable def impl_made_i3_tab : List (FuncId × DFn × Bool) := [(117, impl_newMatrix_F, true), (178, impl_weigh_1_F, true), (66, impl_Matrix_set_F, false)]
theorem impl_made_i3_hO : OrcOk Try.prog (tabD impl_made_i3_tab) (tabM impl_made_i3_tab) := tabD_cons impl_newMatrix_Fok (tabD_cons impl_weigh_1_Fok (tabD_cons impl_Matrix_set_Fok (tabD_nil _)))
theorem impl_made_i3_l2_be (v760 : Int) (v761 : Int) (v762 : Nat) (v763 : Int) (v764 : Int) (v765 : List Nat) (v766 : Nat) (v767 : Int) (v768 : Int) (v769 : List Nat) (v851 : Int) (v853 : Int) (v854 : Int) (s : Int × (List Nat)) : bodyT TT (tabD impl_made_i3_tab) (tabM impl_made_i3_tab) (impl_made_i3_LO v760 v761 v762 v763 v764 v765 v766 v767 v768 v769) 0 impl_made_i3_l2_kill impl_made_i3_l2_nx (bodyOf Try.f78 2) 2 (impl_made_i3_l2_E v760 v761 v762 v763 v764 v765 v766 v767 v768 v769 v851 v853 v854 s) = (impl_made_i3_l2_T v761 v762 v764 v765 v766 v768 v769 v851 v853 v854 s).bind fun y => .leaf (outS (impl_made_i3_l2_E v760 v761 v762 v763 v764 v765 v766 v767 v768 v769 v851 v853 v854) (impl_made_i3_l2_X v760 v761 v762 v763 v764 v765 v766 v767 v768 v769 v851 v853 v854) y) := by kernel_rfl
theorem impl_made_i3_l2_ok (v760 : Int) (v761 : Int) (v762 : Nat) (v763 : Int) (v764 : Int) (v765 : List Nat) (v766 : Nat) (v767 : Int) (v768 : Int) (v769 : List Nat) : LSound Try.prog 0 (impl_made_i3_LO v760 v761 v762 v763 v764 v765 v766 v767 v768 v769) 2 (bodyOf Try.f78 2) := by
  intro e L out h
  exact lo_ok (E := impl_made_i3_l2_E v760 v761 v762 v763 v764 v765 v766 v767 v768 v769 (gI (vAt e 8)) (gI (cAt L (vAt e 7) 0)) (gI (cAt L (vAt e 7) 1))) (gT := impl_made_i3_l2_T v761 v762 v764 v765 v766 v768 v769 (gI (vAt e 8)) (gI (cAt L (vAt e 7) 0)) (gI (cAt L (vAt e 7) 1))) (X := impl_made_i3_l2_X v760 v761 v762 v763 v764 v765 v766 v767 v768 v769 (gI (vAt e 8)) (gI (cAt L (vAt e 7) 0)) (gI (cAt L (vAt e 7) 1))) (s0 := ((gI (vAt e 18)), (gRF L (cAt L (vAt e 7) 2)))) tok impl_made_i3_hO mixed (LoopsOk_eq (l := []) (by kernel_rfl) trivial) (impl_made_i3_l2_be v760 v761 v762 v763 v764 v765 v766 v767 v768 v769 (gI (vAt e 8)) (gI (cAt L (vAt e 7) 0)) (gI (cAt L (vAt e 7) 1))) rfl (by intro x; rfl) h
theorem impl_made_i3_l0_be (v760 : Int) (v761 : Int) (v762 : Nat) (v763 : Int) (v764 : Int) (v765 : List Nat) (v766 : Nat) (v767 : Int) (v768 : Int) (v769 : List Nat) (v834 : Int) (v835 : Int) (s : Int × (List Nat)) : bodyT TT (tabD impl_made_i3_tab) (tabM impl_made_i3_tab) (impl_made_i3_LO v760 v761 v762 v763 v764 v765 v766 v767 v768 v769) 0 impl_made_i3_l0_kill impl_made_i3_l0_nx (bodyOf Try.f78 0) 0 (impl_made_i3_l0_E v760 v761 v762 v763 v764 v765 v766 v767 v768 v769 v834 v835 s) = (impl_made_i3_l0_T v760 v761 v762 v763 v764 v765 v766 v767 v768 v769 v834 v835 s).bind fun y => .leaf (outS (impl_made_i3_l0_E v760 v761 v762 v763 v764 v765 v766 v767 v768 v769 v834 v835) (impl_made_i3_l0_X v760 v761 v762 v763 v764 v765 v766 v767 v768 v769 v834 v835) y) := by kernel_rfl
theorem impl_made_i3_l0_ok (v760 : Int) (v761 : Int) (v762 : Nat) (v763 : Int) (v764 : Int) (v765 : List Nat) (v766 : Nat) (v767 : Int) (v768 : Int) (v769 : List Nat) : LSound Try.prog 0 (impl_made_i3_LO v760 v761 v762 v763 v764 v765 v766 v767 v768 v769) 0 (bodyOf Try.f78 0) := by
  intro e L out h
  exact lo_ok (E := impl_made_i3_l0_E v760 v761 v762 v763 v764 v765 v766 v767 v768 v769 (gI (cAt L (vAt e 7) 0)) (gI (cAt L (vAt e 7) 1))) (gT := impl_made_i3_l0_T v760 v761 v762 v763 v764 v765 v766 v767 v768 v769 (gI (cAt L (vAt e 7) 0)) (gI (cAt L (vAt e 7) 1))) (X := impl_made_i3_l0_X v760 v761 v762 v763 v764 v765 v766 v767 v768 v769 (gI (cAt L (vAt e 7) 0)) (gI (cAt L (vAt e 7) 1))) (s0 := ((gI (vAt e 14)), (gRF L (cAt L (vAt e 7) 2)))) tok impl_made_i3_hO mixed (LoopsOk_eq (l := [(2, bodyOf Try.f78 2)]) (by kernel_rfl) ⟨impl_made_i3_l2_ok v760 v761 v762 v763 v764 v765 v766 v767 v768 v769, trivial⟩) (impl_made_i3_l0_be v760 v761 v762 v763 v764 v765 v766 v767 v768 v769 (gI (cAt L (vAt e 7) 0)) (gI (cAt L (vAt e 7) 1))) rfl (by intro x; rfl) h
noncomputable def impl_made_i3_T (v760 : Int) (v761 : Int) (v762 : Nat) (v763 : Int) (v764 : Int) (v765 : List Nat) (v766 : Nat) (v767 : Int) (v768 : Int) (v769 : List Nat) : Tree (Int × Int × (List Nat)) :=
  (.call (impl_newMatrix_g v760 v761) fun v770 =>
  (.need (some (impl_made_i3_l0_E v760 v761 v762 v763 v764 v765 v766 v767 v768 v769 v770.1 v770.2 ((0 : Int), List.replicate (Int.toNat (IntKind.i64.wrap (v760 * v761))) (0 : Nat))) = some (impl_made_i3_l0_E v760 v761 v762 v763 v764 v765 v766 v767 v768 v769 v770.1 v770.2 ((0 : Int), List.replicate (Int.toNat (IntKind.i64.wrap (v760 * v761))) (0 : Nat)))) <|
  (.call (impl_made_i3_l0_g v760 v761 v762 v763 v764 v765 v766 v767 v768 v769 v770.1 v770.2 ((0 : Int), List.replicate (Int.toNat (IntKind.i64.wrap (v760 * v761))) (0 : Nat))) fun v859 =>
  .leaf (v770.1, v770.2, v859))))

noncomputable def impl_made_i3_g (v760 : Int) (v761 : Int) (v762 : Nat) (v763 : Int) (v764 : Int) (v765 : List Nat) (v766 : Nat) (v767 : Int) (v768 : Int) (v769 : List Nat) : Option (Int × Int × (List Nat)) := (impl_made_i3_T v760 v761 v762 v763 v764 v765 v766 v767 v768 v769).run
def impl_made_i3_enc (v760 : Int) (v761 : Int) (v762 : Nat) (v763 : Int) (v764 : Int) (v765 : List Nat) (v766 : Nat) (v767 : Int) (v768 : Int) (v769 : List Nat) (y : Int × Int × (List Nat)) : Rs := (.agg [.int .i64 y.1, .int .i64 y.2.1, .own 0 0 ((y.2.2).length)], [.row (.f32 y.2.2) 0])
theorem impl_made_i3_den (v760 : Int) (v761 : Int) (v762 : Nat) (v763 : Int) (v764 : Int) (v765 : List Nat) (v766 : Nat) (v767 : Int) (v768 : Int) (v769 : List Nat) : (den TT (tabD impl_made_i3_tab) (tabM impl_made_i3_tab) (impl_made_i3_LO v760 v761 v762 v763 v764 v765 v766 v767 v768 v769) (codeOf Try.f78) ([.int .i64 v760, .int .i64 v761, .fn 178 [.bptr (BR.root 0) [.flt .f32 v762], .bptr (BR.root 1) [.int .i64 v763, .int .i64 v764, .bslc (BR.root 2) (.f32 v765)], .bptr (BR.root 3) [.flt .f32 v766], .bptr (BR.root 4) [.int .i64 v767, .int .i64 v768, .bslc (BR.root 5) (.f32 v769)]]] ++ List.replicate (Try.f78.ntmps - ([.int .i64 v760, .int .i64 v761, .fn 178 [.bptr (BR.root 0) [.flt .f32 v762], .bptr (BR.root 1) [.int .i64 v763, .int .i64 v764, .bslc (BR.root 2) (.f32 v765)], .bptr (BR.root 3) [.flt .f32 v766], .bptr (BR.root 4) [.int .i64 v767, .int .i64 v768, .bslc (BR.root 5) (.f32 v769)]]] : List DV).length) .undef) []).bind (retD TT Try.f78.results.toList 0) = (impl_made_i3_T v760 v761 v762 v763 v764 v765 v766 v767 v768 v769).bind fun y => .leaf (impl_made_i3_enc v760 v761 v762 v763 v764 v765 v766 v767 v768 v769 y) := by kernel_rfl
theorem impl_made_i3_fn (v760 : Int) (v761 : Int) (v762 : Nat) (v763 : Int) (v764 : Int) (v765 : List Nat) (v766 : Nat) (v767 : Int) (v768 : Int) (v769 : List Nat) (F : Fr) (hm : F.ids.length = 0) (h0 : St F [] F.H0) (hA : DVs.Ok F [] [.int .i64 v760, .int .i64 v761, .fn 178 [.bptr (BR.root 0) [.flt .f32 v762], .bptr (BR.root 1) [.int .i64 v763, .int .i64 v764, .bslc (BR.root 2) (.f32 v765)], .bptr (BR.root 3) [.flt .f32 v766], .bptr (BR.root 4) [.int .i64 v767, .int .i64 v768, .bslc (BR.root 5) (.f32 v769)]]]) {y : Int × Int × (List Nat)} (hy : impl_made_i3_g v760 v761 v762 v763 v764 v765 v766 v767 v768 v769 = some y) : ∃ H', FnOk Try.prog 78 (DVs.av F [.int .i64 v760, .int .i64 v761, .fn 178 [.bptr (BR.root 0) [.flt .f32 v762], .bptr (BR.root 1) [.int .i64 v763, .int .i64 v764, .bslc (BR.root 2) (.f32 v765)], .bptr (BR.root 3) [.flt .f32 v766], .bptr (BR.root 4) [.int .i64 v767, .int .i64 v768, .bslc (BR.root 5) (.f32 v769)]]]) F.H0 ((impl_made_i3_enc v760 v761 v762 v763 v764 v765 v766 v767 v768 v769 y).1.av F) H' ∧ St F (impl_made_i3_enc v760 v761 v762 v763 v764 v765 v766 v767 v768 v769 y).2 H' ∧ (impl_made_i3_enc v760 v761 v762 v763 v764 v765 v766 v767 v768 v769 y).1.Ok F (impl_made_i3_enc v760 v761 v762 v763 v764 v765 v766 v767 v768 v769 y).2 :=
  fn_fin tok impl_made_i3_hO mixed Try.func78 Try.call78 (by kernel_rfl) (LoopsOk_eq (l := [(0, bodyOf Try.f78 0)]) (by kernel_rfl) ⟨impl_made_i3_l0_ok v760 v761 v762 v763 v764 v765 v766 v767 v768 v769, trivial⟩) (impl_made_i3_den v760 v761 v762 v763 v764 v765 v766 v767 v768 v769) hy hm h0 hA
noncomputable def impl_made_i3_F : DFn := fun args L =>
  match args with
  | [.int .i64 v760, .int .i64 v761, .fn 178 [a1, a2, a4, a5]] =>
    optT (cellsOf L 1 a1) fun cs0 =>
    (match cs0 with
    | [.flt .f32 v762] =>
    optT (cellsOf L 3 a2) fun cs1 =>
    (match cs1 with
    | [.int .i64 v763, .int .i64 v764, a3] =>
    optT (rowF32 L a3) fun v765 =>
    optT (cellsOf L 1 a4) fun cs3 =>
    (match cs3 with
    | [.flt .f32 v766] =>
    optT (cellsOf L 3 a5) fun cs4 =>
    (match cs4 with
    | [.int .i64 v767, .int .i64 v768, a6] =>
    optT (rowF32 L a6) fun v769 =>
    .call (impl_made_i3_g v760 v761 v762 v763 v764 v765 v766 v767 v768 v769) fun y => .leaf (.agg [.int .i64 y.1, .int .i64 y.2.1, .own (L.length + 0) 0 ((y.2.2).length)], L ++ [.row (.f32 y.2.2) 0])
    | _ => .fail)
    | _ => .fail)
    | _ => .fail)
    | _ => .fail)
  | _ => .fail
theorem impl_made_i3_Fok : COk Try.prog 78 impl_made_i3_F true := by
  intro F L H args r L' hs ha hr
  unfold impl_made_i3_F at hr
  split at hr
  · rename_i v760 v761 a1 a2 a4 a5
    obtain ⟨cs0, hcp0, hr⟩ := optT_run hr
    split at hr
    · rename_i v762
      obtain ⟨cs1, hcp1, hr⟩ := optT_run hr
      split at hr
      · rename_i v763 v764 a3
        obtain ⟨v765, hv765, hr⟩ := optT_run hr
        obtain ⟨cs3, hcp3, hr⟩ := optT_run hr
        split at hr
        · rename_i v766
          obtain ⟨cs4, hcp4, hr⟩ := optT_run hr
          split at hr
          · rename_i v767 v768 a6
            obtain ⟨v769, hv769, hr⟩ := optT_run hr
            simp only [Tree.run] at hr
            obtain ⟨y, hy, hr⟩ := Option.bind_eq_some_iff.1 hr
            simp only [Tree.run, Option.some.injEq, Prod.mk.injEq] at hr
            obtain ⟨rfl, rfl⟩ := hr
            exact call_ok1 hs (fun k => (([a1.av F, a2.av F, a3.av F, a4.av F, a5.av F, a6.av F] : List AV)[k]?).getD .top) [.int .i64 v760, .int .i64 v761, .fn 178 [a1, a2, a4, a5]] [.int .i64 v760, .int .i64 v761, .fn 178 [.bptr (BR.root 0) [.flt .f32 v762], .bptr (BR.root 1) [.int .i64 v763, .int .i64 v764, .bslc (BR.root 2) (.f32 v765)], .bptr (BR.root 3) [.flt .f32 v766], .bptr (BR.root 4) [.int .i64 v767, .int .i64 v768, .bslc (BR.root 5) (.f32 v769)]]] (fun F' h0 hi hρ => ⟨by simp [DVs.av, DV.av, BR.av, hρ], impl_made_i3_fn v760 v761 v762 v763 v764 v765 v766 v767 v768 v769 F' (by rw [hi]; rfl) (st_nil hi) ⟨trivial, trivial, ⟨bptr_ok hi (by rw [h0]; simpa [DVs.av, DV.av, BR.av, hρ] using (cellsOf_ok hs (DVs.okAt (DVs.okAt ha 2 rfl) 0 rfl) hcp0).1) ⟨trivial, trivial⟩, bptr_ok hi (by rw [h0]; simpa [DVs.av, DV.av, BR.av, hρ] using (cellsOf_ok hs (DVs.okAt (DVs.okAt ha 2 rfl) 1 rfl) hcp1).1) ⟨trivial, trivial, bslc_ok hi (by rw [h0, hρ]; exact rowF32_ok hs (DVs.okAt (cellsOf_ok hs (DVs.okAt (DVs.okAt ha 2 rfl) 1 rfl) hcp1).2 2 rfl) hv765), trivial⟩, bptr_ok hi (by rw [h0]; simpa [DVs.av, DV.av, BR.av, hρ] using (cellsOf_ok hs (DVs.okAt (DVs.okAt ha 2 rfl) 2 rfl) hcp3).1) ⟨trivial, trivial⟩, bptr_ok hi (by rw [h0]; simpa [DVs.av, DV.av, BR.av, hρ] using (cellsOf_ok hs (DVs.okAt (DVs.okAt ha 2 rfl) 3 rfl) hcp4).1) ⟨trivial, trivial, bslc_ok hi (by rw [h0, hρ]; exact rowF32_ok hs (DVs.okAt (cellsOf_ok hs (DVs.okAt (DVs.okAt ha 2 rfl) 3 rfl) hcp4).2 2 rfl) hv769), trivial⟩, trivial⟩, trivial⟩ hy⟩) rfl rfl
          · cases hr
        · cases hr
      · cases hr
    · cases hr
  · cases hr
/-! impl.weigh -/
noncomputable def impl_weigh_LO (v752 : Int) (v753 : Int) (v754 : List Nat) (v755 : Int) (v756 : Int) (v757 : List Nat) (v758 : Nat) (v759 : Nat) : LOr := fun id e L =>
  match id with
  | _ => .fail
noncomputable def impl_weigh_tab : List (FuncId × DFn × Bool) := [(78, impl_made_i3_F, true)]
theorem impl_weigh_hO : OrcOk Try.prog (tabD impl_weigh_tab) (tabM impl_weigh_tab) := tabD_cons impl_made_i3_Fok (tabD_nil _)
noncomputable def impl_weigh_T (v752 : Int) (v753 : Int) (v754 : List Nat) (v755 : Int) (v756 : Int) (v757 : List Nat) (v758 : Nat) (v759 : Nat) : Tree (Int × Int × (List Nat)) :=
  (.call (impl_made_i3_g v752 v753 v758 v752 v753 v754 v759 v755 v756 v757) fun v860 =>
  .leaf (v860.1, v860.2.1, v860.2.2))

noncomputable def impl_weigh_g (v752 : Int) (v753 : Int) (v754 : List Nat) (v755 : Int) (v756 : Int) (v757 : List Nat) (v758 : Nat) (v759 : Nat) : Option (Int × Int × (List Nat)) := (impl_weigh_T v752 v753 v754 v755 v756 v757 v758 v759).run
def impl_weigh_enc (v752 : Int) (v753 : Int) (v754 : List Nat) (v755 : Int) (v756 : Int) (v757 : List Nat) (v758 : Nat) (v759 : Nat) (y : Int × Int × (List Nat)) : Rs := (.agg [.int .i64 y.1, .int .i64 y.2.1, .own 0 0 ((y.2.2).length)], [.row (.f32 y.2.2) 0])
theorem impl_weigh_den (v752 : Int) (v753 : Int) (v754 : List Nat) (v755 : Int) (v756 : Int) (v757 : List Nat) (v758 : Nat) (v759 : Nat) : (den TT (tabD impl_weigh_tab) (tabM impl_weigh_tab) (impl_weigh_LO v752 v753 v754 v755 v756 v757 v758 v759) (codeOf Try.f164) ([.agg [.int .i64 v752, .int .i64 v753, .bslc (BR.root 0) (.f32 v754)], .agg [.int .i64 v755, .int .i64 v756, .bslc (BR.root 1) (.f32 v757)], .flt .f32 v758, .flt .f32 v759] ++ List.replicate (Try.f164.ntmps - ([.agg [.int .i64 v752, .int .i64 v753, .bslc (BR.root 0) (.f32 v754)], .agg [.int .i64 v755, .int .i64 v756, .bslc (BR.root 1) (.f32 v757)], .flt .f32 v758, .flt .f32 v759] : List DV).length) .undef) []).bind (retD TT Try.f164.results.toList 0) = (impl_weigh_T v752 v753 v754 v755 v756 v757 v758 v759).bind fun y => .leaf (impl_weigh_enc v752 v753 v754 v755 v756 v757 v758 v759 y) := by kernel_rfl
theorem impl_weigh_fn (v752 : Int) (v753 : Int) (v754 : List Nat) (v755 : Int) (v756 : Int) (v757 : List Nat) (v758 : Nat) (v759 : Nat) (F : Fr) (hm : F.ids.length = 0) (h0 : St F [] F.H0) (hA : DVs.Ok F [] [.agg [.int .i64 v752, .int .i64 v753, .bslc (BR.root 0) (.f32 v754)], .agg [.int .i64 v755, .int .i64 v756, .bslc (BR.root 1) (.f32 v757)], .flt .f32 v758, .flt .f32 v759]) {y : Int × Int × (List Nat)} (hy : impl_weigh_g v752 v753 v754 v755 v756 v757 v758 v759 = some y) : ∃ H', FnOk Try.prog 164 (DVs.av F [.agg [.int .i64 v752, .int .i64 v753, .bslc (BR.root 0) (.f32 v754)], .agg [.int .i64 v755, .int .i64 v756, .bslc (BR.root 1) (.f32 v757)], .flt .f32 v758, .flt .f32 v759]) F.H0 ((impl_weigh_enc v752 v753 v754 v755 v756 v757 v758 v759 y).1.av F) H' ∧ St F (impl_weigh_enc v752 v753 v754 v755 v756 v757 v758 v759 y).2 H' ∧ (impl_weigh_enc v752 v753 v754 v755 v756 v757 v758 v759 y).1.Ok F (impl_weigh_enc v752 v753 v754 v755 v756 v757 v758 v759 y).2 :=
  fn_fin tok impl_weigh_hO mixed Try.func164 Try.call164 (by kernel_rfl) (LoopsOk_eq (l := []) (by kernel_rfl) trivial) (impl_weigh_den v752 v753 v754 v755 v756 v757 v758 v759) hy hm h0 hA
noncomputable def impl_weigh_F : DFn := fun args L =>
  match args with
  | [.agg [.int .i64 v752, .int .i64 v753, a1], .agg [.int .i64 v755, .int .i64 v756, a2], .flt .f32 v758, .flt .f32 v759] =>
    optT (rowF32 L a1) fun v754 =>
    optT (rowF32 L a2) fun v757 =>
    .call (impl_weigh_g v752 v753 v754 v755 v756 v757 v758 v759) fun y => .leaf (.agg [.int .i64 y.1, .int .i64 y.2.1, .own (L.length + 0) 0 ((y.2.2).length)], L ++ [.row (.f32 y.2.2) 0])
  | _ => .fail
theorem impl_weigh_Fok : COk Try.prog 164 impl_weigh_F true := by
  intro F L H args r L' hs ha hr
  unfold impl_weigh_F at hr
  split at hr
  · rename_i v752 v753 a1 v755 v756 a2 v758 v759
    obtain ⟨v754, hv754, hr⟩ := optT_run hr
    obtain ⟨v757, hv757, hr⟩ := optT_run hr
    simp only [Tree.run] at hr
    obtain ⟨y, hy, hr⟩ := Option.bind_eq_some_iff.1 hr
    simp only [Tree.run, Option.some.injEq, Prod.mk.injEq] at hr
    obtain ⟨rfl, rfl⟩ := hr
    exact call_ok1 hs (fun k => (([a1.av F, a2.av F] : List AV)[k]?).getD .top) [.agg [.int .i64 v752, .int .i64 v753, a1], .agg [.int .i64 v755, .int .i64 v756, a2], .flt .f32 v758, .flt .f32 v759] [.agg [.int .i64 v752, .int .i64 v753, .bslc (BR.root 0) (.f32 v754)], .agg [.int .i64 v755, .int .i64 v756, .bslc (BR.root 1) (.f32 v757)], .flt .f32 v758, .flt .f32 v759] (fun F' h0 hi hρ => ⟨by simp [DVs.av, DV.av, BR.av, hρ], impl_weigh_fn v752 v753 v754 v755 v756 v757 v758 v759 F' (by rw [hi]; rfl) (st_nil hi) ⟨⟨trivial, trivial, bslc_ok hi (by rw [h0, hρ]; exact rowF32_ok hs (DVs.okAt (DVs.okAt ha 0 rfl) 2 rfl) hv754), trivial⟩, ⟨trivial, trivial, bslc_ok hi (by rw [h0, hρ]; exact rowF32_ok hs (DVs.okAt (DVs.okAt ha 1 rfl) 2 rfl) hv757), trivial⟩, trivial, trivial, trivial⟩ hy⟩) rfl rfl
  · cases hr
/-! impl.WeighMatrices -/
noncomputable def impl_WeighMatrices_LO (v741 : Int) (v742 : Int) (v743 : List Nat) (v744 : Int) (v745 : Int) (v746 : List Nat) (v747 : Nat) (v748 : Nat) : LOr := fun id e L =>
  match id with
  | _ => .fail
noncomputable def impl_WeighMatrices_tab : List (FuncId × DFn × Bool) := [(67, impl_ValidMatrix_F, true), (68, impl_areFinite_F, true), (164, impl_weigh_F, true), (83, impl_Matrix_valid_F, true)]
theorem impl_WeighMatrices_hO : OrcOk Try.prog (tabD impl_WeighMatrices_tab) (tabM impl_WeighMatrices_tab) := tabD_cons impl_ValidMatrix_Fok (tabD_cons impl_areFinite_Fok (tabD_cons impl_weigh_Fok (tabD_cons impl_Matrix_valid_Fok (tabD_nil _))))
noncomputable def impl_WeighMatrices_T (v741 : Int) (v742 : Int) (v743 : List Nat) (v744 : Int) (v745 : Int) (v746 : List Nat) (v747 : Nat) (v748 : Nat) : Tree ((Unit) ⊕ (Int × Int × (List Nat))) :=
  (.call (impl_ValidMatrix_g v741 v742 v743) fun v749 =>
  (.br (!v749) (
   .leaf (.inl ())
  ) (
   (.call (impl_ValidMatrix_g v744 v745 v746) fun v750 =>
   (.br (!v750) (
    .leaf (.inl ())
   ) (
    (.br (!decide (v741 = v744)) (
     .leaf (.inl ())
    ) (
     (.br (!decide (v742 = v745)) (
      .leaf (.inl ())
     ) (
      (.call (impl_areFinite_g ([v747, v748] : List Nat)) fun v751 =>
      (.br (!v751) (
       .leaf (.inl ())
      ) (
       (.call (impl_weigh_g v741 v742 v743 v744 v745 v746 v747 v748) fun v861 =>
       (.call (impl_Matrix_valid_g v861.1 v861.2.1 v861.2.2) fun v862 =>
       (.sum v862 (fun v863 =>
        .leaf (.inl ())
       ) (fun v864 =>
        .leaf (.inr (v864.1, v864.2, v861.2.2))
       ))))
      )))
     ))
    ))
   )))
  )))

noncomputable def impl_WeighMatrices_g (v741 : Int) (v742 : Int) (v743 : List Nat) (v744 : Int) (v745 : Int) (v746 : List Nat) (v747 : Nat) (v748 : Nat) : Option ((Unit) ⊕ (Int × Int × (List Nat))) := (impl_WeighMatrices_T v741 v742 v743 v744 v745 v746 v747 v748).run
def impl_WeighMatrices_enc (v741 : Int) (v742 : Int) (v743 : List Nat) (v744 : Int) (v745 : Int) (v746 : List Nat) (v747 : Nat) (v748 : Nat) (y : (Unit) ⊕ (Int × Int × (List Nat))) : Rs := (match y with | .inl y => (.tup [.agg [.int .i64 (0 : Int), .int .i64 (0 : Int), .nilslc], .lit false], []) | .inr y => (.tup [.agg [.int .i64 y.1, .int .i64 y.2.1, .own 0 0 ((y.2.2).length)], .lit true], [.row (.f32 y.2.2) 0]))
theorem impl_WeighMatrices_den (v741 : Int) (v742 : Int) (v743 : List Nat) (v744 : Int) (v745 : Int) (v746 : List Nat) (v747 : Nat) (v748 : Nat) : (den TT (tabD impl_WeighMatrices_tab) (tabM impl_WeighMatrices_tab) (impl_WeighMatrices_LO v741 v742 v743 v744 v745 v746 v747 v748) (codeOf Try.f129) ([.agg [.int .i64 v741, .int .i64 v742, .bslc (BR.root 0) (.f32 v743)], .agg [.int .i64 v744, .int .i64 v745, .bslc (BR.root 1) (.f32 v746)], .flt .f32 v747, .flt .f32 v748] ++ List.replicate (Try.f129.ntmps - ([.agg [.int .i64 v741, .int .i64 v742, .bslc (BR.root 0) (.f32 v743)], .agg [.int .i64 v744, .int .i64 v745, .bslc (BR.root 1) (.f32 v746)], .flt .f32 v747, .flt .f32 v748] : List DV).length) .undef) []).bind (retD TT Try.f129.results.toList 0) = (impl_WeighMatrices_T v741 v742 v743 v744 v745 v746 v747 v748).bind fun y => .leaf (impl_WeighMatrices_enc v741 v742 v743 v744 v745 v746 v747 v748 y) := by kernel_rfl
theorem impl_WeighMatrices_fn (v741 : Int) (v742 : Int) (v743 : List Nat) (v744 : Int) (v745 : Int) (v746 : List Nat) (v747 : Nat) (v748 : Nat) (F : Fr) (hm : F.ids.length = 0) (h0 : St F [] F.H0) (hA : DVs.Ok F [] [.agg [.int .i64 v741, .int .i64 v742, .bslc (BR.root 0) (.f32 v743)], .agg [.int .i64 v744, .int .i64 v745, .bslc (BR.root 1) (.f32 v746)], .flt .f32 v747, .flt .f32 v748]) {y : (Unit) ⊕ (Int × Int × (List Nat))} (hy : impl_WeighMatrices_g v741 v742 v743 v744 v745 v746 v747 v748 = some y) : ∃ H', FnOk Try.prog 129 (DVs.av F [.agg [.int .i64 v741, .int .i64 v742, .bslc (BR.root 0) (.f32 v743)], .agg [.int .i64 v744, .int .i64 v745, .bslc (BR.root 1) (.f32 v746)], .flt .f32 v747, .flt .f32 v748]) F.H0 ((impl_WeighMatrices_enc v741 v742 v743 v744 v745 v746 v747 v748 y).1.av F) H' ∧ St F (impl_WeighMatrices_enc v741 v742 v743 v744 v745 v746 v747 v748 y).2 H' ∧ (impl_WeighMatrices_enc v741 v742 v743 v744 v745 v746 v747 v748 y).1.Ok F (impl_WeighMatrices_enc v741 v742 v743 v744 v745 v746 v747 v748 y).2 :=
  fn_fin tok impl_WeighMatrices_hO mixed Try.func129 Try.call129 (by kernel_rfl) (LoopsOk_eq (l := []) (by kernel_rfl) trivial) (impl_WeighMatrices_den v741 v742 v743 v744 v745 v746 v747 v748) hy hm h0 hA
noncomputable def impl_WeighMatrices_F : DFn := fun args L =>
  match args with
  | [.agg [.int .i64 v741, .int .i64 v742, a1], .agg [.int .i64 v744, .int .i64 v745, a2], .flt .f32 v747, .flt .f32 v748] =>
    optT (rowF32 L a1) fun v743 =>
    optT (rowF32 L a2) fun v746 =>
    .call (impl_WeighMatrices_g v741 v742 v743 v744 v745 v746 v747 v748) fun y => .sum y (fun y0 => .leaf (.tup [.agg [.int .i64 (0 : Int), .int .i64 (0 : Int), .nilslc], .lit false], L)) (fun z0 => .leaf (.tup [.agg [.int .i64 z0.1, .int .i64 z0.2.1, .own (L.length + 0) 0 ((z0.2.2).length)], .lit true], L ++ [.row (.f32 z0.2.2) 0]))
  | _ => .fail
theorem impl_WeighMatrices_Fok : COk Try.prog 129 impl_WeighMatrices_F true := by
  intro F L H args r L' hs ha hr
  unfold impl_WeighMatrices_F at hr
  split at hr
  · rename_i v741 v742 a1 v744 v745 a2 v747 v748
    obtain ⟨v743, hv743, hr⟩ := optT_run hr
    obtain ⟨v746, hv746, hr⟩ := optT_run hr
    simp only [Tree.run] at hr
    obtain ⟨y, hy, hr⟩ := Option.bind_eq_some_iff.1 hr
    cases y with
    | inl y =>
      simp only [Tree.run, Option.some.injEq, Prod.mk.injEq] at hr
      obtain ⟨rfl, rfl⟩ := hr
      exact call_ok0 hs (fun k => (([a1.av F, a2.av F] : List AV)[k]?).getD .top) [.agg [.int .i64 v741, .int .i64 v742, a1], .agg [.int .i64 v744, .int .i64 v745, a2], .flt .f32 v747, .flt .f32 v748] [.agg [.int .i64 v741, .int .i64 v742, .bslc (BR.root 0) (.f32 v743)], .agg [.int .i64 v744, .int .i64 v745, .bslc (BR.root 1) (.f32 v746)], .flt .f32 v747, .flt .f32 v748] (fun F' h0 hi hρ => ⟨by simp [DVs.av, DV.av, BR.av, hρ], impl_WeighMatrices_fn v741 v742 v743 v744 v745 v746 v747 v748 F' (by rw [hi]; rfl) (st_nil hi) ⟨⟨trivial, trivial, bslc_ok hi (by rw [h0, hρ]; exact rowF32_ok hs (DVs.okAt (DVs.okAt ha 0 rfl) 2 rfl) hv743), trivial⟩, ⟨trivial, trivial, bslc_ok hi (by rw [h0, hρ]; exact rowF32_ok hs (DVs.okAt (DVs.okAt ha 1 rfl) 2 rfl) hv746), trivial⟩, trivial, trivial, trivial⟩ hy⟩) rfl
    | inr y =>
      simp only [Tree.run, Option.some.injEq, Prod.mk.injEq] at hr
      obtain ⟨rfl, rfl⟩ := hr
      exact call_ok1 hs (fun k => (([a1.av F, a2.av F] : List AV)[k]?).getD .top) [.agg [.int .i64 v741, .int .i64 v742, a1], .agg [.int .i64 v744, .int .i64 v745, a2], .flt .f32 v747, .flt .f32 v748] [.agg [.int .i64 v741, .int .i64 v742, .bslc (BR.root 0) (.f32 v743)], .agg [.int .i64 v744, .int .i64 v745, .bslc (BR.root 1) (.f32 v746)], .flt .f32 v747, .flt .f32 v748] (fun F' h0 hi hρ => ⟨by simp [DVs.av, DV.av, BR.av, hρ], impl_WeighMatrices_fn v741 v742 v743 v744 v745 v746 v747 v748 F' (by rw [hi]; rfl) (st_nil hi) ⟨⟨trivial, trivial, bslc_ok hi (by rw [h0, hρ]; exact rowF32_ok hs (DVs.okAt (DVs.okAt ha 0 rfl) 2 rfl) hv743), trivial⟩, ⟨trivial, trivial, bslc_ok hi (by rw [h0, hρ]; exact rowF32_ok hs (DVs.okAt (DVs.okAt ha 1 rfl) 2 rfl) hv746), trivial⟩, trivial, trivial, trivial⟩ hy⟩) rfl rfl
  · cases hr
/-! impl.PolarPart -/
noncomputable def impl_PolarPart_l0_T (v313 : Int) (s : Unit) : Tree ((Unit) ⊕ ((Unit) ⊕ (Unit))) :=
  (.br (decide ((0 : Int) < v313)) (
   .leaf (.inr (.inl ()))
  ) (
   .leaf (.inr (.inr ()))
  ))

noncomputable def impl_PolarPart_l0_g (v313 : Int) (s0 : Unit) : Option ((Unit) ⊕ (Unit)) := whileM (fun s => (impl_PolarPart_l0_T v313 s).run) s0
def impl_PolarPart_l0_E (v310 : Int) (v311 : Int) (v312 : List Nat) (v313 : Int) (s : Unit) : Sd := ([.top, .top, .top, .top, .ptr 0 (0 : Nat) 0 (3 : Nat), .top, .top, .lit false, .ptr 1 (0 : Nat) 0 (3 : Nat), .top, .top, .top, .top, .top, .top, .top, .top, .top, .top, .top, .top, .top, .top, .top, .top, .top, .top, .top, .top, .top, .top, .top, .top, .top, .top, .top, .top, .top, .top, .top, .top, .top, .top, .top, .int .i64 v313, .int .i64 (0 : Int), .top, .top, .top, .top, .top, .top, .top, .top, .top, .top, .top, .top, .top, .top, .top, .top, .top, .top, .top, .top, .top, .top, .top, .top, .top, .top, .top, .top, .top, .top, .top, .top], [.gen [.int .i64 (0 : Int), .int .i64 (0 : Int), .nilslc] false 0, .gen [.int .i64 (0 : Int), .int .i64 (0 : Int), .nilslc] false 0])
def impl_PolarPart_l0_X (v310 : Int) (v311 : Int) (v312 : List Nat) (v313 : Int) (x : (Unit) ⊕ (Unit)) : Out := (match x with | .inl x => (.ret, [.top, .top, .top, .top, .ptr 0 (0 : Nat) 0 (3 : Nat), .lit false, .top, .top, .top, .top, .top, .top, .top, .top, .top, .top, .top, .top, .top, .top, .top, .top, .top, .top, .top, .top, .top, .top, .top, .top, .top, .top, .top, .top, .top, .top, .top, .top, .top, .top, .top, .top, .top, .top, .top, .top, .top, .top, .top, .top, .top, .top, .top, .top, .top, .top, .top, .top, .top, .top, .top, .top, .top, .top, .top, .top, .top, .top, .top, .top, .top, .top, .top, .top, .top, .top, .top, .top], [.gen [.int .i64 (0 : Int), .int .i64 (0 : Int), .nilslc] false 0]) | .inr x => (.normal, [.top, .top, .top, .top, .ptr 0 (0 : Nat) 0 (3 : Nat), .top, .top, .lit false, .ptr 1 (0 : Nat) 0 (3 : Nat), .top, .top, .top, .top, .top, .top, .top, .top, .top, .top, .top, .top, .top, .top, .top, .top, .top, .top, .top, .top, .top, .top, .top, .top, .top, .top, .top, .top, .top, .top, .top, .top, .top, .top, .top, .top, .top, .top, .top, .top, .top, .top, .top, .top, .top, .top, .top, .top, .top, .top, .top, .top, .top, .top, .top, .top, .top, .top, .top, .top, .top, .top, .top, .top, .top, .top, .top, .top, .top], [.gen [.int .i64 (0 : Int), .int .i64 (0 : Int), .nilslc] false 0, .gen [.int .i64 (0 : Int), .int .i64 (0 : Int), .nilslc] false 0]))
def impl_PolarPart_l0_kill : List Nat := [1, 1, 1, 1, 0, 1, 1, 0, 0, 1, 1, 1, 1, 1, 1, 1, 1, 1, 1, 1, 1, 1, 1, 1, 1, 1, 1, 1, 1, 1, 1, 1, 1, 1, 1, 1, 1, 1, 1, 1, 1, 1, 1, 1, 0, 0, 1, 1, 1, 1, 1, 1, 1, 1, 1, 1, 1, 1, 1, 1, 1, 1, 1, 1, 1, 1, 1, 1, 1, 1, 1, 1, 1, 1, 1, 1, 1, 1]
def impl_PolarPart_l0_nx : Exit → List Nat
  | .exit 0 => [1, 1, 1, 1, 0, 1, 1, 0, 0, 1, 1, 1, 1, 1, 1, 1, 1, 1, 1, 1, 1, 1, 1, 1, 1, 1, 1, 1, 1, 1, 1, 1, 1, 1, 1, 1, 1, 1, 1, 1, 1, 1, 1, 1, 1, 1, 1, 1, 1, 1, 1, 1, 1, 1, 1, 1, 1, 1, 1, 1, 1, 1, 1, 1, 1, 1, 1, 1, 1, 1, 1, 1, 1, 1, 1, 1, 1, 1]
  | .ret => [1, 1, 1, 1, 0, 0, 1, 1, 1, 1, 1, 1, 1, 1, 1, 1, 1, 1, 1, 1, 1, 1, 1, 1, 1, 1, 1, 1, 1, 1, 1, 1, 1, 1, 1, 1, 1, 1, 1, 1, 1, 1, 1, 1, 1, 1, 1, 1, 1, 1, 1, 1, 1, 1, 1, 1, 1, 1, 1, 1, 1, 1, 1, 1, 1, 1, 1, 1, 1, 1, 1, 1, 1, 1, 1, 1, 1, 1]
  | _ => []
noncomputable def impl_PolarPart_l0_1_T (v313 : Int) (s : (Int × Int × Int × (List Nat)) ⊕ (Int)) : Tree (((Int × Int × Int × (List Nat)) ⊕ (Int)) ⊕ ((Unit) ⊕ ((Int × Int × (List Nat)) ⊕ (Unit)))) :=
  (match s with
  | .inl s => (
  (.br (decide (s.1 < v313)) (
   (.call (impl_Matrix_flip_g s.2.1 s.2.2.1 s.2.2.2) fun v906 =>
   (.call (impl_MulMatrices_g v906.1 v906.2.1 v906.2.2 s.2.1 s.2.2.1 s.2.2.2) fun v907 =>
   (.sum v907 (fun v908 =>
    .leaf (.inr (.inl ()))
   ) (fun v909 =>
    (.call (impl_MulMatrices_g s.2.1 s.2.2.1 s.2.2.2 v909.1 v909.2.1 v909.2.2) fun v910 =>
    (.sum v910 (fun v911 =>
     .leaf (.inr (.inl ()))
    ) (fun v912 =>
     (.call (impl_WeighMatrices_g s.2.1 s.2.2.1 s.2.2.2 v912.1 v912.2.1 v912.2.2 (1069547520 : Nat) (3204448256 : Nat)) fun v913 =>
     (.sum v913 (fun v914 =>
      .leaf (.inl (.inr (IntKind.i64.wrap (s.1 + (1 : Int)))))
     ) (fun v915 =>
      .leaf (.inl (.inl (IntKind.i64.wrap (s.1 + (1 : Int)), v915.1, v915.2.1, v915.2.2)))
     )))
    )))
   ))))
  ) (
   .leaf (.inr (.inr (.inl (s.2.1, s.2.2.1, s.2.2.2))))
  )))
  | .inr s => (
  (.br (decide (s < v313)) (
   .leaf (.inr (.inl ()))
  ) (
   .leaf (.inr (.inr (.inr ())))
  ))))

noncomputable def impl_PolarPart_l0_1_g (v313 : Int) (s0 : (Int × Int × Int × (List Nat)) ⊕ (Int)) : Option ((Unit) ⊕ ((Int × Int × (List Nat)) ⊕ (Unit))) := whileM (fun s => (impl_PolarPart_l0_1_T v313 s).run) s0
def impl_PolarPart_l0_1_E (v310 : Int) (v311 : Int) (v312 : List Nat) (v313 : Int) (s : (Int × Int × Int × (List Nat)) ⊕ (Int)) : Sd := (match s with | .inl s => ( ([.top, .top, .top, .top, .ptr 0 (0 : Nat) 0 (3 : Nat), .top, .top, .lit true, .ptr 1 (0 : Nat) 0 (3 : Nat), .top, .top, .top, .top, .top, .top, .top, .top, .top, .top, .top, .top, .top, .top, .top, .top, .top, .top, .top, .top, .top, .top, .top, .top, .top, .top, .top, .top, .top, .top, .top, .top, .top, .top, .top, .int .i64 v313, .int .i64 s.1, .top, .top, .top, .top, .top, .top, .top, .top, .top, .top, .top, .top, .top, .top, .top, .top, .top, .top, .top, .top, .top, .top, .top, .top, .top, .top, .top, .top, .top, .top, .top, .top], [.gen [.int .i64 (0 : Int), .int .i64 (0 : Int), .nilslc] false 0, .gen [.int .i64 s.2.1, .int .i64 s.2.2.1, .own 2 0 ((s.2.2.2).length)] false 0, .row (.f32 s.2.2.2) 0])) | .inr s => ( ([.top, .top, .top, .top, .ptr 0 (0 : Nat) 0 (3 : Nat), .top, .top, .lit false, .ptr 1 (0 : Nat) 0 (3 : Nat), .top, .top, .top, .top, .top, .top, .top, .top, .top, .top, .top, .top, .top, .top, .top, .top, .top, .top, .top, .top, .top, .top, .top, .top, .top, .top, .top, .top, .top, .top, .top, .top, .top, .top, .top, .int .i64 v313, .int .i64 s, .top, .top, .top, .top, .top, .top, .top, .top, .top, .top, .top, .top, .top, .top, .top, .top, .top, .top, .top, .top, .top, .top, .top, .top, .top, .top, .top, .top, .top, .top, .top, .top], [.gen [.int .i64 (0 : Int), .int .i64 (0 : Int), .nilslc] false 0, .gen [.int .i64 (0 : Int), .int .i64 (0 : Int), .nilslc] false 0]))) 
def impl_PolarPart_l0_1_X (v310 : Int) (v311 : Int) (v312 : List Nat) (v313 : Int) (x : (Unit) ⊕ ((Int × Int × (List Nat)) ⊕ (Unit))) : Out := (match x with | .inl x => (.ret, [.top, .top, .top, .top, .ptr 0 (0 : Nat) 0 (3 : Nat), .lit false, .top, .top, .top, .top, .top, .top, .top, .top, .top, .top, .top, .top, .top, .top, .top, .top, .top, .top, .top, .top, .top, .top, .top, .top, .top, .top, .top, .top, .top, .top, .top, .top, .top, .top, .top, .top, .top, .top, .top, .top, .top, .top, .top, .top, .top, .top, .top, .top, .top, .top, .top, .top, .top, .top, .top, .top, .top, .top, .top, .top, .top, .top, .top, .top, .top, .top, .top, .top, .top, .top, .top, .top], [.gen [.int .i64 (0 : Int), .int .i64 (0 : Int), .nilslc] false 0]) | .inr x => (match x with | .inl x => (.normal, [.top, .top, .top, .top, .ptr 0 (0 : Nat) 0 (3 : Nat), .top, .top, .lit true, .ptr 1 (0 : Nat) 0 (3 : Nat), .top, .top, .top, .top, .top, .top, .top, .top, .top, .top, .top, .top, .top, .top, .top, .top, .top, .top, .top, .top, .top, .top, .top, .top, .top, .top, .top, .top, .top, .top, .top, .top, .top, .top, .top, .top, .top, .top, .top, .top, .top, .top, .top, .top, .top, .top, .top, .top, .top, .top, .top, .top, .top, .top, .top, .top, .top, .top, .top, .top, .top, .top, .top, .top, .top, .top, .top, .top, .top], [.gen [.int .i64 (0 : Int), .int .i64 (0 : Int), .nilslc] false 0, .gen [.int .i64 x.1, .int .i64 x.2.1, .own 2 0 ((x.2.2).length)] false 0, .row (.f32 x.2.2) 0]) | .inr x => (.normal, [.top, .top, .top, .top, .ptr 0 (0 : Nat) 0 (3 : Nat), .top, .top, .lit false, .ptr 1 (0 : Nat) 0 (3 : Nat), .top, .top, .top, .top, .top, .top, .top, .top, .top, .top, .top, .top, .top, .top, .top, .top, .top, .top, .top, .top, .top, .top, .top, .top, .top, .top, .top, .top, .top, .top, .top, .top, .top, .top, .top, .top, .top, .top, .top, .top, .top, .top, .top, .top, .top, .top, .top, .top, .top, .top, .top, .top, .top, .top, .top, .top, .top, .top, .top, .top, .top, .top, .top, .top, .top, .top, .top, .top, .top], [.gen [.int .i64 (0 : Int), .int .i64 (0 : Int), .nilslc] false 0, .gen [.int .i64 (0 : Int), .int .i64 (0 : Int), .nilslc] false 0])))
def impl_PolarPart_l0_1_kill : List Nat := [1, 1, 1, 1, 0, 1, 1, 0, 0, 1, 1, 1, 1, 1, 1, 1, 1, 1, 1, 1, 1, 1, 1, 1, 1, 1, 1, 1, 1, 1, 1, 1, 1, 1, 1, 1, 1, 1, 1, 1, 1, 1, 1, 1, 0, 0, 1, 1, 1, 1, 1, 1, 1, 1, 1, 1, 1, 1, 1, 1, 1, 1, 1, 1, 1, 1, 1, 1, 1, 1, 1, 1, 1, 1, 1, 1, 1, 1]
def impl_PolarPart_l0_1_nx : Exit → List Nat
  | .exit 0 => [1, 1, 1, 1, 0, 1, 1, 0, 0, 1, 1, 1, 1, 1, 1, 1, 1, 1, 1, 1, 1, 1, 1, 1, 1, 1, 1, 1, 1, 1, 1, 1, 1, 1, 1, 1, 1, 1, 1, 1, 1, 1, 1, 1, 1, 1, 1, 1, 1, 1, 1, 1, 1, 1, 1, 1, 1, 1, 1, 1, 1, 1, 1, 1, 1, 1, 1, 1, 1, 1, 1, 1, 1, 1, 1, 1, 1, 1]
  | .ret => [1, 1, 1, 1, 0, 0, 1, 1, 1, 1, 1, 1, 1, 1, 1, 1, 1, 1, 1, 1, 1, 1, 1, 1, 1, 1, 1, 1, 1, 1, 1, 1, 1, 1, 1, 1, 1, 1, 1, 1, 1, 1, 1, 1, 1, 1, 1, 1, 1, 1, 1, 1, 1, 1, 1, 1, 1, 1, 1, 1, 1, 1, 1, 1, 1, 1, 1, 1, 1, 1, 1, 1, 1, 1, 1, 1, 1, 1]
  | _ => []
noncomputable def impl_PolarPart_LO (v310 : Int) (v311 : Int) (v312 : List Nat) (v313 : Int) : LOr := fun id e L =>
  match id with
  | 0 => (match (match (vAt e 7) with | .lit false => true | _ => false) with | true => .need (normA 0 impl_PolarPart_l0_kill e L = some (impl_PolarPart_l0_E v310 v311 v312 v313 ())) (.call (impl_PolarPart_l0_g v313 ()) fun x => .sum x (fun b0 => .leaf (impl_PolarPart_l0_X v310 v311 v312 v313 (.inl b0))) (fun c0 => .leaf (impl_PolarPart_l0_X v310 v311 v312 v313 (.inr c0)))) | false => .need (normA 0 impl_PolarPart_l0_1_kill e L = some (impl_PolarPart_l0_1_E v310 v311 v312 v313 (.inl ((gI (vAt e 45)), (gI (cAt L (vAt e 8) 0)), (gI (cAt L (vAt e 8) 1)), (gRF L (cAt L (vAt e 8) 2)))))) (.call (impl_PolarPart_l0_1_g v313 (.inl ((gI (vAt e 45)), (gI (cAt L (vAt e 8) 0)), (gI (cAt L (vAt e 8) 1)), (gRF L (cAt L (vAt e 8) 2))))) fun x => .sum x (fun b0 => .leaf (impl_PolarPart_l0_1_X v310 v311 v312 v313 (.inl b0))) (fun c0 => .sum c0 (fun b1 => .leaf (impl_PolarPart_l0_1_X v310 v311 v312 v313 (.inr (.inl b1)))) (fun c1 => .leaf (impl_PolarPart_l0_1_X v310 v311 v312 v313 (.inr (.inr c1)))))))
  | _ => .fail
noncomputable def impl_PolarPart_tab : List (FuncId × DFn × Bool) := [(62, impl_isSquare_F, true), (125, impl_isRounds_F, true), (126, impl_WholeNorm_F, true), (78, impl_made_F, true), (83, impl_Matrix_valid_F, true), (128, impl_Matrix_flip_F, true), (74, impl_MulMatrices_F, true), (129, impl_WeighMatrices_F, true)]
theorem impl_PolarPart_hO : OrcOk Try.prog (tabD impl_PolarPart_tab) (tabM impl_PolarPart_tab) := tabD_cons impl_isSquare_Fok (tabD_cons impl_isRounds_Fok (tabD_cons impl_WholeNorm_Fok (tabD_cons impl_made_Fok (tabD_cons impl_Matrix_valid_Fok (tabD_cons impl_Matrix_flip_Fok (tabD_cons impl_MulMatrices_Fok (tabD_cons impl_WeighMatrices_Fok (tabD_nil _))))))))
theorem impl_PolarPart_l0_be (v310 : Int) (v311 : Int) (v312 : List Nat) (v313 : Int) (s : Unit) : bodyT TT (tabD impl_PolarPart_tab) (tabM impl_PolarPart_tab) (impl_PolarPart_LO v310 v311 v312 v313) 0 impl_PolarPart_l0_kill impl_PolarPart_l0_nx (bodyOf Try.f53 0) 0 (impl_PolarPart_l0_E v310 v311 v312 v313 s) = (impl_PolarPart_l0_T v313 s).bind fun y => .leaf (outS (impl_PolarPart_l0_E v310 v311 v312 v313) (impl_PolarPart_l0_X v310 v311 v312 v313) y) := by kernel_rfl
theorem impl_PolarPart_l0_1_be0 (v310 : Int) (v311 : Int) (v312 : List Nat) (v313 : Int) (s : Int × Int × Int × (List Nat)) : bodyT TT (tabD impl_PolarPart_tab) (tabM impl_PolarPart_tab) (impl_PolarPart_LO v310 v311 v312 v313) 0 impl_PolarPart_l0_1_kill impl_PolarPart_l0_1_nx (bodyOf Try.f53 0) 0 (impl_PolarPart_l0_1_E v310 v311 v312 v313 (.inl s)) = (impl_PolarPart_l0_1_T v313 (.inl s)).bind fun y => .leaf (outS (impl_PolarPart_l0_1_E v310 v311 v312 v313) (impl_PolarPart_l0_1_X v310 v311 v312 v313) y) := by kernel_rfl
theorem impl_PolarPart_l0_1_be1 (v310 : Int) (v311 : Int) (v312 : List Nat) (v313 : Int) (s : Int) : bodyT TT (tabD impl_PolarPart_tab) (tabM impl_PolarPart_tab) (impl_PolarPart_LO v310 v311 v312 v313) 0 impl_PolarPart_l0_1_kill impl_PolarPart_l0_1_nx (bodyOf Try.f53 0) 0 (impl_PolarPart_l0_1_E v310 v311 v312 v313 (.inr s)) = (impl_PolarPart_l0_1_T v313 (.inr s)).bind fun y => .leaf (outS (impl_PolarPart_l0_1_E v310 v311 v312 v313) (impl_PolarPart_l0_1_X v310 v311 v312 v313) y) := by kernel_rfl
theorem impl_PolarPart_l0_1_be (v310 : Int) (v311 : Int) (v312 : List Nat) (v313 : Int) (s : (Int × Int × Int × (List Nat)) ⊕ (Int)) : bodyT TT (tabD impl_PolarPart_tab) (tabM impl_PolarPart_tab) (impl_PolarPart_LO v310 v311 v312 v313) 0 impl_PolarPart_l0_1_kill impl_PolarPart_l0_1_nx (bodyOf Try.f53 0) 0 (impl_PolarPart_l0_1_E v310 v311 v312 v313 s) = (impl_PolarPart_l0_1_T v313 s).bind fun y => .leaf (outS (impl_PolarPart_l0_1_E v310 v311 v312 v313) (impl_PolarPart_l0_1_X v310 v311 v312 v313) y) := by 
  rcases s with s | s
  · exact impl_PolarPart_l0_1_be0 v310 v311 v312 v313 s
  · exact impl_PolarPart_l0_1_be1 v310 v311 v312 v313 s
theorem impl_PolarPart_l0_ok (v310 : Int) (v311 : Int) (v312 : List Nat) (v313 : Int) : LSound Try.prog 0 (impl_PolarPart_LO v310 v311 v312 v313) 0 (bodyOf Try.f53 0) := by
  intro e L out h
  change (match (match (vAt e 7) with | .lit false => true | _ => false) with | true => _ | false => _ : Tree Out).run = some out at h
  split at h
  · exact lo_ok (E := impl_PolarPart_l0_E v310 v311 v312 v313) (gT := impl_PolarPart_l0_T v313) (X := impl_PolarPart_l0_X v310 v311 v312 v313) (s0 := ()) tok impl_PolarPart_hO mixed (LoopsOk_eq (l := []) (by kernel_rfl) trivial) (impl_PolarPart_l0_be v310 v311 v312 v313) rfl (by intro x; (cases x with | inl b => rfl | inr x => exact rfl)) h
  ·
    exact lo_ok (E := impl_PolarPart_l0_1_E v310 v311 v312 v313) (gT := impl_PolarPart_l0_1_T v313) (X := impl_PolarPart_l0_1_X v310 v311 v312 v313) (s0 := .inl ((gI (vAt e 45)), (gI (cAt L (vAt e 8) 0)), (gI (cAt L (vAt e 8) 1)), (gRF L (cAt L (vAt e 8) 2)))) tok impl_PolarPart_hO mixed (LoopsOk_eq (l := []) (by kernel_rfl) trivial) (impl_PolarPart_l0_1_be v310 v311 v312 v313) rfl (by intro x; (cases x with | inl b => rfl | inr x => (cases x with | inl b => rfl | inr x => exact rfl))) h
noncomputable def impl_PolarPart_T (v310 : Int) (v311 : Int) (v312 : List Nat) (v313 : Int) : Tree ((Unit) ⊕ (Int × Int × (List Nat))) :=
  (.call (impl_isSquare_g v310 v311 v312) fun v344 =>
  (.br (!v344) (
   .leaf (.inl ())
  ) (
   (.br (!(impl_isRounds_v v313)) (
    .leaf (.inl ())
   ) (
    (.call (impl_WholeNorm_g v310 v311 v312) fun v370 =>
    (.sum v370 (fun v371 =>
     .leaf (.inl ())
    ) (fun v372 =>
     (.br (!(fgrt .f32 v372 (0 : Nat))) (
      .leaf (.inl ())
     ) (
      (.call (impl_made_g v310 v310 v310 v311 v312 v372) fun v483 =>
      (.call (impl_Matrix_valid_g v483.1 v483.2.1 v483.2.2) fun v488 =>
      (.sum v488 (fun v489 =>
       (.need (some (impl_PolarPart_l0_E v310 v311 v312 v313 ()) = some (impl_PolarPart_l0_E v310 v311 v312 v313 ())) <|
       (.call (impl_PolarPart_l0_g v313 ()) fun v492 =>
       (.sum v492 (fun v493 =>
        .leaf (.inl ())
       ) (fun v494 =>
        .leaf (.inl ())
       ))))
      ) (fun v490 =>
       (.need (some (impl_PolarPart_l0_1_E v310 v311 v312 v313 (.inl ((0 : Int), v490.1, v490.2, v483.2.2))) = some (impl_PolarPart_l0_1_E v310 v311 v312 v313 (.inl ((0 : Int), v490.1, v490.2, v483.2.2)))) <|
       (.call (impl_PolarPart_l0_1_g v313 (.inl ((0 : Int), v490.1, v490.2, v483.2.2))) fun v916 =>
       (.sum v916 (fun v917 =>
        .leaf (.inl ())
       ) (fun v918 =>
        (.sum v918 (fun v919 =>
         .leaf (.inr (v919.1, v919.2.1, v919.2.2))
        ) (fun v920 =>
         .leaf (.inl ())
        ))
       ))))
      ))))
     ))
    )))
   ))
  )))

noncomputable def impl_PolarPart_g (v310 : Int) (v311 : Int) (v312 : List Nat) (v313 : Int) : Option ((Unit) ⊕ (Int × Int × (List Nat))) := (impl_PolarPart_T v310 v311 v312 v313).run
def impl_PolarPart_enc (v310 : Int) (v311 : Int) (v312 : List Nat) (v313 : Int) (y : (Unit) ⊕ (Int × Int × (List Nat))) : Rs := (match y with | .inl y => (.tup [.agg [.int .i64 (0 : Int), .int .i64 (0 : Int), .nilslc], .lit false], []) | .inr y => (.tup [.agg [.int .i64 y.1, .int .i64 y.2.1, .own 0 0 ((y.2.2).length)], .lit true], [.row (.f32 y.2.2) 0]))
theorem impl_PolarPart_den (v310 : Int) (v311 : Int) (v312 : List Nat) (v313 : Int) : (den TT (tabD impl_PolarPart_tab) (tabM impl_PolarPart_tab) (impl_PolarPart_LO v310 v311 v312 v313) (codeOf Try.f53) ([.agg [.int .i64 v310, .int .i64 v311, .bslc (BR.root 0) (.f32 v312)], .int .i64 v313] ++ List.replicate (Try.f53.ntmps - ([.agg [.int .i64 v310, .int .i64 v311, .bslc (BR.root 0) (.f32 v312)], .int .i64 v313] : List DV).length) .undef) []).bind (retD TT Try.f53.results.toList 0) = (impl_PolarPart_T v310 v311 v312 v313).bind fun y => .leaf (impl_PolarPart_enc v310 v311 v312 v313 y) := by kernel_rfl
theorem impl_PolarPart_fn (v310 : Int) (v311 : Int) (v312 : List Nat) (v313 : Int) (F : Fr) (hm : F.ids.length = 0) (h0 : St F [] F.H0) (hA : DVs.Ok F [] [.agg [.int .i64 v310, .int .i64 v311, .bslc (BR.root 0) (.f32 v312)], .int .i64 v313]) {y : (Unit) ⊕ (Int × Int × (List Nat))} (hy : impl_PolarPart_g v310 v311 v312 v313 = some y) : ∃ H', FnOk Try.prog 53 (DVs.av F [.agg [.int .i64 v310, .int .i64 v311, .bslc (BR.root 0) (.f32 v312)], .int .i64 v313]) F.H0 ((impl_PolarPart_enc v310 v311 v312 v313 y).1.av F) H' ∧ St F (impl_PolarPart_enc v310 v311 v312 v313 y).2 H' ∧ (impl_PolarPart_enc v310 v311 v312 v313 y).1.Ok F (impl_PolarPart_enc v310 v311 v312 v313 y).2 :=
  fn_fin tok impl_PolarPart_hO mixed Try.func53 Try.call53 (by kernel_rfl) (LoopsOk_eq (l := [(0, bodyOf Try.f53 0)]) (by kernel_rfl) ⟨impl_PolarPart_l0_ok v310 v311 v312 v313, trivial⟩) (impl_PolarPart_den v310 v311 v312 v313) hy hm h0 hA
noncomputable def impl_PolarPart_F : DFn := fun args L =>
  match args with
  | [.agg [.int .i64 v310, .int .i64 v311, a1], .int .i64 v313] =>
    optT (rowF32 L a1) fun v312 =>
    .call (impl_PolarPart_g v310 v311 v312 v313) fun y => .sum y (fun y0 => .leaf (.tup [.agg [.int .i64 (0 : Int), .int .i64 (0 : Int), .nilslc], .lit false], L)) (fun z0 => .leaf (.tup [.agg [.int .i64 z0.1, .int .i64 z0.2.1, .own (L.length + 0) 0 ((z0.2.2).length)], .lit true], L ++ [.row (.f32 z0.2.2) 0]))
  | _ => .fail
theorem impl_PolarPart_Fok : COk Try.prog 53 impl_PolarPart_F true := by
  intro F L H args r L' hs ha hr
  unfold impl_PolarPart_F at hr
  split at hr
  · rename_i v310 v311 a1 v313
    obtain ⟨v312, hv312, hr⟩ := optT_run hr
    simp only [Tree.run] at hr
    obtain ⟨y, hy, hr⟩ := Option.bind_eq_some_iff.1 hr
    cases y with
    | inl y =>
      simp only [Tree.run, Option.some.injEq, Prod.mk.injEq] at hr
      obtain ⟨rfl, rfl⟩ := hr
      exact call_ok0 hs (fun k => (([a1.av F] : List AV)[k]?).getD .top) [.agg [.int .i64 v310, .int .i64 v311, a1], .int .i64 v313] [.agg [.int .i64 v310, .int .i64 v311, .bslc (BR.root 0) (.f32 v312)], .int .i64 v313] (fun F' h0 hi hρ => ⟨by simp [DVs.av, DV.av, BR.av, hρ], impl_PolarPart_fn v310 v311 v312 v313 F' (by rw [hi]; rfl) (st_nil hi) ⟨⟨trivial, trivial, bslc_ok hi (by rw [h0, hρ]; exact rowF32_ok hs (DVs.okAt (DVs.okAt ha 0 rfl) 2 rfl) hv312), trivial⟩, trivial, trivial⟩ hy⟩) rfl
    | inr y =>
      simp only [Tree.run, Option.some.injEq, Prod.mk.injEq] at hr
      obtain ⟨rfl, rfl⟩ := hr
      exact call_ok1 hs (fun k => (([a1.av F] : List AV)[k]?).getD .top) [.agg [.int .i64 v310, .int .i64 v311, a1], .int .i64 v313] [.agg [.int .i64 v310, .int .i64 v311, .bslc (BR.root 0) (.f32 v312)], .int .i64 v313] (fun F' h0 hi hρ => ⟨by simp [DVs.av, DV.av, BR.av, hρ], impl_PolarPart_fn v310 v311 v312 v313 F' (by rw [hi]; rfl) (st_nil hi) ⟨⟨trivial, trivial, bslc_ok hi (by rw [h0, hρ]; exact rowF32_ok hs (DVs.okAt (DVs.okAt ha 0 rfl) 2 rfl) hv312), trivial⟩, trivial, trivial⟩ hy⟩) rfl rfl
  · cases hr
/-! laws.sameFloat -/
noncomputable def laws_sameFloat_LO (v933 : Nat) (v934 : Nat) : LOr := fun id e L =>
  match id with
  | _ => .fail
noncomputable def laws_sameFloat_tab : List (FuncId × DFn × Bool) := []
theorem laws_sameFloat_hO : OrcOk Try.prog (tabD laws_sameFloat_tab) (tabM laws_sameFloat_tab) := tabD_nil _
noncomputable def laws_sameFloat_T (v933 : Nat) (v934 : Nat) : Tree (Bool) :=
  (.br (!feq .f64 v933 v933) (
   (.br (!feq .f64 v933 v933) (
    .leaf (!feq .f64 v934 v934)
   ) (
    .leaf false
   ))
  ) (
   (.br (!feq .f64 v934 v934) (
    (.br (!feq .f64 v933 v933) (
     .leaf (!feq .f64 v934 v934)
    ) (
     .leaf false
    ))
   ) (
    (.br (feq .f64 v933 (0 : Nat)) (
     (.br (feq .f64 v934 (0 : Nat)) (
      .leaf ((fgrt .f64 (fdiv .f64 (4607182418800017408 : Nat) v933) (0 : Nat)) == (fgrt .f64 (fdiv .f64 (4607182418800017408 : Nat) v934) (0 : Nat)))
     ) (
      .leaf (feq .f64 v933 v934)
     ))
    ) (
     .leaf (feq .f64 v933 v934)
    ))
   ))
  ))

noncomputable def laws_sameFloat_g (v933 : Nat) (v934 : Nat) : Option (Bool) := (laws_sameFloat_T v933 v934).run
def laws_sameFloat_enc (v933 : Nat) (v934 : Nat) (y : Bool) : Rs := (.bool y, [])
theorem laws_sameFloat_den (v933 : Nat) (v934 : Nat) : (den TT (tabD laws_sameFloat_tab) (tabM laws_sameFloat_tab) (laws_sameFloat_LO v933 v934) (codeOf Try.f31) ([.flt .f64 v933, .flt .f64 v934] ++ List.replicate (Try.f31.ntmps - ([.flt .f64 v933, .flt .f64 v934] : List DV).length) .undef) []).bind (retD TT Try.f31.results.toList 0) = (laws_sameFloat_T v933 v934).bind fun y => .leaf (laws_sameFloat_enc v933 v934 y) := by kernel_rfl
theorem laws_sameFloat_fn (v933 : Nat) (v934 : Nat) (F : Fr) (hm : F.ids.length = 0) (h0 : St F [] F.H0) (hA : DVs.Ok F [] [.flt .f64 v933, .flt .f64 v934]) {y : Bool} (hy : laws_sameFloat_g v933 v934 = some y) : ∃ H', FnOk Try.prog 31 (DVs.av F [.flt .f64 v933, .flt .f64 v934]) F.H0 ((laws_sameFloat_enc v933 v934 y).1.av F) H' ∧ St F (laws_sameFloat_enc v933 v934 y).2 H' ∧ (laws_sameFloat_enc v933 v934 y).1.Ok F (laws_sameFloat_enc v933 v934 y).2 :=
  fn_fin tok laws_sameFloat_hO mixed Try.func31 Try.call31 (by kernel_rfl) (LoopsOk_eq (l := []) (by kernel_rfl) trivial) (laws_sameFloat_den v933 v934) hy hm h0 hA
def laws_sameFloat_v (v933 : Nat) (v934 : Nat) : Bool :=
  if (!feq .f64 v933 v933) = true then (
   if (!feq .f64 v933 v933) = true then (
    !feq .f64 v934 v934
   ) else (
    false
   )
  ) else (
   if (!feq .f64 v934 v934) = true then (
    if (!feq .f64 v933 v933) = true then (
     !feq .f64 v934 v934
    ) else (
     false
    )
   ) else (
    if (feq .f64 v933 (0 : Nat)) = true then (
     if (feq .f64 v934 (0 : Nat)) = true then (
      (fgrt .f64 (fdiv .f64 (4607182418800017408 : Nat) v933) (0 : Nat)) == (fgrt .f64 (fdiv .f64 (4607182418800017408 : Nat) v934) (0 : Nat))
     ) else (
      feq .f64 v933 v934
     )
    ) else (
     feq .f64 v933 v934
    )
   )
  )
theorem laws_sameFloat_tot (v933 : Nat) (v934 : Nat) : laws_sameFloat_g v933 v934 = some (laws_sameFloat_v v933 v934) := by
  unfold laws_sameFloat_g laws_sameFloat_T laws_sameFloat_v
  simp only [Tree.run]
  repeat' (first | rfl | split)
noncomputable def laws_sameFloat_F : DFn := fun args L =>
  match args with
  | [.flt .f64 v933, .flt .f64 v934] =>
    .leaf (.bool (laws_sameFloat_v v933 v934), L)
  | _ => .fail
theorem laws_sameFloat_Fok : COk Try.prog 31 laws_sameFloat_F true := by
  intro F L H args r L' hs ha hr
  unfold laws_sameFloat_F at hr
  split at hr
  · rename_i v933 v934
    have hy := laws_sameFloat_tot v933 v934
    generalize laws_sameFloat_v v933 v934 = y at hy hr
    simp only [Tree.run, Option.some.injEq, Prod.mk.injEq] at hr
    obtain ⟨rfl, rfl⟩ := hr
    exact call_ok0 hs (fun k => (([] : List AV)[k]?).getD .top) [.flt .f64 v933, .flt .f64 v934] [.flt .f64 v933, .flt .f64 v934] (fun F' h0 hi hρ => ⟨by simp [DVs.av, DV.av, BR.av, hρ], laws_sameFloat_fn v933 v934 F' (by rw [hi]; rfl) (st_nil hi) ⟨trivial, trivial, trivial⟩ hy⟩) rfl
  · cases hr
/-! laws.eqFloat32S -/
noncomputable def laws_eqFloat32S_l0_T (v930 : List Nat) (v931 : List Nat) (s : Int) : Tree ((Int) ⊕ ((Unit) ⊕ (Unit))) :=
  (.br (decide (s < ((v930.length : Nat) : Int))) (
   (.grd (inb s v930.length) <|
   (.grd (inb s v931.length) <|
   (.br (!(laws_sameFloat_v (wid (nth v930 (Int.toNat s))) (wid (nth v931 (Int.toNat s))))) (
    .leaf (.inr (.inl ()))
   ) (
    .leaf (.inl (IntKind.i64.wrap (s + (1 : Int))))
   ))))
  ) (
   .leaf (.inr (.inr ()))
  ))

noncomputable def laws_eqFloat32S_l0_g (v930 : List Nat) (v931 : List Nat) (s0 : Int) : Option ((Unit) ⊕ (Unit)) := whileM (fun s => (laws_eqFloat32S_l0_T v930 v931 s).run) s0
def laws_eqFloat32S_l0_E (v930 : List Nat) (v931 : List Nat) (s : Int) : Sd := ([.bslc (BR.root 0) (.f32 v930), .bslc (BR.root 1) (.f32 v931), .top, .top, .top, .int .i64 s, .top, .top, .top, .top, .top, .top, .top, .top, .top, .top, .top, .top, .top, .top, .top, .top, .top, .top, .top, .top, .top, .top, .top], [])
def laws_eqFloat32S_l0_X (v930 : List Nat) (v931 : List Nat) (x : (Unit) ⊕ (Unit)) : Out := (match x with | .inl x => (.ret, [.top, .top, .top, .top, .lit false, .top, .top, .top, .top, .top, .top, .top, .top, .top, .top, .top, .top, .top, .top, .top, .top, .top, .top, .top, .top, .top, .top, .top, .top], []) | .inr x => (.normal, [.top, .top, .top, .top, .top, .top, .top, .top, .top, .top, .top, .top, .top, .top, .top, .top, .top, .top, .top, .top, .top, .top, .top, .top, .top, .top, .top, .top, .top], []))
def laws_eqFloat32S_l0_kill : List Nat := [0, 0, 1, 1, 1, 0, 1, 1, 1, 1, 1, 1, 1, 1, 1, 1, 1, 1, 1, 1, 1, 1, 1, 1, 1, 1, 1, 1, 1]
def laws_eqFloat32S_l0_nx : Exit → List Nat
  | .exit 0 => [1, 1, 1, 1, 1, 1, 1, 1, 1, 1, 1, 1, 1, 1, 1, 1, 1, 1, 1, 1, 1, 1, 1, 1, 1, 1, 1, 1, 1]
  | .ret => [1, 1, 1, 1, 0, 1, 1, 1, 1, 1, 1, 1, 1, 1, 1, 1, 1, 1, 1, 1, 1, 1, 1, 1, 1, 1, 1, 1, 1]
  | _ => []
noncomputable def laws_eqFloat32S_LO (v930 : List Nat) (v931 : List Nat) : LOr := fun id e L =>
  match id with
  | 0 => .need (normA 0 laws_eqFloat32S_l0_kill e L = some (laws_eqFloat32S_l0_E v930 v931 (gI (vAt e 5)))) (.call (laws_eqFloat32S_l0_g v930 v931 (gI (vAt e 5))) fun x => .sum x (fun b0 => .leaf (laws_eqFloat32S_l0_X v930 v931 (.inl b0))) (fun c0 => .leaf (laws_eqFloat32S_l0_X v930 v931 (.inr c0))))
  | _ => .fail
noncomputable def laws_eqFloat32S_tab : List (FuncId × DFn × Bool) := [(31, laws_sameFloat_F, true)]
theorem laws_eqFloat32S_hO : OrcOk Try.prog (tabD laws_eqFloat32S_tab) (tabM laws_eqFloat32S_tab) := tabD_cons laws_sameFloat_Fok (tabD_nil _)
theorem laws_eqFloat32S_l0_be (v930 : List Nat) (v931 : List Nat) (s : Int) : bodyT TT (tabD laws_eqFloat32S_tab) (tabM laws_eqFloat32S_tab) (laws_eqFloat32S_LO v930 v931) 0 laws_eqFloat32S_l0_kill laws_eqFloat32S_l0_nx (bodyOf Try.f20 0) 0 (laws_eqFloat32S_l0_E v930 v931 s) = (laws_eqFloat32S_l0_T v930 v931 s).bind fun y => .leaf (outS (laws_eqFloat32S_l0_E v930 v931) (laws_eqFloat32S_l0_X v930 v931) y) := by kernel_rfl
theorem laws_eqFloat32S_l0_ok (v930 : List Nat) (v931 : List Nat) : LSound Try.prog 0 (laws_eqFloat32S_LO v930 v931) 0 (bodyOf Try.f20 0) := by
  intro e L out h
  exact lo_ok (E := laws_eqFloat32S_l0_E v930 v931) (gT := laws_eqFloat32S_l0_T v930 v931) (X := laws_eqFloat32S_l0_X v930 v931) (s0 := (gI (vAt e 5))) tok laws_eqFloat32S_hO mixed (LoopsOk_eq (l := []) (by kernel_rfl) trivial) (laws_eqFloat32S_l0_be v930 v931) rfl (by intro x; (cases x with | inl b => rfl | inr x => exact rfl)) h
noncomputable def laws_eqFloat32S_T (v930 : List Nat) (v931 : List Nat) : Tree (Bool) :=
  (.br (!decide (((v930.length : Nat) : Int) = ((v931.length : Nat) : Int))) (
   .leaf false
  ) (
   (.need (some (laws_eqFloat32S_l0_E v930 v931 (0 : Int)) = some (laws_eqFloat32S_l0_E v930 v931 (0 : Int))) <|
   (.call (laws_eqFloat32S_l0_g v930 v931 (0 : Int)) fun v937 =>
   (.sum v937 (fun v938 =>
    .leaf false
   ) (fun v939 =>
    .leaf true
   ))))
  ))

noncomputable def laws_eqFloat32S_g (v930 : List Nat) (v931 : List Nat) : Option (Bool) := (laws_eqFloat32S_T v930 v931).run
def laws_eqFloat32S_enc (v930 : List Nat) (v931 : List Nat) (y : Bool) : Rs := (.bool y, [])
theorem laws_eqFloat32S_den (v930 : List Nat) (v931 : List Nat) : (den TT (tabD laws_eqFloat32S_tab) (tabM laws_eqFloat32S_tab) (laws_eqFloat32S_LO v930 v931) (codeOf Try.f20) ([.bslc (BR.root 0) (.f32 v930), .bslc (BR.root 1) (.f32 v931)] ++ List.replicate (Try.f20.ntmps - ([.bslc (BR.root 0) (.f32 v930), .bslc (BR.root 1) (.f32 v931)] : List DV).length) .undef) []).bind (retD TT Try.f20.results.toList 0) = (laws_eqFloat32S_T v930 v931).bind fun y => .leaf (laws_eqFloat32S_enc v930 v931 y) := by kernel_rfl
theorem laws_eqFloat32S_fn (v930 : List Nat) (v931 : List Nat) (F : Fr) (hm : F.ids.length = 0) (h0 : St F [] F.H0) (hA : DVs.Ok F [] [.bslc (BR.root 0) (.f32 v930), .bslc (BR.root 1) (.f32 v931)]) {y : Bool} (hy : laws_eqFloat32S_g v930 v931 = some y) : ∃ H', FnOk Try.prog 20 (DVs.av F [.bslc (BR.root 0) (.f32 v930), .bslc (BR.root 1) (.f32 v931)]) F.H0 ((laws_eqFloat32S_enc v930 v931 y).1.av F) H' ∧ St F (laws_eqFloat32S_enc v930 v931 y).2 H' ∧ (laws_eqFloat32S_enc v930 v931 y).1.Ok F (laws_eqFloat32S_enc v930 v931 y).2 :=
  fn_fin tok laws_eqFloat32S_hO mixed Try.func20 Try.call20 (by kernel_rfl) (LoopsOk_eq (l := [(0, bodyOf Try.f20 0)]) (by kernel_rfl) ⟨laws_eqFloat32S_l0_ok v930 v931, trivial⟩) (laws_eqFloat32S_den v930 v931) hy hm h0 hA
noncomputable def laws_eqFloat32S_F : DFn := fun args L =>
  match args with
  | [a1, a2] =>
    optT (rowF32 L a1) fun v930 =>
    optT (rowF32 L a2) fun v931 =>
    .call (laws_eqFloat32S_g v930 v931) fun y => .leaf (.bool y, L)
  | _ => .fail
theorem laws_eqFloat32S_Fok : COk Try.prog 20 laws_eqFloat32S_F true := by
  intro F L H args r L' hs ha hr
  unfold laws_eqFloat32S_F at hr
  split at hr
  · rename_i a1 a2
    obtain ⟨v930, hv930, hr⟩ := optT_run hr
    obtain ⟨v931, hv931, hr⟩ := optT_run hr
    simp only [Tree.run] at hr
    obtain ⟨y, hy, hr⟩ := Option.bind_eq_some_iff.1 hr
    simp only [Tree.run, Option.some.injEq, Prod.mk.injEq] at hr
    obtain ⟨rfl, rfl⟩ := hr
    exact call_ok0 hs (fun k => (([a1.av F, a2.av F] : List AV)[k]?).getD .top) [a1, a2] [.bslc (BR.root 0) (.f32 v930), .bslc (BR.root 1) (.f32 v931)] (fun F' h0 hi hρ => ⟨by simp [DVs.av, DV.av, BR.av, hρ], laws_eqFloat32S_fn v930 v931 F' (by rw [hi]; rfl) (st_nil hi) ⟨bslc_ok hi (by rw [h0, hρ]; exact rowF32_ok hs (DVs.okAt ha 0 rfl) hv930), bslc_ok hi (by rw [h0, hρ]; exact rowF32_ok hs (DVs.okAt ha 1 rfl) hv931), trivial⟩ hy⟩) rfl
  · cases hr
/-! laws.eqMatrix -/
noncomputable def laws_eqMatrix_LO (v924 : Int) (v925 : Int) (v926 : List Nat) (v927 : Int) (v928 : Int) (v929 : List Nat) : LOr := fun id e L =>
  match id with
  | _ => .fail
noncomputable def laws_eqMatrix_tab : List (FuncId × DFn × Bool) := [(20, laws_eqFloat32S_F, true)]
theorem laws_eqMatrix_hO : OrcOk Try.prog (tabD laws_eqMatrix_tab) (tabM laws_eqMatrix_tab) := tabD_cons laws_eqFloat32S_Fok (tabD_nil _)
noncomputable def laws_eqMatrix_T (v924 : Int) (v925 : Int) (v926 : List Nat) (v927 : Int) (v928 : Int) (v929 : List Nat) : Tree (Bool) :=
  (.br (!decide (v924 = v927)) (
   .leaf false
  ) (
   (.br (!decide (v925 = v928)) (
    .leaf false
   ) (
    (.call (laws_eqFloat32S_g v926 v929) fun v940 =>
    (.br (!v940) (
     .leaf false
    ) (
     .leaf true
    )))
   ))
  ))

noncomputable def laws_eqMatrix_g (v924 : Int) (v925 : Int) (v926 : List Nat) (v927 : Int) (v928 : Int) (v929 : List Nat) : Option (Bool) := (laws_eqMatrix_T v924 v925 v926 v927 v928 v929).run
def laws_eqMatrix_enc (v924 : Int) (v925 : Int) (v926 : List Nat) (v927 : Int) (v928 : Int) (v929 : List Nat) (y : Bool) : Rs := (.bool y, [])
theorem laws_eqMatrix_den (v924 : Int) (v925 : Int) (v926 : List Nat) (v927 : Int) (v928 : Int) (v929 : List Nat) : (den TT (tabD laws_eqMatrix_tab) (tabM laws_eqMatrix_tab) (laws_eqMatrix_LO v924 v925 v926 v927 v928 v929) (codeOf Try.f19) ([.agg [.int .i64 v924, .int .i64 v925, .bslc (BR.root 0) (.f32 v926)], .agg [.int .i64 v927, .int .i64 v928, .bslc (BR.root 1) (.f32 v929)]] ++ List.replicate (Try.f19.ntmps - ([.agg [.int .i64 v924, .int .i64 v925, .bslc (BR.root 0) (.f32 v926)], .agg [.int .i64 v927, .int .i64 v928, .bslc (BR.root 1) (.f32 v929)]] : List DV).length) .undef) []).bind (retD TT Try.f19.results.toList 0) = (laws_eqMatrix_T v924 v925 v926 v927 v928 v929).bind fun y => .leaf (laws_eqMatrix_enc v924 v925 v926 v927 v928 v929 y) := by kernel_rfl
theorem laws_eqMatrix_fn (v924 : Int) (v925 : Int) (v926 : List Nat) (v927 : Int) (v928 : Int) (v929 : List Nat) (F : Fr) (hm : F.ids.length = 0) (h0 : St F [] F.H0) (hA : DVs.Ok F [] [.agg [.int .i64 v924, .int .i64 v925, .bslc (BR.root 0) (.f32 v926)], .agg [.int .i64 v927, .int .i64 v928, .bslc (BR.root 1) (.f32 v929)]]) {y : Bool} (hy : laws_eqMatrix_g v924 v925 v926 v927 v928 v929 = some y) : ∃ H', FnOk Try.prog 19 (DVs.av F [.agg [.int .i64 v924, .int .i64 v925, .bslc (BR.root 0) (.f32 v926)], .agg [.int .i64 v927, .int .i64 v928, .bslc (BR.root 1) (.f32 v929)]]) F.H0 ((laws_eqMatrix_enc v924 v925 v926 v927 v928 v929 y).1.av F) H' ∧ St F (laws_eqMatrix_enc v924 v925 v926 v927 v928 v929 y).2 H' ∧ (laws_eqMatrix_enc v924 v925 v926 v927 v928 v929 y).1.Ok F (laws_eqMatrix_enc v924 v925 v926 v927 v928 v929 y).2 :=
  fn_fin tok laws_eqMatrix_hO mixed Try.func19 Try.call19 (by kernel_rfl) (LoopsOk_eq (l := []) (by kernel_rfl) trivial) (laws_eqMatrix_den v924 v925 v926 v927 v928 v929) hy hm h0 hA
noncomputable def laws_eqMatrix_F : DFn := fun args L =>
  match args with
  | [.agg [.int .i64 v924, .int .i64 v925, a1], .agg [.int .i64 v927, .int .i64 v928, a2]] =>
    optT (rowF32 L a1) fun v926 =>
    optT (rowF32 L a2) fun v929 =>
    .call (laws_eqMatrix_g v924 v925 v926 v927 v928 v929) fun y => .leaf (.bool y, L)
  | _ => .fail
theorem laws_eqMatrix_Fok : COk Try.prog 19 laws_eqMatrix_F true := by
  intro F L H args r L' hs ha hr
  unfold laws_eqMatrix_F at hr
  split at hr
  · rename_i v924 v925 a1 v927 v928 a2
    obtain ⟨v926, hv926, hr⟩ := optT_run hr
    obtain ⟨v929, hv929, hr⟩ := optT_run hr
    simp only [Tree.run] at hr
    obtain ⟨y, hy, hr⟩ := Option.bind_eq_some_iff.1 hr
    simp only [Tree.run, Option.some.injEq, Prod.mk.injEq] at hr
    obtain ⟨rfl, rfl⟩ := hr
    exact call_ok0 hs (fun k => (([a1.av F, a2.av F] : List AV)[k]?).getD .top) [.agg [.int .i64 v924, .int .i64 v925, a1], .agg [.int .i64 v927, .int .i64 v928, a2]] [.agg [.int .i64 v924, .int .i64 v925, .bslc (BR.root 0) (.f32 v926)], .agg [.int .i64 v927, .int .i64 v928, .bslc (BR.root 1) (.f32 v929)]] (fun F' h0 hi hρ => ⟨by simp [DVs.av, DV.av, BR.av, hρ], laws_eqMatrix_fn v924 v925 v926 v927 v928 v929 F' (by rw [hi]; rfl) (st_nil hi) ⟨⟨trivial, trivial, bslc_ok hi (by rw [h0, hρ]; exact rowF32_ok hs (DVs.okAt (DVs.okAt ha 0 rfl) 2 rfl) hv926), trivial⟩, ⟨trivial, trivial, bslc_ok hi (by rw [h0, hρ]; exact rowF32_ok hs (DVs.okAt (DVs.okAt ha 1 rfl) 2 rfl) hv929), trivial⟩, trivial⟩ hy⟩) rfl
  · cases hr
/-! laws.markFloat32S -/
noncomputable def laws_markFloat32S_l0_T (s : Int × Int × (List Nat)) : Tree ((Int × Int × (List Nat)) ⊕ (Int × (List Nat))) :=
  (.br (decide (s.2.1 < (((s.2.2).length : Nat) : Int))) (
   (.grd (inb s.2.1 ((s.2.2).length)) <|
   .leaf (.inl (IntKind.i64.wrap (s.1 + (1 : Int)), IntKind.i64.wrap (s.2.1 + (1 : Int)), List.set s.2.2 (Int.toNat s.2.1) (fofint .f32 s.1))))
  ) (
   .leaf (.inr (s.1, s.2.2))
  ))

noncomputable def laws_markFloat32S_l0_g (s0 : Int × Int × (List Nat)) : Option (Int × (List Nat)) := whileM (fun s => (laws_markFloat32S_l0_T s).run) s0
def laws_markFloat32S_l0_E (v952 : List Nat) (v953 : Int) (s : Int × Int × (List Nat)) : Sd := ([.own 0 0 ((s.2.2).length), .int .i64 s.1, .top, .top, .top, .int .i64 s.2.1, .top, .top, .top, .top, .top, .top, .top, .top, .top, .top, .top, .top, .top, .top], [.row (.f32 s.2.2) 0])
def laws_markFloat32S_l0_X (v952 : List Nat) (v953 : Int) (x : Int × (List Nat)) : Out := (.normal, [.top, .int .i64 x.1, .top, .top, .top, .top, .top, .top, .top, .top, .top, .top, .top, .top, .top, .top, .top, .top, .top, .top], [.row (.f32 x.2) 0])
def laws_markFloat32S_l0_kill : List Nat := [0, 0, 1, 1, 1, 0, 1, 1, 1, 1, 1, 1, 1, 1, 1, 1, 1, 1, 1, 1]
def laws_markFloat32S_l0_nx : Exit → List Nat
  | .exit 0 => [1, 0, 1, 1, 1, 1, 1, 1, 1, 1, 1, 1, 1, 1, 1, 1, 1, 1, 1, 1]
  | .ret => [1, 1, 1, 1, 0, 1, 1, 1, 1, 1, 1, 1, 1, 1, 1, 1, 1, 1, 1, 1]
  | _ => []
noncomputable def laws_markFloat32S_LO (v952 : List Nat) (v953 : Int) : LOr := fun id e L =>
  match id with
  | 0 => .need (normA 1 laws_markFloat32S_l0_kill e L = some (laws_markFloat32S_l0_E v952 v953 ((gI (vAt e 1)), (gI (vAt e 5)), (gRF L (vAt e 0))))) (.call (laws_markFloat32S_l0_g ((gI (vAt e 1)), (gI (vAt e 5)), (gRF L (vAt e 0)))) fun x => .leaf (laws_markFloat32S_l0_X v952 v953 x))
  | _ => .fail
noncomputable def laws_markFloat32S_tab : List (FuncId × DFn × Bool) := []
theorem laws_markFloat32S_hO : OrcOk Try.prog (tabD laws_markFloat32S_tab) (tabM laws_markFloat32S_tab) := tabD_nil _
theorem laws_markFloat32S_l0_be (v952 : List Nat) (v953 : Int) (s : Int × Int × (List Nat)) : bodyT TT (tabD laws_markFloat32S_tab) (tabM laws_markFloat32S_tab) (laws_markFloat32S_LO v952 v953) 1 laws_markFloat32S_l0_kill laws_markFloat32S_l0_nx (bodyOf Try.f22 0) 0 (laws_markFloat32S_l0_E v952 v953 s) = (laws_markFloat32S_l0_T s).bind fun y => .leaf (outS (laws_markFloat32S_l0_E v952 v953) (laws_markFloat32S_l0_X v952 v953) y) := by kernel_rfl
theorem laws_markFloat32S_l0_ok (v952 : List Nat) (v953 : Int) : LSound Try.prog 1 (laws_markFloat32S_LO v952 v953) 0 (bodyOf Try.f22 0) := by
  intro e L out h
  exact lo_ok (E := laws_markFloat32S_l0_E v952 v953) (gT := laws_markFloat32S_l0_T) (X := laws_markFloat32S_l0_X v952 v953) (s0 := ((gI (vAt e 1)), (gI (vAt e 5)), (gRF L (vAt e 0)))) tok laws_markFloat32S_hO mixed (LoopsOk_eq (l := []) (by kernel_rfl) trivial) (laws_markFloat32S_l0_be v952 v953) rfl (by intro x; rfl) h
noncomputable def laws_markFloat32S_T (v952 : List Nat) (v953 : Int) : Tree (Int × (List Nat)) :=
  (.need (some (laws_markFloat32S_l0_E v952 v953 (v953, (0 : Int), v952)) = some (laws_markFloat32S_l0_E v952 v953 (v953, (0 : Int), v952))) <|
  (.call (laws_markFloat32S_l0_g (v953, (0 : Int), v952)) fun v962 =>
  .leaf (v962.1, v962.2)))

noncomputable def laws_markFloat32S_g (v952 : List Nat) (v953 : Int) : Option (Int × (List Nat)) := (laws_markFloat32S_T v952 v953).run
def laws_markFloat32S_enc (v952 : List Nat) (v953 : Int) (y : Int × (List Nat)) : Rs := (.int .i64 y.1, [.row (.f32 y.2) 0])
theorem laws_markFloat32S_den (v952 : List Nat) (v953 : Int) : (den TT (tabD laws_markFloat32S_tab) (tabM laws_markFloat32S_tab) (laws_markFloat32S_LO v952 v953) (codeOf Try.f22) ([.own 0 0 v952.length, .int .i64 v953] ++ List.replicate (Try.f22.ntmps - ([.own 0 0 v952.length, .int .i64 v953] : List DV).length) .undef) [.row (.f32 v952) 0]).bind (retD TT Try.f22.results.toList 1) = (laws_markFloat32S_T v952 v953).bind fun y => .leaf (laws_markFloat32S_enc v952 v953 y) := by kernel_rfl
theorem laws_markFloat32S_fn (v952 : List Nat) (v953 : Int) (F : Fr) (hm : F.ids.length = 1) (h0 : St F [.row (.f32 v952) 0] F.H0) (hA : DVs.Ok F [.row (.f32 v952) 0] [.own 0 0 v952.length, .int .i64 v953]) {y : Int × (List Nat)} (hy : laws_markFloat32S_g v952 v953 = some y) : ∃ H', FnOk Try.prog 22 (DVs.av F [.own 0 0 v952.length, .int .i64 v953]) F.H0 ((laws_markFloat32S_enc v952 v953 y).1.av F) H' ∧ St F (laws_markFloat32S_enc v952 v953 y).2 H' ∧ (laws_markFloat32S_enc v952 v953 y).1.Ok F (laws_markFloat32S_enc v952 v953 y).2 :=
  fn_fin tok laws_markFloat32S_hO mixed Try.func22 Try.call22 (by kernel_rfl) (LoopsOk_eq (l := [(0, bodyOf Try.f22 0)]) (by kernel_rfl) ⟨laws_markFloat32S_l0_ok v952 v953, trivial⟩) (laws_markFloat32S_den v952 v953) hy hm h0 hA
noncomputable def laws_markFloat32S_F : DFn := fun args L =>
  match args with
  | [a1, .int .i64 v953] =>
    optT (ownF32 L a1) fun qv952 =>
    (match sepB [qv952.1] [] with
    | true =>
    .call (laws_markFloat32S_g qv952.2 v953) fun y => .grd (decide (y.2.length = qv952.2.length)) (.leaf (.int .i64 y.1, setRows L ([qv952.1].zip [.f32 y.2])))
    | false => .fail)
  | _ => .fail
theorem laws_markFloat32S_Fok : COk Try.prog 22 laws_markFloat32S_F false := by
  intro F L H args r L' hs ha hr
  unfold laws_markFloat32S_F at hr
  split at hr
  · rename_i a1 v953
    obtain ⟨⟨jv952, v952⟩, hqv952, hr⟩ := optT_run hr
    simp only at hr
    split at hr
    · rename_i hsep
      obtain ⟨hnd, hsepv⟩ := sepB_spec hsep
      simp only [Tree.run] at hr
      obtain ⟨y, hy, hr⟩ := Option.bind_eq_some_iff.1 hr
      try simp only [Tree.run] at hr
      obtain ⟨hl0, hr⟩ := ite_run hr
      simp only [Option.some.injEq, Prod.mk.injEq] at hr
      obtain ⟨rfl, rfl⟩ := hr
      obtain ⟨hr0, hu0, ha0, hb0⟩ := (ownR_spec (DVs.okAt ha 0 rfl) (ownF32_or hqv952))
      exact mut_ok hs (fun k => (([a1.av F] : List AV)[k]?).getD .top) [a1, .int .i64 v953] [.own 0 0 v952.length, .int .i64 v953] [jv952] [.f32 v952] [.f32 y.2] hnd rfl rfl (fun i j q h1 h2 => by
          rcases i with _ | i
          · simp at h1 h2; subst h1; subst h2; exact hr0
          · simp at h1) (fun i q q' h1 h2 => by
          rcases i with _ | i
          · simp at h1 h2; subst h1; subst h2; exact of_decide_eq_true hl0
          · simp at h1) (fun j hj => by simp at hj; subst hj; simp [DVs.refs, DV.refs, hu0]) (fun F' h0 hi hρ hst hS => ⟨by (have ab0 : F'.abs 0 = F.abs jv952 := (by simp [Fr.abs, hi]); simp [DVs.av, DV.av, BR.av, hρ, Row.len, ha0, ab0]), by
          obtain ⟨H1, k1, k2, _⟩ := laws_markFloat32S_fn v952 v953 F' (by rw [hi]; rfl) hst ⟨⟨_, rfl, Nat.le_refl _, Nat.le_refl _, fun _ => rfl, (ownR_spec (DVs.okAt ha 0 rfl) (ownF32_or hqv952)).2.2.2⟩, trivial, trivial⟩ hy
          exact ⟨H1, k1, k2⟩⟩) (fun F' => rfl) (fun L' => trivial)
    · cases hr
  · cases hr
/-! laws.markMatrix -/
noncomputable def laws_markMatrix_LO (v963 : Int) (v964 : Int) (v965 : List Nat) (v966 : Int) : LOr := fun id e L =>
  match id with
  | _ => .fail
noncomputable def laws_markMatrix_tab : List (FuncId × DFn × Bool) := [(22, laws_markFloat32S_F, false)]
theorem laws_markMatrix_hO : OrcOk Try.prog (tabD laws_markMatrix_tab) (tabM laws_markMatrix_tab) := tabD_cons laws_markFloat32S_Fok (tabD_nil _)
noncomputable def laws_markMatrix_T (v965 : List Nat) (v966 : Int) : Tree (Int × (List Nat)) :=
  (.call (laws_markFloat32S_g v965 v966) fun v967 =>
  (.grd (decide (v967.2.length = v965.length)) <|
  .leaf (v967.1, v967.2)))

noncomputable def laws_markMatrix_g (v965 : List Nat) (v966 : Int) : Option (Int × (List Nat)) := (laws_markMatrix_T v965 v966).run
def laws_markMatrix_enc (v963 : Int) (v964 : Int) (v965 : List Nat) (v966 : Int) (y : Int × (List Nat)) : Rs := (.int .i64 y.1, [.row (.f32 y.2) 0])
theorem laws_markMatrix_den (v963 : Int) (v964 : Int) (v965 : List Nat) (v966 : Int) : (den TT (tabD laws_markMatrix_tab) (tabM laws_markMatrix_tab) (laws_markMatrix_LO v963 v964 v965 v966) (codeOf Try.f21) ([.agg [.int .i64 v963, .int .i64 v964, .own 0 0 v965.length], .int .i64 v966] ++ List.replicate (Try.f21.ntmps - ([.agg [.int .i64 v963, .int .i64 v964, .own 0 0 v965.length], .int .i64 v966] : List DV).length) .undef) [.row (.f32 v965) 0]).bind (retD TT Try.f21.results.toList 1) = (laws_markMatrix_T v965 v966).bind fun y => .leaf (laws_markMatrix_enc v963 v964 v965 v966 y) := by kernel_rfl
theorem laws_markMatrix_fn (v963 : Int) (v964 : Int) (v965 : List Nat) (v966 : Int) (F : Fr) (hm : F.ids.length = 1) (h0 : St F [.row (.f32 v965) 0] F.H0) (hA : DVs.Ok F [.row (.f32 v965) 0] [.agg [.int .i64 v963, .int .i64 v964, .own 0 0 v965.length], .int .i64 v966]) {y : Int × (List Nat)} (hy : laws_markMatrix_g v965 v966 = some y) : ∃ H', FnOk Try.prog 21 (DVs.av F [.agg [.int .i64 v963, .int .i64 v964, .own 0 0 v965.length], .int .i64 v966]) F.H0 ((laws_markMatrix_enc v963 v964 v965 v966 y).1.av F) H' ∧ St F (laws_markMatrix_enc v963 v964 v965 v966 y).2 H' ∧ (laws_markMatrix_enc v963 v964 v965 v966 y).1.Ok F (laws_markMatrix_enc v963 v964 v965 v966 y).2 :=
  fn_fin tok laws_markMatrix_hO mixed Try.func21 Try.call21 (by kernel_rfl) (LoopsOk_eq (l := []) (by kernel_rfl) trivial) (laws_markMatrix_den v963 v964 v965 v966) hy hm h0 hA
noncomputable def laws_markMatrix_F : DFn := fun args L =>
  match args with
  | [.agg [.int .i64 v963, .int .i64 v964, a1], .int .i64 v966] =>
    optT (ownF32 L a1) fun qv965 =>
    (match sepB [qv965.1] [] with
    | true =>
    .call (laws_markMatrix_g qv965.2 v966) fun y => .grd (decide (y.2.length = qv965.2.length)) (.leaf (.int .i64 y.1, setRows L ([qv965.1].zip [.f32 y.2])))
    | false => .fail)
  | _ => .fail
theorem laws_markMatrix_Fok : COk Try.prog 21 laws_markMatrix_F false := by
  intro F L H args r L' hs ha hr
  unfold laws_markMatrix_F at hr
  split at hr
  · rename_i v963 v964 a1 v966
    obtain ⟨⟨jv965, v965⟩, hqv965, hr⟩ := optT_run hr
    simp only at hr
    split at hr
    · rename_i hsep
      obtain ⟨hnd, hsepv⟩ := sepB_spec hsep
      simp only [Tree.run] at hr
      obtain ⟨y, hy, hr⟩ := Option.bind_eq_some_iff.1 hr
      try simp only [Tree.run] at hr
      obtain ⟨hl0, hr⟩ := ite_run hr
      simp only [Option.some.injEq, Prod.mk.injEq] at hr
      obtain ⟨rfl, rfl⟩ := hr
      obtain ⟨hr0, hu0, ha0, hb0⟩ := (ownR_spec (DVs.okAt (DVs.okAt ha 0 rfl) 2 rfl) (ownF32_or hqv965))
      exact mut_ok hs (fun k => (([a1.av F] : List AV)[k]?).getD .top) [.agg [.int .i64 v963, .int .i64 v964, a1], .int .i64 v966] [.agg [.int .i64 v963, .int .i64 v964, .own 0 0 v965.length], .int .i64 v966] [jv965] [.f32 v965] [.f32 y.2] hnd rfl rfl (fun i j q h1 h2 => by
          rcases i with _ | i
          · simp at h1 h2; subst h1; subst h2; exact hr0
          · simp at h1) (fun i q q' h1 h2 => by
          rcases i with _ | i
          · simp at h1 h2; subst h1; subst h2; exact of_decide_eq_true hl0
          · simp at h1) (fun j hj => by simp at hj; subst hj; simp [DVs.refs, DV.refs, hu0]) (fun F' h0 hi hρ hst hS => ⟨by (have ab0 : F'.abs 0 = F.abs jv965 := (by simp [Fr.abs, hi]); simp [DVs.av, DV.av, BR.av, hρ, Row.len, ha0, ab0]), by
          obtain ⟨H1, k1, k2, _⟩ := laws_markMatrix_fn v963 v964 v965 v966 F' (by rw [hi]; rfl) hst ⟨⟨trivial, trivial, ⟨_, rfl, Nat.le_refl _, Nat.le_refl _, fun _ => rfl, (ownR_spec (DVs.okAt (DVs.okAt ha 0 rfl) 2 rfl) (ownF32_or hqv965)).2.2.2⟩, trivial⟩, trivial, trivial⟩ hy
          exact ⟨H1, k1, k2⟩⟩) (fun F' => rfl) (fun L' => trivial)
    · cases hr
  · cases hr
/-! laws.markFloat32S -/
noncomputable def laws_markFloat32S_i1_l0_T (s : Unit) : Tree ((Unit) ⊕ (Unit)) :=
  (.br (decide ((0 : Int) < (0 : Int))) (
   .fail
  ) (
   .leaf (.inr ())
  ))

noncomputable def laws_markFloat32S_i1_l0_g (s0 : Unit) : Option (Unit) := whileM (fun s => (laws_markFloat32S_i1_l0_T s).run) s0
def laws_markFloat32S_i1_l0_E (v973 : Int) (s : Unit) : Sd := ([.nilslc, .int .i64 v973, .top, .top, .top, .int .i64 (0 : Int), .top, .top, .top, .top, .top, .top, .top, .top, .top, .top, .top, .top, .top, .top], [])
def laws_markFloat32S_i1_l0_X (v973 : Int) (x : Unit) : Out := (.normal, [.top, .int .i64 v973, .top, .top, .top, .top, .top, .top, .top, .top, .top, .top, .top, .top, .top, .top, .top, .top, .top, .top], [])
def laws_markFloat32S_i1_l0_kill : List Nat := [0, 0, 1, 1, 1, 0, 1, 1, 1, 1, 1, 1, 1, 1, 1, 1, 1, 1, 1, 1]
def laws_markFloat32S_i1_l0_nx : Exit → List Nat
  | .exit 0 => [1, 0, 1, 1, 1, 1, 1, 1, 1, 1, 1, 1, 1, 1, 1, 1, 1, 1, 1, 1]
  | .ret => [1, 1, 1, 1, 0, 1, 1, 1, 1, 1, 1, 1, 1, 1, 1, 1, 1, 1, 1, 1]
  | _ => []
noncomputable def laws_markFloat32S_i1_LO (v973 : Int) : LOr := fun id e L =>
  match id with
  | 0 => .need (normA 0 laws_markFloat32S_i1_l0_kill e L = some (laws_markFloat32S_i1_l0_E v973 ())) (.call (laws_markFloat32S_i1_l0_g ()) fun x => .leaf (laws_markFloat32S_i1_l0_X v973 x))
  | _ => .fail
noncomputable def laws_markFloat32S_i1_tab : List (FuncId × DFn × Bool) := []
theorem laws_markFloat32S_i1_hO : OrcOk Try.prog (tabD laws_markFloat32S_i1_tab) (tabM laws_markFloat32S_i1_tab) := tabD_nil _
theorem laws_markFloat32S_i1_l0_be (v973 : Int) (s : Unit) : bodyT TT (tabD laws_markFloat32S_i1_tab) (tabM laws_markFloat32S_i1_tab) (laws_markFloat32S_i1_LO v973) 0 laws_markFloat32S_i1_l0_kill laws_markFloat32S_i1_l0_nx (bodyOf Try.f22 0) 0 (laws_markFloat32S_i1_l0_E v973 s) = (laws_markFloat32S_i1_l0_T s).bind fun y => .leaf (outS (laws_markFloat32S_i1_l0_E v973) (laws_markFloat32S_i1_l0_X v973) y) := by kernel_rfl
theorem laws_markFloat32S_i1_l0_ok (v973 : Int) : LSound Try.prog 0 (laws_markFloat32S_i1_LO v973) 0 (bodyOf Try.f22 0) := by
  intro e L out h
  exact lo_ok (E := laws_markFloat32S_i1_l0_E v973) (gT := laws_markFloat32S_i1_l0_T) (X := laws_markFloat32S_i1_l0_X v973) (s0 := ()) tok laws_markFloat32S_i1_hO mixed (LoopsOk_eq (l := []) (by kernel_rfl) trivial) (laws_markFloat32S_i1_l0_be v973) rfl (by intro x; rfl) h
noncomputable def laws_markFloat32S_i1_T (v973 : Int) : Tree (Int) :=
  (.need (some (laws_markFloat32S_i1_l0_E v973 ()) = some (laws_markFloat32S_i1_l0_E v973 ())) <|
  (.call (laws_markFloat32S_i1_l0_g ()) fun v976 =>
  .leaf v973))

noncomputable def laws_markFloat32S_i1_g (v973 : Int) : Option (Int) := (laws_markFloat32S_i1_T v973).run
def laws_markFloat32S_i1_enc (v973 : Int) (y : Int) : Rs := (.int .i64 y, [])
theorem laws_markFloat32S_i1_den (v973 : Int) : (den TT (tabD laws_markFloat32S_i1_tab) (tabM laws_markFloat32S_i1_tab) (laws_markFloat32S_i1_LO v973) (codeOf Try.f22) ([.nilslc, .int .i64 v973] ++ List.replicate (Try.f22.ntmps - ([.nilslc, .int .i64 v973] : List DV).length) .undef) []).bind (retD TT Try.f22.results.toList 0) = (laws_markFloat32S_i1_T v973).bind fun y => .leaf (laws_markFloat32S_i1_enc v973 y) := by kernel_rfl
theorem laws_markFloat32S_i1_fn (v973 : Int) (F : Fr) (hm : F.ids.length = 0) (h0 : St F [] F.H0) (hA : DVs.Ok F [] [.nilslc, .int .i64 v973]) {y : Int} (hy : laws_markFloat32S_i1_g v973 = some y) : ∃ H', FnOk Try.prog 22 (DVs.av F [.nilslc, .int .i64 v973]) F.H0 ((laws_markFloat32S_i1_enc v973 y).1.av F) H' ∧ St F (laws_markFloat32S_i1_enc v973 y).2 H' ∧ (laws_markFloat32S_i1_enc v973 y).1.Ok F (laws_markFloat32S_i1_enc v973 y).2 :=
  fn_fin tok laws_markFloat32S_i1_hO mixed Try.func22 Try.call22 (by kernel_rfl) (LoopsOk_eq (l := [(0, bodyOf Try.f22 0)]) (by kernel_rfl) ⟨laws_markFloat32S_i1_l0_ok v973, trivial⟩) (laws_markFloat32S_i1_den v973) hy hm h0 hA
noncomputable def laws_markFloat32S_i1_F : DFn := fun args L =>
  match args with
  | [.nilslc, .int .i64 v973] =>
    .call (laws_markFloat32S_i1_g v973) fun y => .leaf (.int .i64 y, L)
  | _ => .fail
theorem laws_markFloat32S_i1_Fok : COk Try.prog 22 laws_markFloat32S_i1_F true := by
  intro F L H args r L' hs ha hr
  unfold laws_markFloat32S_i1_F at hr
  split at hr
  · rename_i v973
    simp only [Tree.run] at hr
    obtain ⟨y, hy, hr⟩ := Option.bind_eq_some_iff.1 hr
    simp only [Tree.run, Option.some.injEq, Prod.mk.injEq] at hr
    obtain ⟨rfl, rfl⟩ := hr
    exact call_ok0 hs (fun k => (([] : List AV)[k]?).getD .top) [.nilslc, .int .i64 v973] [.nilslc, .int .i64 v973] (fun F' h0 hi hρ => ⟨by simp [DVs.av, DV.av, BR.av, hρ], laws_markFloat32S_i1_fn v973 F' (by rw [hi]; rfl) (st_nil hi) ⟨trivial, trivial, trivial⟩ hy⟩) rfl
  · cases hr
/-! laws.markMatrix -/
noncomputable def laws_markMatrix_i1_LO (v970 : Int) (v971 : Int) (v972 : Int) : LOr := fun id e L =>
  match id with
  | _ => .fail
noncomputable def laws_markMatrix_i1_tab : List (FuncId × DFn × Bool) := [(22, laws_markFloat32S_i1_F, true)]
theorem laws_markMatrix_i1_hO : OrcOk Try.prog (tabD laws_markMatrix_i1_tab) (tabM laws_markMatrix_i1_tab) := tabD_cons laws_markFloat32S_i1_Fok (tabD_nil _)
noncomputable def laws_markMatrix_i1_T (v972 : Int) : Tree (Int) :=
  (.call (laws_markFloat32S_i1_g v972) fun v977 =>
  .leaf v977)

noncomputable def laws_markMatrix_i1_g (v972 : Int) : Option (Int) := (laws_markMatrix_i1_T v972).run
def laws_markMatrix_i1_enc (v970 : Int) (v971 : Int) (v972 : Int) (y : Int) : Rs := (.int .i64 y, [])
theorem laws_markMatrix_i1_den (v970 : Int) (v971 : Int) (v972 : Int) : (den TT (tabD laws_markMatrix_i1_tab) (tabM laws_markMatrix_i1_tab) (laws_markMatrix_i1_LO v970 v971 v972) (codeOf Try.f21) ([.agg [.int .i64 v970, .int .i64 v971, .nilslc], .int .i64 v972] ++ List.replicate (Try.f21.ntmps - ([.agg [.int .i64 v970, .int .i64 v971, .nilslc], .int .i64 v972] : List DV).length) .undef) []).bind (retD TT Try.f21.results.toList 0) = (laws_markMatrix_i1_T v972).bind fun y => .leaf (laws_markMatrix_i1_enc v970 v971 v972 y) := by kernel_rfl
theorem laws_markMatrix_i1_fn (v970 : Int) (v971 : Int) (v972 : Int) (F : Fr) (hm : F.ids.length = 0) (h0 : St F [] F.H0) (hA : DVs.Ok F [] [.agg [.int .i64 v970, .int .i64 v971, .nilslc], .int .i64 v972]) {y : Int} (hy : laws_markMatrix_i1_g v972 = some y) : ∃ H', FnOk Try.prog 21 (DVs.av F [.agg [.int .i64 v970, .int .i64 v971, .nilslc], .int .i64 v972]) F.H0 ((laws_markMatrix_i1_enc v970 v971 v972 y).1.av F) H' ∧ St F (laws_markMatrix_i1_enc v970 v971 v972 y).2 H' ∧ (laws_markMatrix_i1_enc v970 v971 v972 y).1.Ok F (laws_markMatrix_i1_enc v970 v971 v972 y).2 :=
  fn_fin tok laws_markMatrix_i1_hO mixed Try.func21 Try.call21 (by kernel_rfl) (LoopsOk_eq (l := []) (by kernel_rfl) trivial) (laws_markMatrix_i1_den v970 v971 v972) hy hm h0 hA
noncomputable def laws_markMatrix_i1_F : DFn := fun args L =>
  match args with
  | [.agg [.int .i64 v970, .int .i64 v971, .nilslc], .int .i64 v972] =>
    .call (laws_markMatrix_i1_g v972) fun y => .leaf (.int .i64 y, L)
  | _ => .fail
theorem laws_markMatrix_i1_Fok : COk Try.prog 21 laws_markMatrix_i1_F true := by
  intro F L H args r L' hs ha hr
  unfold laws_markMatrix_i1_F at hr
  split at hr
  · rename_i v970 v971 v972
    simp only [Tree.run] at hr
    obtain ⟨y, hy, hr⟩ := Option.bind_eq_some_iff.1 hr
    simp only [Tree.run, Option.some.injEq, Prod.mk.injEq] at hr
    obtain ⟨rfl, rfl⟩ := hr
    exact call_ok0 hs (fun k => (([] : List AV)[k]?).getD .top) [.agg [.int .i64 v970, .int .i64 v971, .nilslc], .int .i64 v972] [.agg [.int .i64 v970, .int .i64 v971, .nilslc], .int .i64 v972] (fun F' h0 hi hρ => ⟨by simp [DVs.av, DV.av, BR.av, hρ], laws_markMatrix_i1_fn v970 v971 v972 F' (by rw [hi]; rfl) (st_nil hi) ⟨⟨trivial, trivial, trivial, trivial⟩, trivial, trivial⟩ hy⟩) rfl
  · cases hr
/-! laws.heldFloat32S -/
noncomputable def laws_heldFloat32S_l0_T (v983 : List Nat) (s : Int × Int) : Tree ((Int × Int) ⊕ ((Unit) ⊕ (Int))) :=
  (.br (decide (s.2 < ((v983.length : Nat) : Int))) (
   (.grd (inb s.2 v983.length) <|
   (.br (!feq .f32 (nth v983 (Int.toNat s.2)) (fofint .f32 s.1)) (
    .leaf (.inr (.inl ()))
   ) (
    .leaf (.inl (IntKind.i64.wrap (s.1 + (1 : Int)), IntKind.i64.wrap (s.2 + (1 : Int))))
   )))
  ) (
   .leaf (.inr (.inr s.1))
  ))

noncomputable def laws_heldFloat32S_l0_g (v983 : List Nat) (s0 : Int × Int) : Option ((Unit) ⊕ (Int)) := whileM (fun s => (laws_heldFloat32S_l0_T v983 s).run) s0
def laws_heldFloat32S_l0_E (v983 : List Nat) (v984 : Int) (s : Int × Int) : Sd := ([.bslc (BR.root 0) (.f32 v983), .int .i64 s.1, .top, .top, .top, .int .i64 s.2, .top, .top, .top, .top, .top, .top, .top, .top, .top, .top, .top, .top, .top, .top, .top, .top], [])
def laws_heldFloat32S_l0_X (v983 : List Nat) (v984 : Int) (x : (Unit) ⊕ (Int)) : Out := (match x with | .inl x => (.ret, [.top, .top, .top, .top, .int .i64 (-1 : Int), .top, .top, .top, .top, .top, .top, .top, .top, .top, .top, .top, .top, .top, .top, .top, .top, .top], []) | .inr x => (.normal, [.top, .int .i64 x, .top, .top, .top, .top, .top, .top, .top, .top, .top, .top, .top, .top, .top, .top, .top, .top, .top, .top, .top, .top], []))
def laws_heldFloat32S_l0_kill : List Nat := [0, 0, 1, 1, 1, 0, 1, 1, 1, 1, 1, 1, 1, 1, 1, 1, 1, 1, 1, 1, 1, 1]
def laws_heldFloat32S_l0_nx : Exit → List Nat
  | .exit 0 => [1, 0, 1, 1, 1, 1, 1, 1, 1, 1, 1, 1, 1, 1, 1, 1, 1, 1, 1, 1, 1, 1]
  | .ret => [1, 1, 1, 1, 0, 1, 1, 1, 1, 1, 1, 1, 1, 1, 1, 1, 1, 1, 1, 1, 1, 1]
  | _ => []
noncomputable def laws_heldFloat32S_LO (v983 : List Nat) (v984 : Int) : LOr := fun id e L =>
  match id with
  | 0 => .need (normA 0 laws_heldFloat32S_l0_kill e L = some (laws_heldFloat32S_l0_E v983 v984 ((gI (vAt e 1)), (gI (vAt e 5))))) (.call (laws_heldFloat32S_l0_g v983 ((gI (vAt e 1)), (gI (vAt e 5)))) fun x => .sum x (fun b0 => .leaf (laws_heldFloat32S_l0_X v983 v984 (.inl b0))) (fun c0 => .leaf (laws_heldFloat32S_l0_X v983 v984 (.inr c0))))
  | _ => .fail
noncomputable def laws_heldFloat32S_tab : List (FuncId × DFn × Bool) := []
theorem laws_heldFloat32S_hO : OrcOk Try.prog (tabD laws_heldFloat32S_tab) (tabM laws_heldFloat32S_tab) := tabD_nil _
theorem laws_heldFloat32S_l0_be (v983 : List Nat) (v984 : Int) (s : Int × Int) : bodyT TT (tabD laws_heldFloat32S_tab) (tabM laws_heldFloat32S_tab) (laws_heldFloat32S_LO v983 v984) 0 laws_heldFloat32S_l0_kill laws_heldFloat32S_l0_nx (bodyOf Try.f24 0) 0 (laws_heldFloat32S_l0_E v983 v984 s) = (laws_heldFloat32S_l0_T v983 s).bind fun y => .leaf (outS (laws_heldFloat32S_l0_E v983 v984) (laws_heldFloat32S_l0_X v983 v984) y) := by kernel_rfl
theorem laws_heldFloat32S_l0_ok (v983 : List Nat) (v984 : Int) : LSound Try.prog 0 (laws_heldFloat32S_LO v983 v984) 0 (bodyOf Try.f24 0) := by
  intro e L out h
  exact lo_ok (E := laws_heldFloat32S_l0_E v983 v984) (gT := laws_heldFloat32S_l0_T v983) (X := laws_heldFloat32S_l0_X v983 v984) (s0 := ((gI (vAt e 1)), (gI (vAt e 5)))) tok laws_heldFloat32S_hO mixed (LoopsOk_eq (l := []) (by kernel_rfl) trivial) (laws_heldFloat32S_l0_be v983 v984) rfl (by intro x; (cases x with | inl b => rfl | inr x => exact rfl)) h
noncomputable def laws_heldFloat32S_T (v983 : List Nat) (v984 : Int) : Tree (Int) :=
  (.need (some (laws_heldFloat32S_l0_E v983 v984 (v984, (0 : Int))) = some (laws_heldFloat32S_l0_E v983 v984 (v984, (0 : Int)))) <|
  (.call (laws_heldFloat32S_l0_g v983 (v984, (0 : Int))) fun v991 =>
  (.sum v991 (fun v992 =>
   .leaf (-1 : Int)
  ) (fun v993 =>
   .leaf v993
  ))))

noncomputable def laws_heldFloat32S_g (v983 : List Nat) (v984 : Int) : Option (Int) := (laws_heldFloat32S_T v983 v984).run
def laws_heldFloat32S_enc (v983 : List Nat) (v984 : Int) (y : Int) : Rs := (.int .i64 y, [])
theorem laws_heldFloat32S_den (v983 : List Nat) (v984 : Int) : (den TT (tabD laws_heldFloat32S_tab) (tabM laws_heldFloat32S_tab) (laws_heldFloat32S_LO v983 v984) (codeOf Try.f24) ([.bslc (BR.root 0) (.f32 v983), .int .i64 v984] ++ List.replicate (Try.f24.ntmps - ([.bslc (BR.root 0) (.f32 v983), .int .i64 v984] : List DV).length) .undef) []).bind (retD TT Try.f24.results.toList 0) = (laws_heldFloat32S_T v983 v984).bind fun y => .leaf (laws_heldFloat32S_enc v983 v984 y) := by kernel_rfl
theorem laws_heldFloat32S_fn (v983 : List Nat) (v984 : Int) (F : Fr) (hm : F.ids.length = 0) (h0 : St F [] F.H0) (hA : DVs.Ok F [] [.bslc (BR.root 0) (.f32 v983), .int .i64 v984]) {y : Int} (hy : laws_heldFloat32S_g v983 v984 = some y) : ∃ H', FnOk Try.prog 24 (DVs.av F [.bslc (BR.root 0) (.f32 v983), .int .i64 v984]) F.H0 ((laws_heldFloat32S_enc v983 v984 y).1.av F) H' ∧ St F (laws_heldFloat32S_enc v983 v984 y).2 H' ∧ (laws_heldFloat32S_enc v983 v984 y).1.Ok F (laws_heldFloat32S_enc v983 v984 y).2 :=
  fn_fin tok laws_heldFloat32S_hO mixed Try.func24 Try.call24 (by kernel_rfl) (LoopsOk_eq (l := [(0, bodyOf Try.f24 0)]) (by kernel_rfl) ⟨laws_heldFloat32S_l0_ok v983 v984, trivial⟩) (laws_heldFloat32S_den v983 v984) hy hm h0 hA
noncomputable def laws_heldFloat32S_F : DFn := fun args L =>
  match args with
  | [a1, .int .i64 v984] =>
    optT (rowF32 L a1) fun v983 =>
    .call (laws_heldFloat32S_g v983 v984) fun y => .leaf (.int .i64 y, L)
  | _ => .fail
theorem laws_heldFloat32S_Fok : COk Try.prog 24 laws_heldFloat32S_F true := by
  intro F L H args r L' hs ha hr
  unfold laws_heldFloat32S_F at hr
  split at hr
  · rename_i a1 v984
    obtain ⟨v983, hv983, hr⟩ := optT_run hr
    simp only [Tree.run] at hr
    obtain ⟨y, hy, hr⟩ := Option.bind_eq_some_iff.1 hr
    simp only [Tree.run, Option.some.injEq, Prod.mk.injEq] at hr
    obtain ⟨rfl, rfl⟩ := hr
    exact call_ok0 hs (fun k => (([a1.av F] : List AV)[k]?).getD .top) [a1, .int .i64 v984] [.bslc (BR.root 0) (.f32 v983), .int .i64 v984] (fun F' h0 hi hρ => ⟨by simp [DVs.av, DV.av, BR.av, hρ], laws_heldFloat32S_fn v983 v984 F' (by rw [hi]; rfl) (st_nil hi) ⟨bslc_ok hi (by rw [h0, hρ]; exact rowF32_ok hs (DVs.okAt ha 0 rfl) hv983), trivial, trivial⟩ hy⟩) rfl
  · cases hr
/-! laws.heldMatrix -/
noncomputable def laws_heldMatrix_LO (v979 : Int) (v980 : Int) (v981 : List Nat) (v982 : Int) : LOr := fun id e L =>
  match id with
  | _ => .fail
noncomputable def laws_heldMatrix_tab : List (FuncId × DFn × Bool) := [(24, laws_heldFloat32S_F, true)]
theorem laws_heldMatrix_hO : OrcOk Try.prog (tabD laws_heldMatrix_tab) (tabM laws_heldMatrix_tab) := tabD_cons laws_heldFloat32S_Fok (tabD_nil _)
noncomputable def laws_heldMatrix_T (v981 : List Nat) (v982 : Int) : Tree (Int) :=
  (.call (laws_heldFloat32S_g v981 v982) fun v994 =>
  (.br (decide (v994 < (0 : Int))) (
   .leaf (-1 : Int)
  ) (
   .leaf v994
  )))

noncomputable def laws_heldMatrix_g (v981 : List Nat) (v982 : Int) : Option (Int) := (laws_heldMatrix_T v981 v982).run
def laws_heldMatrix_enc (v979 : Int) (v980 : Int) (v981 : List Nat) (v982 : Int) (y : Int) : Rs := (.int .i64 y, [])
theorem laws_heldMatrix_den (v979 : Int) (v980 : Int) (v981 : List Nat) (v982 : Int) : (den TT (tabD laws_heldMatrix_tab) (tabM laws_heldMatrix_tab) (laws_heldMatrix_LO v979 v980 v981 v982) (codeOf Try.f23) ([.agg [.int .i64 v979, .int .i64 v980, .bslc (BR.root 0) (.f32 v981)], .int .i64 v982] ++ List.replicate (Try.f23.ntmps - ([.agg [.int .i64 v979, .int .i64 v980, .bslc (BR.root 0) (.f32 v981)], .int .i64 v982] : List DV).length) .undef) []).bind (retD TT Try.f23.results.toList 0) = (laws_heldMatrix_T v981 v982).bind fun y => .leaf (laws_heldMatrix_enc v979 v980 v981 v982 y) := by kernel_rfl
theorem laws_heldMatrix_fn (v979 : Int) (v980 : Int) (v981 : List Nat) (v982 : Int) (F : Fr) (hm : F.ids.length = 0) (h0 : St F [] F.H0) (hA : DVs.Ok F [] [.agg [.int .i64 v979, .int .i64 v980, .bslc (BR.root 0) (.f32 v981)], .int .i64 v982]) {y : Int} (hy : laws_heldMatrix_g v981 v982 = some y) : ∃ H', FnOk Try.prog 23 (DVs.av F [.agg [.int .i64 v979, .int .i64 v980, .bslc (BR.root 0) (.f32 v981)], .int .i64 v982]) F.H0 ((laws_heldMatrix_enc v979 v980 v981 v982 y).1.av F) H' ∧ St F (laws_heldMatrix_enc v979 v980 v981 v982 y).2 H' ∧ (laws_heldMatrix_enc v979 v980 v981 v982 y).1.Ok F (laws_heldMatrix_enc v979 v980 v981 v982 y).2 :=
  fn_fin tok laws_heldMatrix_hO mixed Try.func23 Try.call23 (by kernel_rfl) (LoopsOk_eq (l := []) (by kernel_rfl) trivial) (laws_heldMatrix_den v979 v980 v981 v982) hy hm h0 hA
noncomputable def laws_heldMatrix_F : DFn := fun args L =>
  match args with
  | [.agg [.int .i64 v979, .int .i64 v980, a1], .int .i64 v982] =>
    optT (rowF32 L a1) fun v981 =>
    .call (laws_heldMatrix_g v981 v982) fun y => .leaf (.int .i64 y, L)
  | _ => .fail
theorem laws_heldMatrix_Fok : COk Try.prog 23 laws_heldMatrix_F true := by
  intro F L H args r L' hs ha hr
  unfold laws_heldMatrix_F at hr
  split at hr
  · rename_i v979 v980 a1 v982
    obtain ⟨v981, hv981, hr⟩ := optT_run hr
    simp only [Tree.run] at hr
    obtain ⟨y, hy, hr⟩ := Option.bind_eq_some_iff.1 hr
    simp only [Tree.run, Option.some.injEq, Prod.mk.injEq] at hr
    obtain ⟨rfl, rfl⟩ := hr
    exact call_ok0 hs (fun k => (([a1.av F] : List AV)[k]?).getD .top) [.agg [.int .i64 v979, .int .i64 v980, a1], .int .i64 v982] [.agg [.int .i64 v979, .int .i64 v980, .bslc (BR.root 0) (.f32 v981)], .int .i64 v982] (fun F' h0 hi hρ => ⟨by simp [DVs.av, DV.av, BR.av, hρ], laws_heldMatrix_fn v979 v980 v981 v982 F' (by rw [hi]; rfl) (st_nil hi) ⟨⟨trivial, trivial, bslc_ok hi (by rw [h0, hρ]; exact rowF32_ok hs (DVs.okAt (DVs.okAt ha 0 rfl) 2 rfl) hv981), trivial⟩, trivial, trivial⟩ hy⟩) rfl
  · cases hr
/-! laws.FnExactPolarPart -/
noncomputable def laws_FnExactPolarPart_LO (v1 : Int) (v2 : Int) (v3 : List Nat) (v4 : Int) : LOr := fun id e L =>
  match id with
  | _ => .fail
noncomputable def laws_FnExactPolarPart_tab : List (FuncId × DFn × Bool) := [(15, laws_szMatrix_F, true), (17, laws_toMatrix_F, true), (52, spec_PolarPart_F, true), (53, impl_PolarPart_F, true), (19, laws_eqMatrix_F, true), (21, (orD (fun args => match args with | [.agg [_, _, .nilslc], _] => true | _ => false) laws_markMatrix_i1_F laws_markMatrix_F), false), (23, laws_heldMatrix_F, true)]
theorem laws_FnExactPolarPart_hO : OrcOk Try.prog (tabD laws_FnExactPolarPart_tab) (tabM laws_FnExactPolarPart_tab) := tabD_cons laws_szMatrix_Fok (tabD_cons laws_toMatrix_Fok (tabD_cons spec_PolarPart_Fok (tabD_cons impl_PolarPart_Fok (tabD_cons laws_eqMatrix_Fok (tabD_cons (orD_ok (COk.weak laws_markMatrix_i1_Fok) laws_markMatrix_Fok) (tabD_cons laws_heldMatrix_Fok (tabD_nil _)))))))
noncomputable def laws_FnExactPolarPart_T (v1 : Int) (v2 : Int) (v3 : List Nat) (v4 : Int) : Tree (Bool) :=
  (.br (decide ((laws_szMatrix_v v3 (1048576 : Int)) < (0 : Int))) (
   .leaf true
  ) (
   (.call (laws_toMatrix_g v1 v2 v3) fun v22 =>
   (.call (spec_PolarPart_g v22.1 v22.2.1 v22.2.2 v4) fun v306 =>
   (.sum v306 (fun v307 =>
    (.call (laws_toMatrix_g v1 v2 v3) fun v309 =>
    (.call (impl_PolarPart_g v309.1 v309.2.1 v309.2.2 v4) fun v921 =>
    (.sum v921 (fun v922 =>
     (.call (laws_eqMatrix_g (0 : Int) (0 : Int) ([] : List Nat) (0 : Int) (0 : Int) ([] : List Nat)) fun v941 =>
     (.br (!v941) (
      .leaf false
     ) (
      (.br (!(false == false)) (
       .leaf false
      ) (
       (.call (laws_toMatrix_g v1 v2 v3) fun v942 =>
       (.call (laws_eqMatrix_g v309.1 v309.2.1 v309.2.2 v942.1 v942.2.1 v942.2.2) fun v943 =>
       (.br (!v943) (
        .leaf false
       ) (
        (.call (laws_markMatrix_g v309.2.2 (1 : Int)) fun v968 =>
        (.grd (decide (v968.2.length = v309.2.2.length)) <|
        (.br (decide (v968.1 < (0 : Int))) (
         .leaf false
        ) (
         (.call (laws_eqMatrix_g (0 : Int) (0 : Int) ([] : List Nat) (0 : Int) (0 : Int) ([] : List Nat)) fun v969 =>
         (.br (!v969) (
          .leaf false
         ) (
          (.br (!(false == false)) (
           .leaf false
          ) (
           (.call (laws_markMatrix_i1_g (1 : Int)) fun v978 =>
           (.call (laws_heldMatrix_g ([] : List Nat) (1 : Int)) fun v995 =>
           (.br (decide (v995 < (0 : Int))) (
            .leaf false
           ) (
            (.br (!decide (v995 = v978)) (
             .leaf false
            ) (
             (.call (laws_toMatrix_g v1 v2 v3) fun v996 =>
             (.call (impl_PolarPart_g v996.1 v996.2.1 v996.2.2 v4) fun v997 =>
             (.sum v997 (fun v998 =>
              (.call (laws_eqMatrix_g (0 : Int) (0 : Int) ([] : List Nat) (0 : Int) (0 : Int) ([] : List Nat)) fun v1000 =>
              (.br (!v1000) (
               .leaf false
              ) (
               (.br (!(false == false)) (
                .leaf false
               ) (
                (.call (laws_heldMatrix_g ([] : List Nat) (1 : Int)) fun v1001 =>
                (.br (decide (v1001 < (0 : Int))) (
                 .leaf false
                ) (
                 (.br (!decide (v1001 = v978)) (
                  .leaf false
                 ) (
                  .leaf true
                 ))
                )))
               ))
              )))
             ) (fun v999 =>
              (.call (laws_eqMatrix_g v999.1 v999.2.1 v999.2.2 (0 : Int) (0 : Int) ([] : List Nat)) fun v1002 =>
              (.br (!v1002) (
               .leaf false
              ) (
               (.br (!(true == false)) (
                .leaf false
               ) (
                (.call (laws_heldMatrix_g ([] : List Nat) (1 : Int)) fun v1003 =>
                (.br (decide (v1003 < (0 : Int))) (
                 .leaf false
                ) (
                 (.br (!decide (v1003 = v978)) (
                  .leaf false
                 ) (
                  .leaf true
                 ))
                )))
               ))
              )))
             ))))
            ))
           ))))
          ))
         )))
        ))))
       ))))
      ))
     )))
    ) (fun v923 =>
     (.call (laws_eqMatrix_g v923.1 v923.2.1 v923.2.2 (0 : Int) (0 : Int) ([] : List Nat)) fun v1004 =>
     (.br (!v1004) (
      .leaf false
     ) (
      (.br (!(true == false)) (
       .leaf false
      ) (
       (.call (laws_toMatrix_g v1 v2 v3) fun v1005 =>
       (.call (laws_eqMatrix_g v309.1 v309.2.1 v309.2.2 v1005.1 v1005.2.1 v1005.2.2) fun v1006 =>
       (.br (!v1006) (
        .leaf false
       ) (
        (.call (laws_markMatrix_g v309.2.2 (1 : Int)) fun v1007 =>
        (.grd (decide (v1007.2.length = v309.2.2.length)) <|
        (.br (decide (v1007.1 < (0 : Int))) (
         .leaf false
        ) (
         (.call (laws_eqMatrix_g v923.1 v923.2.1 v923.2.2 (0 : Int) (0 : Int) ([] : List Nat)) fun v1008 =>
         (.br (!v1008) (
          .leaf false
         ) (
          (.br (!(true == false)) (
           .leaf false
          ) (
           (.call (laws_markMatrix_g v923.2.2 (1 : Int)) fun v1009 =>
           (.grd (decide (v1009.2.length = v923.2.2.length)) <|
           (.call (laws_heldMatrix_g v1009.2 (1 : Int)) fun v1010 =>
           (.br (decide (v1010 < (0 : Int))) (
            .leaf false
           ) (
            (.br (!decide (v1010 = v1009.1)) (
             .leaf false
            ) (
             (.call (laws_toMatrix_g v1 v2 v3) fun v1011 =>
             (.call (impl_PolarPart_g v1011.1 v1011.2.1 v1011.2.2 v4) fun v1012 =>
             (.sum v1012 (fun v1013 =>
              (.call (laws_eqMatrix_g (0 : Int) (0 : Int) ([] : List Nat) (0 : Int) (0 : Int) ([] : List Nat)) fun v1015 =>
              (.br (!v1015) (
               .leaf false
              ) (
               (.br (!(false == false)) (
                .leaf false
               ) (
                (.call (laws_heldMatrix_g v1009.2 (1 : Int)) fun v1016 =>
                (.br (decide (v1016 < (0 : Int))) (
                 .leaf false
                ) (
                 (.br (!decide (v1016 = v1009.1)) (
                  .leaf false
                 ) (
                  .leaf true
                 ))
                )))
               ))
              )))
             ) (fun v1014 =>
              (.call (laws_eqMatrix_g v1014.1 v1014.2.1 v1014.2.2 (0 : Int) (0 : Int) ([] : List Nat)) fun v1017 =>
              (.br (!v1017) (
               .leaf false
              ) (
               (.br (!(true == false)) (
                .leaf false
               ) (
                (.call (laws_heldMatrix_g v1009.2 (1 : Int)) fun v1018 =>
                (.br (decide (v1018 < (0 : Int))) (
                 .leaf false
                ) (
                 (.br (!decide (v1018 = v1009.1)) (
                  .leaf false
                 ) (
                  .leaf true
                 ))
                )))
               ))
              )))
             ))))
            ))
           )))))
          ))
         )))
        ))))
       ))))
      ))
     )))
    ))))
   ) (fun v308 =>
    (.call (laws_toMatrix_g v1 v2 v3) fun v1019 =>
    (.call (impl_PolarPart_g v1019.1 v1019.2.1 v1019.2.2 v4) fun v1020 =>
    (.sum v1020 (fun v1021 =>
     (.call (laws_eqMatrix_g (0 : Int) (0 : Int) ([] : List Nat) v308.1 v308.2.1 v308.2.2) fun v1023 =>
     (.br (!v1023) (
      .leaf false
     ) (
      (.br (!(false == true)) (
       .leaf false
      ) (
       (.call (laws_toMatrix_g v1 v2 v3) fun v1024 =>
       (.call (laws_eqMatrix_g v1019.1 v1019.2.1 v1019.2.2 v1024.1 v1024.2.1 v1024.2.2) fun v1025 =>
       (.br (!v1025) (
        .leaf false
       ) (
        (.call (laws_markMatrix_g v1019.2.2 (1 : Int)) fun v1026 =>
        (.grd (decide (v1026.2.length = v1019.2.2.length)) <|
        (.br (decide (v1026.1 < (0 : Int))) (
         .leaf false
        ) (
         (.call (laws_eqMatrix_g (0 : Int) (0 : Int) ([] : List Nat) v308.1 v308.2.1 v308.2.2) fun v1027 =>
         (.br (!v1027) (
          .leaf false
         ) (
          (.br (!(false == true)) (
           .leaf false
          ) (
           (.call (laws_markMatrix_i1_g (1 : Int)) fun v1028 =>
           (.call (laws_heldMatrix_g ([] : List Nat) (1 : Int)) fun v1029 =>
           (.br (decide (v1029 < (0 : Int))) (
            .leaf false
           ) (
            (.br (!decide (v1029 = v1028)) (
             .leaf false
            ) (
             (.call (laws_toMatrix_g v1 v2 v3) fun v1030 =>
             (.call (impl_PolarPart_g v1030.1 v1030.2.1 v1030.2.2 v4) fun v1031 =>
             (.sum v1031 (fun v1032 =>
              (.call (laws_eqMatrix_g (0 : Int) (0 : Int) ([] : List Nat) v308.1 v308.2.1 v308.2.2) fun v1034 =>
              (.br (!v1034) (
               .leaf false
              ) (
               (.br (!(false == true)) (
                .leaf false
               ) (
                (.call (laws_heldMatrix_g ([] : List Nat) (1 : Int)) fun v1035 =>
                (.br (decide (v1035 < (0 : Int))) (
                 .leaf false
                ) (
                 (.br (!decide (v1035 = v1028)) (
                  .leaf false
                 ) (
                  .leaf true
                 ))
                )))
               ))
              )))
             ) (fun v1033 =>
              (.call (laws_eqMatrix_g v1033.1 v1033.2.1 v1033.2.2 v308.1 v308.2.1 v308.2.2) fun v1036 =>
              (.br (!v1036) (
               .leaf false
              ) (
               (.br (!(true == true)) (
                .leaf false
               ) (
                (.call (laws_heldMatrix_g ([] : List Nat) (1 : Int)) fun v1037 =>
                (.br (decide (v1037 < (0 : Int))) (
                 .leaf false
                ) (
                 (.br (!decide (v1037 = v1028)) (
                  .leaf false
                 ) (
                  .leaf true
                 ))
                )))
               ))
              )))
             ))))
            ))
           ))))
          ))
         )))
        ))))
       ))))
      ))
     )))
    ) (fun v1022 =>
     (.call (laws_eqMatrix_g v1022.1 v1022.2.1 v1022.2.2 v308.1 v308.2.1 v308.2.2) fun v1038 =>
     (.br (!v1038) (
      .leaf false
     ) (
      (.br (!(true == true)) (
       .leaf false
      ) (
       (.call (laws_toMatrix_g v1 v2 v3) fun v1039 =>
       (.call (laws_eqMatrix_g v1019.1 v1019.2.1 v1019.2.2 v1039.1 v1039.2.1 v1039.2.2) fun v1040 =>
       (.br (!v1040) (
        .leaf false
       ) (
        (.call (laws_markMatrix_g v1019.2.2 (1 : Int)) fun v1041 =>
        (.grd (decide (v1041.2.length = v1019.2.2.length)) <|
        (.br (decide (v1041.1 < (0 : Int))) (
         .leaf false
        ) (
         (.call (laws_eqMatrix_g v1022.1 v1022.2.1 v1022.2.2 v308.1 v308.2.1 v308.2.2) fun v1042 =>
         (.br (!v1042) (
          .leaf false
         ) (
          (.br (!(true == true)) (
           .leaf false
          ) (
           (.call (laws_markMatrix_g v1022.2.2 (1 : Int)) fun v1043 =>
           (.grd (decide (v1043.2.length = v1022.2.2.length)) <|
           (.call (laws_heldMatrix_g v1043.2 (1 : Int)) fun v1044 =>
           (.br (decide (v1044 < (0 : Int))) (
            .leaf false
           ) (
            (.br (!decide (v1044 = v1043.1)) (
             .leaf false
            ) (
             (.call (laws_toMatrix_g v1 v2 v3) fun v1045 =>
             (.call (impl_PolarPart_g v1045.1 v1045.2.1 v1045.2.2 v4) fun v1046 =>
             (.sum v1046 (fun v1047 =>
              (.call (laws_eqMatrix_g (0 : Int) (0 : Int) ([] : List Nat) v308.1 v308.2.1 v308.2.2) fun v1049 =>
              (.br (!v1049) (
               .leaf false
              ) (
               (.br (!(false == true)) (
                .leaf false
               ) (
                (.call (laws_heldMatrix_g v1043.2 (1 : Int)) fun v1050 =>
                (.br (decide (v1050 < (0 : Int))) (
                 .leaf false
                ) (
                 (.br (!decide (v1050 = v1043.1)) (
                  .leaf false
                 ) (
                  .leaf true
                 ))
                )))
               ))
              )))
             ) (fun v1048 =>
              (.call (laws_eqMatrix_g v1048.1 v1048.2.1 v1048.2.2 v308.1 v308.2.1 v308.2.2) fun v1051 =>
              (.br (!v1051) (
               .leaf false
              ) (
               (.br (!(true == true)) (
                .leaf false
               ) (
                (.call (laws_heldMatrix_g v1043.2 (1 : Int)) fun v1052 =>
                (.br (decide (v1052 < (0 : Int))) (
                 .leaf false
                ) (
                 (.br (!decide (v1052 = v1043.1)) (
                  .leaf false
                 ) (
                  .leaf true
                 ))
                )))
               ))
              )))
             ))))
            ))
           )))))
          ))
         )))
        ))))
       ))))
      ))
     )))
    ))))
   ))))
  ))

noncomputable def laws_FnExactPolarPart_g (v1 : Int) (v2 : Int) (v3 : List Nat) (v4 : Int) : Option (Bool) := (laws_FnExactPolarPart_T v1 v2 v3 v4).run
def laws_FnExactPolarPart_enc (v1 : Int) (v2 : Int) (v3 : List Nat) (v4 : Int) (y : Bool) : Rs := (.bool y, [])
theorem laws_FnExactPolarPart_den (v1 : Int) (v2 : Int) (v3 : List Nat) (v4 : Int) : (den TT (tabD laws_FnExactPolarPart_tab) (tabM laws_FnExactPolarPart_tab) (laws_FnExactPolarPart_LO v1 v2 v3 v4) (codeOf Try.f13) ([.agg [.int .i64 v1, .int .i64 v2, .bslc (BR.root 0) (.f32 v3)], .int .i64 v4] ++ List.replicate (Try.f13.ntmps - ([.agg [.int .i64 v1, .int .i64 v2, .bslc (BR.root 0) (.f32 v3)], .int .i64 v4] : List DV).length) .undef) []).bind (retD TT Try.f13.results.toList 0) = (laws_FnExactPolarPart_T v1 v2 v3 v4).bind fun y => .leaf (laws_FnExactPolarPart_enc v1 v2 v3 v4 y) := by kernel_rfl
theorem laws_FnExactPolarPart_fn (v1 : Int) (v2 : Int) (v3 : List Nat) (v4 : Int) (F : Fr) (hm : F.ids.length = 0) (h0 : St F [] F.H0) (hA : DVs.Ok F [] [.agg [.int .i64 v1, .int .i64 v2, .bslc (BR.root 0) (.f32 v3)], .int .i64 v4]) {y : Bool} (hy : laws_FnExactPolarPart_g v1 v2 v3 v4 = some y) : ∃ H', FnOk Try.prog 13 (DVs.av F [.agg [.int .i64 v1, .int .i64 v2, .bslc (BR.root 0) (.f32 v3)], .int .i64 v4]) F.H0 ((laws_FnExactPolarPart_enc v1 v2 v3 v4 y).1.av F) H' ∧ St F (laws_FnExactPolarPart_enc v1 v2 v3 v4 y).2 H' ∧ (laws_FnExactPolarPart_enc v1 v2 v3 v4 y).1.Ok F (laws_FnExactPolarPart_enc v1 v2 v3 v4 y).2 :=
  fn_fin tok laws_FnExactPolarPart_hO mixed Try.func13 Try.call13 (by kernel_rfl) (LoopsOk_eq (l := []) (by kernel_rfl) trivial) (laws_FnExactPolarPart_den v1 v2 v3 v4) hy hm h0 hA
noncomputable def laws_FnExactPolarPart_F : DFn := fun args L =>
  match args with
  | [.agg [.int .i64 v1, .int .i64 v2, a1], .int .i64 v4] =>
    optT (rowF32 L a1) fun v3 =>
    .call (laws_FnExactPolarPart_g v1 v2 v3 v4) fun y => .leaf (.bool y, L)
  | _ => .fail
theorem laws_FnExactPolarPart_Fok : COk Try.prog 13 laws_FnExactPolarPart_F true := by
  intro F L H args r L' hs ha hr
  unfold laws_FnExactPolarPart_F at hr
  split at hr
  · rename_i v1 v2 a1 v4
    obtain ⟨v3, hv3, hr⟩ := optT_run hr
    simp only [Tree.run] at hr
    obtain ⟨y, hy, hr⟩ := Option.bind_eq_some_iff.1 hr
    simp only [Tree.run, Option.some.injEq, Prod.mk.injEq] at hr
    obtain ⟨rfl, rfl⟩ := hr
    exact call_ok0 hs (fun k => (([a1.av F] : List AV)[k]?).getD .top) [.agg [.int .i64 v1, .int .i64 v2, a1], .int .i64 v4] [.agg [.int .i64 v1, .int .i64 v2, .bslc (BR.root 0) (.f32 v3)], .int .i64 v4] (fun F' h0 hi hρ => ⟨by simp [DVs.av, DV.av, BR.av, hρ], laws_FnExactPolarPart_fn v1 v2 v3 v4 F' (by rw [hi]; rfl) (st_nil hi) ⟨⟨trivial, trivial, bslc_ok hi (by rw [h0, hρ]; exact rowF32_ok hs (DVs.okAt (DVs.okAt ha 0 rfl) 2 rfl) hv3), trivial⟩, trivial, trivial⟩ hy⟩) rfl
  · cases hr
/-! laws.szFloat32S -/
noncomputable def laws_szFloat32S_len_LO (v1061 : Nat) (v1062 : Int) : LOr := fun id e L =>
  match id with
  | _ => .fail
noncomputable def laws_szFloat32S_len_tab : List (FuncId × DFn × Bool) := []
theorem laws_szFloat32S_len_hO : OrcOk Try.prog (tabD laws_szFloat32S_len_tab) (tabM laws_szFloat32S_len_tab) := tabD_nil _
noncomputable def laws_szFloat32S_len_T (v1061 : Nat) (v1062 : Int) : Tree (Int) :=
  (.br (decide (IntKind.i64.wrap (v1062 - ((v1061 : Nat) : Int)) < (0 : Int))) (
   .leaf (-1 : Int)
  ) (
   .leaf (IntKind.i64.wrap (v1062 - ((v1061 : Nat) : Int)))
  ))

noncomputable def laws_szFloat32S_len_g (v1061 : Nat) (v1062 : Int) : Option (Int) := (laws_szFloat32S_len_T v1061 v1062).run
def laws_szFloat32S_len_enc (v1061 : Nat) (v1062 : Int) (y : Int) : Rs := (.int .i64 y, [])
theorem laws_szFloat32S_len_den (v1061 : Nat) (v1062 : Int) : (den TT (tabD laws_szFloat32S_len_tab) (tabM laws_szFloat32S_len_tab) (laws_szFloat32S_len_LO v1061 v1062) (codeOf Try.f56) ([.hslc (BR.root 0) v1061, .int .i64 v1062] ++ List.replicate (Try.f56.ntmps - ([.hslc (BR.root 0) v1061, .int .i64 v1062] : List DV).length) .undef) []).bind (retD TT Try.f56.results.toList 0) = (laws_szFloat32S_len_T v1061 v1062).bind fun y => .leaf (laws_szFloat32S_len_enc v1061 v1062 y) := by kernel_rfl
theorem laws_szFloat32S_len_fn (v1061 : Nat) (v1062 : Int) (F : Fr) (hm : F.ids.length = 0) (h0 : St F [] F.H0) (hA : DVs.Ok F [] [.hslc (BR.root 0) v1061, .int .i64 v1062]) {y : Int} (hy : laws_szFloat32S_len_g v1061 v1062 = some y) : ∃ H', FnOk Try.prog 56 (DVs.av F [.hslc (BR.root 0) v1061, .int .i64 v1062]) F.H0 ((laws_szFloat32S_len_enc v1061 v1062 y).1.av F) H' ∧ St F (laws_szFloat32S_len_enc v1061 v1062 y).2 H' ∧ (laws_szFloat32S_len_enc v1061 v1062 y).1.Ok F (laws_szFloat32S_len_enc v1061 v1062 y).2 :=
  fn_fin tok laws_szFloat32S_len_hO mixed Try.func56 Try.call56 (by kernel_rfl) (LoopsOk_eq (l := []) (by kernel_rfl) trivial) (laws_szFloat32S_len_den v1061 v1062) hy hm h0 hA
def laws_szFloat32S_len_v (v1061 : Nat) (v1062 : Int) : Int :=
  if (decide (IntKind.i64.wrap (v1062 - ((v1061 : Nat) : Int)) < (0 : Int))) = true then (
   (-1 : Int)
  ) else (
   IntKind.i64.wrap (v1062 - ((v1061 : Nat) : Int))
  )
theorem laws_szFloat32S_len_tot (v1061 : Nat) (v1062 : Int) : laws_szFloat32S_len_g v1061 v1062 = some (laws_szFloat32S_len_v v1061 v1062) := by
  unfold laws_szFloat32S_len_g laws_szFloat32S_len_T laws_szFloat32S_len_v
  simp only [Tree.run]
  repeat' (first | rfl | split)
noncomputable def laws_szFloat32S_len_F : DFn := fun args L =>
  match args with
  | [a1, .int .i64 v1062] =>
    optT (lenV L a1) fun v1061 =>
    .leaf (.int .i64 (laws_szFloat32S_len_v v1061 v1062), L)
  | _ => .fail
theorem laws_szFloat32S_len_Fok : COk Try.prog 56 laws_szFloat32S_len_F true := by
  intro F L H args r L' hs ha hr
  unfold laws_szFloat32S_len_F at hr
  split at hr
  · rename_i a1 v1062
    obtain ⟨v1061, hv1061, hr⟩ := optT_run hr
    have hy := laws_szFloat32S_len_tot v1061 v1062
    generalize laws_szFloat32S_len_v v1061 v1062 = y at hy hr
    simp only [Tree.run, Option.some.injEq, Prod.mk.injEq] at hr
    obtain ⟨rfl, rfl⟩ := hr
    exact call_ok0 hs (fun k => (([a1.av F] : List AV)[k]?).getD .top) [a1, .int .i64 v1062] [.hslc (BR.root 0) v1061, .int .i64 v1062] (fun F' h0 hi hρ => ⟨by simp [DVs.av, DV.av, BR.av, hρ], laws_szFloat32S_len_fn v1061 v1062 F' (by rw [hi]; rfl) (st_nil hi) ⟨hslc_ok hi (by rw [h0, hρ]; exact lenV_ok hs (DVs.okAt ha 0 rfl) hv1061), trivial, trivial⟩ hy⟩) rfl
  · cases hr
/-! laws.szMatrix -/
noncomputable def laws_szMatrix_len_LO (v1057 : Int) (v1058 : Int) (v1059 : Nat) (v1060 : Int) : LOr := fun id e L =>
  match id with
  | _ => .fail
noncomputable def laws_szMatrix_len_tab : List (FuncId × DFn × Bool) := [(56, laws_szFloat32S_len_F, true)]
theorem laws_szMatrix_len_hO : OrcOk Try.prog (tabD laws_szMatrix_len_tab) (tabM laws_szMatrix_len_tab) := tabD_cons laws_szFloat32S_len_Fok (tabD_nil _)
noncomputable def laws_szMatrix_len_T (v1059 : Nat) (v1060 : Int) : Tree (Int) :=
  (.br (decide ((laws_szFloat32S_len_v v1059 v1060) < (0 : Int))) (
   .leaf (-1 : Int)
  ) (
   .leaf (laws_szFloat32S_len_v v1059 v1060)
  ))

noncomputable def laws_szMatrix_len_g (v1059 : Nat) (v1060 : Int) : Option (Int) := (laws_szMatrix_len_T v1059 v1060).run
def laws_szMatrix_len_enc (v1057 : Int) (v1058 : Int) (v1059 : Nat) (v1060 : Int) (y : Int) : Rs := (.int .i64 y, [])
theorem laws_szMatrix_len_den (v1057 : Int) (v1058 : Int) (v1059 : Nat) (v1060 : Int) : (den TT (tabD laws_szMatrix_len_tab) (tabM laws_szMatrix_len_tab) (laws_szMatrix_len_LO v1057 v1058 v1059 v1060) (codeOf Try.f15) ([.agg [.int .i64 v1057, .int .i64 v1058, .hslc (BR.root 0) v1059], .int .i64 v1060] ++ List.replicate (Try.f15.ntmps - ([.agg [.int .i64 v1057, .int .i64 v1058, .hslc (BR.root 0) v1059], .int .i64 v1060] : List DV).length) .undef) []).bind (retD TT Try.f15.results.toList 0) = (laws_szMatrix_len_T v1059 v1060).bind fun y => .leaf (laws_szMatrix_len_enc v1057 v1058 v1059 v1060 y) := by kernel_rfl
theorem laws_szMatrix_len_fn (v1057 : Int) (v1058 : Int) (v1059 : Nat) (v1060 : Int) (F : Fr) (hm : F.ids.length = 0) (h0 : St F [] F.H0) (hA : DVs.Ok F [] [.agg [.int .i64 v1057, .int .i64 v1058, .hslc (BR.root 0) v1059], .int .i64 v1060]) {y : Int} (hy : laws_szMatrix_len_g v1059 v1060 = some y) : ∃ H', FnOk Try.prog 15 (DVs.av F [.agg [.int .i64 v1057, .int .i64 v1058, .hslc (BR.root 0) v1059], .int .i64 v1060]) F.H0 ((laws_szMatrix_len_enc v1057 v1058 v1059 v1060 y).1.av F) H' ∧ St F (laws_szMatrix_len_enc v1057 v1058 v1059 v1060 y).2 H' ∧ (laws_szMatrix_len_enc v1057 v1058 v1059 v1060 y).1.Ok F (laws_szMatrix_len_enc v1057 v1058 v1059 v1060 y).2 :=
  fn_fin tok laws_szMatrix_len_hO mixed Try.func15 Try.call15 (by kernel_rfl) (LoopsOk_eq (l := []) (by kernel_rfl) trivial) (laws_szMatrix_len_den v1057 v1058 v1059 v1060) hy hm h0 hA
def laws_szMatrix_len_v (v1059 : Nat) (v1060 : Int) : Int :=
  if (decide ((laws_szFloat32S_len_v v1059 v1060) < (0 : Int))) = true then (
   (-1 : Int)
  ) else (
   (laws_szFloat32S_len_v v1059 v1060)
  )
theorem laws_szMatrix_len_tot (v1059 : Nat) (v1060 : Int) : laws_szMatrix_len_g v1059 v1060 = some (laws_szMatrix_len_v v1059 v1060) := by
  unfold laws_szMatrix_len_g laws_szMatrix_len_T laws_szMatrix_len_v
  simp only [Tree.run]
  repeat' (first | rfl | split)
noncomputable def laws_szMatrix_len_F : DFn := fun args L =>
  match args with
  | [.agg [.int .i64 v1057, .int .i64 v1058, a1], .int .i64 v1060] =>
    optT (lenV L a1) fun v1059 =>
    .leaf (.int .i64 (laws_szMatrix_len_v v1059 v1060), L)
  | _ => .fail
theorem laws_szMatrix_len_Fok : COk Try.prog 15 laws_szMatrix_len_F true := by
  intro F L H args r L' hs ha hr
  unfold laws_szMatrix_len_F at hr
  split at hr
  · rename_i v1057 v1058 a1 v1060
    obtain ⟨v1059, hv1059, hr⟩ := optT_run hr
    have hy := laws_szMatrix_len_tot v1059 v1060
    generalize laws_szMatrix_len_v v1059 v1060 = y at hy hr
    simp only [Tree.run, Option.some.injEq, Prod.mk.injEq] at hr
    obtain ⟨rfl, rfl⟩ := hr
    exact call_ok0 hs (fun k => (([a1.av F] : List AV)[k]?).getD .top) [.agg [.int .i64 v1057, .int .i64 v1058, a1], .int .i64 v1060] [.agg [.int .i64 v1057, .int .i64 v1058, .hslc (BR.root 0) v1059], .int .i64 v1060] (fun F' h0 hi hρ => ⟨by simp [DVs.av, DV.av, BR.av, hρ], laws_szMatrix_len_fn v1057 v1058 v1059 v1060 F' (by rw [hi]; rfl) (st_nil hi) ⟨⟨trivial, trivial, hslc_ok hi (by rw [h0, hρ]; exact lenV_ok hs (DVs.okAt (DVs.okAt ha 0 rfl) 2 rfl) hv1059), trivial⟩, trivial, trivial⟩ hy⟩) rfl
  · cases hr
/-! laws.FnExactPolarPart -/
noncomputable def laws_FnExactPolarPart_len_LO (v1053 : Int) (v1054 : Int) (v1055 : Nat) (v1056 : Int) : LOr := fun id e L =>
  match id with
  | _ => .fail
noncomputable def laws_FnExactPolarPart_len_tab : List (FuncId × DFn × Bool) := [(15, laws_szMatrix_len_F, true)]
theorem laws_FnExactPolarPart_len_hO : OrcOk Try.prog (tabD laws_FnExactPolarPart_len_tab) (tabM laws_FnExactPolarPart_len_tab) := tabD_cons laws_szMatrix_len_Fok (tabD_nil _)
noncomputable def laws_FnExactPolarPart_len_T (v1055 : Nat) : Tree (Bool) :=
  (.br (decide ((laws_szMatrix_len_v v1055 (1048576 : Int)) < (0 : Int))) (
   .leaf true
  ) (
   .fail
  ))

noncomputable def laws_FnExactPolarPart_len_g (v1055 : Nat) : Option (Bool) := (laws_FnExactPolarPart_len_T v1055).run
def laws_FnExactPolarPart_len_enc (v1053 : Int) (v1054 : Int) (v1055 : Nat) (v1056 : Int) (y : Bool) : Rs := (.bool y, [])
theorem laws_FnExactPolarPart_len_den (v1053 : Int) (v1054 : Int) (v1055 : Nat) (v1056 : Int) : (den TT (tabD laws_FnExactPolarPart_len_tab) (tabM laws_FnExactPolarPart_len_tab) (laws_FnExactPolarPart_len_LO v1053 v1054 v1055 v1056) (codeOf Try.f13) ([.agg [.int .i64 v1053, .int .i64 v1054, .hslc (BR.root 0) v1055], .int .i64 v1056] ++ List.replicate (Try.f13.ntmps - ([.agg [.int .i64 v1053, .int .i64 v1054, .hslc (BR.root 0) v1055], .int .i64 v1056] : List DV).length) .undef) []).bind (retD TT Try.f13.results.toList 0) = (laws_FnExactPolarPart_len_T v1055).bind fun y => .leaf (laws_FnExactPolarPart_len_enc v1053 v1054 v1055 v1056 y) := by kernel_rfl
theorem laws_FnExactPolarPart_len_fn (v1053 : Int) (v1054 : Int) (v1055 : Nat) (v1056 : Int) (F : Fr) (hm : F.ids.length = 0) (h0 : St F [] F.H0) (hA : DVs.Ok F [] [.agg [.int .i64 v1053, .int .i64 v1054, .hslc (BR.root 0) v1055], .int .i64 v1056]) {y : Bool} (hy : laws_FnExactPolarPart_len_g v1055 = some y) : ∃ H', FnOk Try.prog 13 (DVs.av F [.agg [.int .i64 v1053, .int .i64 v1054, .hslc (BR.root 0) v1055], .int .i64 v1056]) F.H0 ((laws_FnExactPolarPart_len_enc v1053 v1054 v1055 v1056 y).1.av F) H' ∧ St F (laws_FnExactPolarPart_len_enc v1053 v1054 v1055 v1056 y).2 H' ∧ (laws_FnExactPolarPart_len_enc v1053 v1054 v1055 v1056 y).1.Ok F (laws_FnExactPolarPart_len_enc v1053 v1054 v1055 v1056 y).2 :=
  fn_fin tok laws_FnExactPolarPart_len_hO mixed Try.func13 Try.call13 (by kernel_rfl) (LoopsOk_eq (l := []) (by kernel_rfl) trivial) (laws_FnExactPolarPart_len_den v1053 v1054 v1055 v1056) hy hm h0 hA
noncomputable def laws_FnExactPolarPart_len_F : DFn := fun args L =>
  match args with
  | [.agg [.int .i64 v1053, .int .i64 v1054, a1], .int .i64 v1056] =>
    optT (lenV L a1) fun v1055 =>
    .call (laws_FnExactPolarPart_len_g v1055) fun y => .leaf (.bool y, L)
  | _ => .fail
theorem laws_FnExactPolarPart_len_Fok : COk Try.prog 13 laws_FnExactPolarPart_len_F true := by
  intro F L H args r L' hs ha hr
  unfold laws_FnExactPolarPart_len_F at hr
  split at hr
  · rename_i v1053 v1054 a1 v1056
    obtain ⟨v1055, hv1055, hr⟩ := optT_run hr
    simp only [Tree.run] at hr
    obtain ⟨y, hy, hr⟩ := Option.bind_eq_some_iff.1 hr
    simp only [Tree.run, Option.some.injEq, Prod.mk.injEq] at hr
    obtain ⟨rfl, rfl⟩ := hr
    exact call_ok0 hs (fun k => (([a1.av F] : List AV)[k]?).getD .top) [.agg [.int .i64 v1053, .int .i64 v1054, a1], .int .i64 v1056] [.agg [.int .i64 v1053, .int .i64 v1054, .hslc (BR.root 0) v1055], .int .i64 v1056] (fun F' h0 hi hρ => ⟨by simp [DVs.av, DV.av, BR.av, hρ], laws_FnExactPolarPart_len_fn v1053 v1054 v1055 v1056 F' (by rw [hi]; rfl) (st_nil hi) ⟨⟨trivial, trivial, hslc_ok hi (by rw [h0, hρ]; exact lenV_ok hs (DVs.okAt (DVs.okAt ha 0 rfl) 2 rfl) hv1055), trivial⟩, trivial, trivial⟩ hy⟩) rfl
  · cases hr
end Go.Proofs.Ytooakheodgndaaa.AM
