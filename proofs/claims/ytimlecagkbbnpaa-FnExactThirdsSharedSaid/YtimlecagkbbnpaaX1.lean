/- Functions: what they come to. -/
import Derived.Test.YtimlecagkbbnpaaX0
set_option maxRecDepth 100000
set_option maxHeartbeats 4000000
set_option linter.unusedSimpArgs false
set_option linter.unusedVariables false
namespace Go.Proofs.Ytimlecagkbbnpaa.AM
open Go.Proofs
/-! impl.inRange -/
noncomputable def impl_inRange_LO (v165 : Int) (v166 : Int) (v167 : Int) : LOr := fun id e L =>
  match id with
  | _ => .fail
noncomputable def impl_inRange_tab : List (FuncId × DFn × Bool) := []
theorem impl_inRange_hO : OrcOk Try.prog (tabD impl_inRange_tab) (tabM impl_inRange_tab) := tabD_nil _
noncomputable def impl_inRange_T (v165 : Int) (v166 : Int) (v167 : Int) : Tree (Bool) :=
  (.br (decide (v166 ≤ v165)) (
  .leaf (decide (v165 ≤ v167))
  ) (
  .leaf false
  ))

noncomputable def impl_inRange_g (v165 : Int) (v166 : Int) (v167 : Int) : Option (Bool) := (impl_inRange_T v165 v166 v167).run
def impl_inRange_enc (v165 : Int) (v166 : Int) (v167 : Int) (y : Bool) : Rs := (.bool y, [])
theorem impl_inRange_den (v165 : Int) (v166 : Int) (v167 : Int) : (den TT (tabD impl_inRange_tab) (tabM impl_inRange_tab) (impl_inRange_LO v165 v166 v167) (codeOf Try.f89) ([.int .i64 v165, .int .i64 v166, .int .i64 v167] ++ List.replicate (Try.f89.ntmps - ([.int .i64 v165, .int .i64 v166, .int .i64 v167] : List DV).length) .undef) []).bind (retD TT Try.f89.results.toList 0) = (impl_inRange_T v165 v166 v167).bind fun y => .leaf (impl_inRange_enc v165 v166 v167 y) := by kernel_rfl
theorem impl_inRange_fn (v165 : Int) (v166 : Int) (v167 : Int) (F : Fr) (h0 : St F [] F.H0) (hA : DVs.Ok F [] [.int .i64 v165, .int .i64 v166, .int .i64 v167]) {y : Bool} (hy : impl_inRange_g v165 v166 v167 = some y) : ∃ F' H', Fwd 0 F F' [] (impl_inRange_enc v165 v166 v167 y).2 ∧ FnOk Try.prog 89 (DVs.av F [.int .i64 v165, .int .i64 v166, .int .i64 v167]) F.H0 ((impl_inRange_enc v165 v166 v167 y).1.av F') H' ∧ St F' (impl_inRange_enc v165 v166 v167 y).2 H' ∧ (impl_inRange_enc v165 v166 v167 y).1.Ok F' (impl_inRange_enc v165 v166 v167 y).2 :=
  fn_fin tok impl_inRange_hO mixed Try.func89 Try.call89 (by kernel_rfl) (LoopsOk_eq (l := []) (by kernel_rfl) trivial) (impl_inRange_den v165 v166 v167) hy h0 hA
def impl_inRange_v (v165 : Int) (v166 : Int) (v167 : Int) : Bool :=
  if (decide (v166 ≤ v165)) = true then (
  decide (v165 ≤ v167)
  ) else (
  false
  )
theorem impl_inRange_tot (v165 : Int) (v166 : Int) (v167 : Int) : impl_inRange_g v165 v166 v167 = some (impl_inRange_v v165 v166 v167) := by
  unfold impl_inRange_g impl_inRange_T impl_inRange_v
  simp only [Tree.run]
  repeat' (first | rfl | split)
noncomputable def impl_inRange_F : DFn := fun args L =>
  match args with
  | [.int .i64 v165, .int .i64 v166, .int .i64 v167] =>
    .leaf (.bool (impl_inRange_v v165 v166 v167), L)
  | _ => .fail
theorem impl_inRange_Fok : COk Try.prog 89 impl_inRange_F true := by
  intro F L H args r L' hs ha hr
  unfold impl_inRange_F at hr
  split at hr
  · rename_i v165 v166 v167
    have hy := impl_inRange_tot v165 v166 v167
    generalize impl_inRange_v v165 v166 v167 = y at hy hr
    simp only [Tree.run, Option.some.injEq, Prod.mk.injEq] at hr
    obtain ⟨rfl, rfl⟩ := hr
    exact call_ok0 hs (fun k => (([] : List AV)[k]?).getD .top) [.int .i64 v165, .int .i64 v166, .int .i64 v167] [.int .i64 v165, .int .i64 v166, .int .i64 v167] (fun F' h0 hi hρ => ⟨by simp [DVs.av, DV.av, BR.av, hρ], impl_inRange_fn v165 v166 v167 F' (st_nil hi) ⟨trivial, trivial, trivial, trivial⟩ hy⟩) rfl
  · cases hr
/-! impl.length[float32] -/
noncomputable def impl_lengthF_LO (v182 : List Nat) : LOr := fun id e L =>
  match id with
  | _ => .fail
noncomputable def impl_lengthF_tab : List (FuncId × DFn × Bool) := []
theorem impl_lengthF_hO : OrcOk Try.prog (tabD impl_lengthF_tab) (tabM impl_lengthF_tab) := tabD_nil _
noncomputable def impl_lengthF_T (v182 : List Nat) : Tree (Int) :=
  .leaf ((v182.length : Nat) : Int)

noncomputable def impl_lengthF_g (v182 : List Nat) : Option (Int) := (impl_lengthF_T v182).run
def impl_lengthF_enc (v182 : List Nat) (y : Int) : Rs := (.int .i64 y, [])
theorem impl_lengthF_den (v182 : List Nat) : (den TT (tabD impl_lengthF_tab) (tabM impl_lengthF_tab) (impl_lengthF_LO v182) (codeOf Try.f145) ([.bslc (BR.root 0) (.f32 v182)] ++ List.replicate (Try.f145.ntmps - ([.bslc (BR.root 0) (.f32 v182)] : List DV).length) .undef) []).bind (retD TT Try.f145.results.toList 0) = (impl_lengthF_T v182).bind fun y => .leaf (impl_lengthF_enc v182 y) := by kernel_rfl
theorem impl_lengthF_fn (v182 : List Nat) (F : Fr) (h0 : St F [] F.H0) (hA : DVs.Ok F [] [.bslc (BR.root 0) (.f32 v182)]) {y : Int} (hy : impl_lengthF_g v182 = some y) : ∃ F' H', Fwd 0 F F' [] (impl_lengthF_enc v182 y).2 ∧ FnOk Try.prog 145 (DVs.av F [.bslc (BR.root 0) (.f32 v182)]) F.H0 ((impl_lengthF_enc v182 y).1.av F') H' ∧ St F' (impl_lengthF_enc v182 y).2 H' ∧ (impl_lengthF_enc v182 y).1.Ok F' (impl_lengthF_enc v182 y).2 :=
  fn_fin tok impl_lengthF_hO mixed Try.func145 Try.call145 (by kernel_rfl) (LoopsOk_eq (l := []) (by kernel_rfl) trivial) (impl_lengthF_den v182) hy h0 hA
def impl_lengthF_v (v182 : List Nat) : Int :=
  ((v182.length : Nat) : Int)
theorem impl_lengthF_tot (v182 : List Nat) : impl_lengthF_g v182 = some (impl_lengthF_v v182) := by
  unfold impl_lengthF_g impl_lengthF_T impl_lengthF_v
  simp only [Tree.run]
  repeat' (first | rfl | split)
noncomputable def impl_lengthF_F : DFn := fun args L =>
  match args with
  | [a1] =>
    optT (rowF32 L a1) fun v182 =>
    .leaf (.int .i64 (impl_lengthF_v v182), L)
  | _ => .fail
theorem impl_lengthF_Fok : COk Try.prog 145 impl_lengthF_F true := by
  intro F L H args r L' hs ha hr
  unfold impl_lengthF_F at hr
  split at hr
  · rename_i a1
    obtain ⟨v182, hv182, hr⟩ := optT_run hr
    have hy := impl_lengthF_tot v182
    generalize impl_lengthF_v v182 = y at hy hr
    simp only [Tree.run, Option.some.injEq, Prod.mk.injEq] at hr
    obtain ⟨rfl, rfl⟩ := hr
    exact call_ok0 hs (fun k => (([a1.av F] : List AV)[k]?).getD .top) [a1] [.bslc (BR.root 0) (.f32 v182)] (fun F' h0 hi hρ => ⟨by simp [DVs.av, DV.av, BR.av, hρ], impl_lengthF_fn v182 F' (st_nil hi) ⟨bslc_ok hi (by rw [h0, hρ]; exact rowF32_ok hs (DVs.okAt ha 0 rfl) hv182), trivial⟩ hy⟩) rfl
  · cases hr
/-! math.IsNaN -/
noncomputable def math_IsNaN_LO (v190 : Nat) : LOr := fun id e L =>
  match id with
  | _ => .fail
noncomputable def math_IsNaN_tab : List (FuncId × DFn × Bool) := []
theorem math_IsNaN_hO : OrcOk Try.prog (tabD math_IsNaN_tab) (tabM math_IsNaN_tab) := tabD_nil _
noncomputable def math_IsNaN_T (v190 : Nat) : Tree (Bool) :=
  .leaf (!feq .f64 v190 v190)

noncomputable def math_IsNaN_g (v190 : Nat) : Option (Bool) := (math_IsNaN_T v190).run
def math_IsNaN_enc (v190 : Nat) (y : Bool) : Rs := (.bool y, [])
theorem math_IsNaN_den (v190 : Nat) : (den TT (tabD math_IsNaN_tab) (tabM math_IsNaN_tab) (math_IsNaN_LO v190) (codeOf Try.f158) ([.flt .f64 v190] ++ List.replicate (Try.f158.ntmps - ([.flt .f64 v190] : List DV).length) .undef) []).bind (retD TT Try.f158.results.toList 0) = (math_IsNaN_T v190).bind fun y => .leaf (math_IsNaN_enc v190 y) := by kernel_rfl
theorem math_IsNaN_fn (v190 : Nat) (F : Fr) (h0 : St F [] F.H0) (hA : DVs.Ok F [] [.flt .f64 v190]) {y : Bool} (hy : math_IsNaN_g v190 = some y) : ∃ F' H', Fwd 0 F F' [] (math_IsNaN_enc v190 y).2 ∧ FnOk Try.prog 158 (DVs.av F [.flt .f64 v190]) F.H0 ((math_IsNaN_enc v190 y).1.av F') H' ∧ St F' (math_IsNaN_enc v190 y).2 H' ∧ (math_IsNaN_enc v190 y).1.Ok F' (math_IsNaN_enc v190 y).2 :=
  fn_fin tok math_IsNaN_hO mixed Try.func158 Try.call158 (by kernel_rfl) (LoopsOk_eq (l := []) (by kernel_rfl) trivial) (math_IsNaN_den v190) hy h0 hA
def math_IsNaN_v (v190 : Nat) : Bool :=
  !feq .f64 v190 v190
theorem math_IsNaN_tot (v190 : Nat) : math_IsNaN_g v190 = some (math_IsNaN_v v190) := by
  unfold math_IsNaN_g math_IsNaN_T math_IsNaN_v
  simp only [Tree.run]
  repeat' (first | rfl | split)
noncomputable def math_IsNaN_F : DFn := fun args L =>
  match args with
  | [.flt .f64 v190] =>
    .leaf (.bool (math_IsNaN_v v190), L)
  | _ => .fail
theorem math_IsNaN_Fok : COk Try.prog 158 math_IsNaN_F true := by
  intro F L H args r L' hs ha hr
  unfold math_IsNaN_F at hr
  split at hr
  · rename_i v190
    have hy := math_IsNaN_tot v190
    generalize math_IsNaN_v v190 = y at hy hr
    simp only [Tree.run, Option.some.injEq, Prod.mk.injEq] at hr
    obtain ⟨rfl, rfl⟩ := hr
    exact call_ok0 hs (fun k => (([] : List AV)[k]?).getD .top) [.flt .f64 v190] [.flt .f64 v190] (fun F' h0 hi hρ => ⟨by simp [DVs.av, DV.av, BR.av, hρ], math_IsNaN_fn v190 F' (st_nil hi) ⟨trivial, trivial⟩ hy⟩) rfl
  · cases hr
/-! math.IsInf -/
noncomputable def math_IsInf_LO (v191 : Nat) (v192 : Int) : LOr := fun id e L =>
  match id with
  | _ => .fail
noncomputable def math_IsInf_tab : List (FuncId × DFn × Bool) := [(169, Abs_F, true)]
theorem math_IsInf_hO : OrcOk Try.prog (tabD math_IsInf_tab) (tabM math_IsInf_tab) := tabD_cons Abs_Fok (tabD_nil _)
noncomputable def math_IsInf_T (v191 : Nat) (v192 : Int) : Tree (Bool) :=
  (.br (decide (v192 = (0 : Int))) (
  .leaf (fgrt .f64 (fabs v191) (9218868437227405311 : Nat))
  ) (
  (.br (decide (v192 < (0 : Int))) (
  .leaf (fgrt .f64 (fneg .f64 v191) (9218868437227405311 : Nat))
  ) (
  .leaf (fgrt .f64 v191 (9218868437227405311 : Nat))
  ))
  ))

noncomputable def math_IsInf_g (v191 : Nat) (v192 : Int) : Option (Bool) := (math_IsInf_T v191 v192).run
def math_IsInf_enc (v191 : Nat) (v192 : Int) (y : Bool) : Rs := (.bool y, [])
theorem math_IsInf_den (v191 : Nat) (v192 : Int) : (den TT (tabD math_IsInf_tab) (tabM math_IsInf_tab) (math_IsInf_LO v191 v192) (codeOf Try.f159) ([.flt .f64 v191, .int .i64 v192] ++ List.replicate (Try.f159.ntmps - ([.flt .f64 v191, .int .i64 v192] : List DV).length) .undef) []).bind (retD TT Try.f159.results.toList 0) = (math_IsInf_T v191 v192).bind fun y => .leaf (math_IsInf_enc v191 v192 y) := by kernel_rfl
theorem math_IsInf_fn (v191 : Nat) (v192 : Int) (F : Fr) (h0 : St F [] F.H0) (hA : DVs.Ok F [] [.flt .f64 v191, .int .i64 v192]) {y : Bool} (hy : math_IsInf_g v191 v192 = some y) : ∃ F' H', Fwd 0 F F' [] (math_IsInf_enc v191 v192 y).2 ∧ FnOk Try.prog 159 (DVs.av F [.flt .f64 v191, .int .i64 v192]) F.H0 ((math_IsInf_enc v191 v192 y).1.av F') H' ∧ St F' (math_IsInf_enc v191 v192 y).2 H' ∧ (math_IsInf_enc v191 v192 y).1.Ok F' (math_IsInf_enc v191 v192 y).2 :=
  fn_fin tok math_IsInf_hO mixed Try.func159 Try.call159 (by kernel_rfl) (LoopsOk_eq (l := []) (by kernel_rfl) trivial) (math_IsInf_den v191 v192) hy h0 hA
def math_IsInf_v (v191 : Nat) (v192 : Int) : Bool :=
  if (decide (v192 = (0 : Int))) = true then (
  fgrt .f64 (fabs v191) (9218868437227405311 : Nat)
  ) else (
  if (decide (v192 < (0 : Int))) = true then (
  fgrt .f64 (fneg .f64 v191) (9218868437227405311 : Nat)
  ) else (
  fgrt .f64 v191 (9218868437227405311 : Nat)
  )
  )
theorem math_IsInf_tot (v191 : Nat) (v192 : Int) : math_IsInf_g v191 v192 = some (math_IsInf_v v191 v192) := by
  unfold math_IsInf_g math_IsInf_T math_IsInf_v
  simp only [Tree.run]
  repeat' (first | rfl | split)
noncomputable def math_IsInf_F : DFn := fun args L =>
  match args with
  | [.flt .f64 v191, .int .i64 v192] =>
    .leaf (.bool (math_IsInf_v v191 v192), L)
  | _ => .fail
theorem math_IsInf_Fok : COk Try.prog 159 math_IsInf_F true := by
  intro F L H args r L' hs ha hr
  unfold math_IsInf_F at hr
  split at hr
  · rename_i v191 v192
    have hy := math_IsInf_tot v191 v192
    generalize math_IsInf_v v191 v192 = y at hy hr
    simp only [Tree.run, Option.some.injEq, Prod.mk.injEq] at hr
    obtain ⟨rfl, rfl⟩ := hr
    exact call_ok0 hs (fun k => (([] : List AV)[k]?).getD .top) [.flt .f64 v191, .int .i64 v192] [.flt .f64 v191, .int .i64 v192] (fun F' h0 hi hρ => ⟨by simp [DVs.av, DV.av, BR.av, hρ], math_IsInf_fn v191 v192 F' (st_nil hi) ⟨trivial, trivial, trivial⟩ hy⟩) rfl
  · cases hr
/-! impl.isFinite64 -/
noncomputable def impl_isFinite64_LO (v189 : Nat) : LOr := fun id e L =>
  match id with
  | _ => .fail
noncomputable def impl_isFinite64_tab : List (FuncId × DFn × Bool) := [(158, math_IsNaN_F, true), (159, math_IsInf_F, true)]
theorem impl_isFinite64_hO : OrcOk Try.prog (tabD impl_isFinite64_tab) (tabM impl_isFinite64_tab) := tabD_cons math_IsNaN_Fok (tabD_cons math_IsInf_Fok (tabD_nil _))
noncomputable def impl_isFinite64_T (v189 : Nat) : Tree (Bool) :=
  (.br (!(math_IsNaN_v v189)) (
  .leaf (!(math_IsInf_v v189 (0 : Int)))
  ) (
  .leaf false
  ))

noncomputable def impl_isFinite64_g (v189 : Nat) : Option (Bool) := (impl_isFinite64_T v189).run
def impl_isFinite64_enc (v189 : Nat) (y : Bool) : Rs := (.bool y, [])
theorem impl_isFinite64_den (v189 : Nat) : (den TT (tabD impl_isFinite64_tab) (tabM impl_isFinite64_tab) (impl_isFinite64_LO v189) (codeOf Try.f147) ([.flt .f64 v189] ++ List.replicate (Try.f147.ntmps - ([.flt .f64 v189] : List DV).length) .undef) []).bind (retD TT Try.f147.results.toList 0) = (impl_isFinite64_T v189).bind fun y => .leaf (impl_isFinite64_enc v189 y) := by kernel_rfl
theorem impl_isFinite64_fn (v189 : Nat) (F : Fr) (h0 : St F [] F.H0) (hA : DVs.Ok F [] [.flt .f64 v189]) {y : Bool} (hy : impl_isFinite64_g v189 = some y) : ∃ F' H', Fwd 0 F F' [] (impl_isFinite64_enc v189 y).2 ∧ FnOk Try.prog 147 (DVs.av F [.flt .f64 v189]) F.H0 ((impl_isFinite64_enc v189 y).1.av F') H' ∧ St F' (impl_isFinite64_enc v189 y).2 H' ∧ (impl_isFinite64_enc v189 y).1.Ok F' (impl_isFinite64_enc v189 y).2 :=
  fn_fin tok impl_isFinite64_hO mixed Try.func147 Try.call147 (by kernel_rfl) (LoopsOk_eq (l := []) (by kernel_rfl) trivial) (impl_isFinite64_den v189) hy h0 hA
def impl_isFinite64_v (v189 : Nat) : Bool :=
  if (!(math_IsNaN_v v189)) = true then (
  !(math_IsInf_v v189 (0 : Int))
  ) else (
  false
  )
theorem impl_isFinite64_tot (v189 : Nat) : impl_isFinite64_g v189 = some (impl_isFinite64_v v189) := by
  unfold impl_isFinite64_g impl_isFinite64_T impl_isFinite64_v
  simp only [Tree.run]
  repeat' (first | rfl | split)
noncomputable def impl_isFinite64_F : DFn := fun args L =>
  match args with
  | [.flt .f64 v189] =>
    .leaf (.bool (impl_isFinite64_v v189), L)
  | _ => .fail
theorem impl_isFinite64_Fok : COk Try.prog 147 impl_isFinite64_F true := by
  intro F L H args r L' hs ha hr
  unfold impl_isFinite64_F at hr
  split at hr
  · rename_i v189
    have hy := impl_isFinite64_tot v189
    generalize impl_isFinite64_v v189 = y at hy hr
    simp only [Tree.run, Option.some.injEq, Prod.mk.injEq] at hr
    obtain ⟨rfl, rfl⟩ := hr
    exact call_ok0 hs (fun k => (([] : List AV)[k]?).getD .top) [.flt .f64 v189] [.flt .f64 v189] (fun F' h0 hi hρ => ⟨by simp [DVs.av, DV.av, BR.av, hρ], impl_isFinite64_fn v189 F' (st_nil hi) ⟨trivial, trivial⟩ hy⟩) rfl
  · cases hr
/-! impl.IsFinite -/
noncomputable def impl_IsFinite_LO (v188 : Nat) : LOr := fun id e L =>
  match id with
  | _ => .fail
noncomputable def impl_IsFinite_tab : List (FuncId × DFn × Bool) := [(147, impl_isFinite64_F, true)]
theorem impl_IsFinite_hO : OrcOk Try.prog (tabD impl_IsFinite_tab) (tabM impl_IsFinite_tab) := tabD_cons impl_isFinite64_Fok (tabD_nil _)
noncomputable def impl_IsFinite_T (v188 : Nat) : Tree (Bool) :=
  .leaf (impl_isFinite64_v (wid v188))

noncomputable def impl_IsFinite_g (v188 : Nat) : Option (Bool) := (impl_IsFinite_T v188).run
def impl_IsFinite_enc (v188 : Nat) (y : Bool) : Rs := (.bool y, [])
theorem impl_IsFinite_den (v188 : Nat) : (den TT (tabD impl_IsFinite_tab) (tabM impl_IsFinite_tab) (impl_IsFinite_LO v188) (codeOf Try.f106) ([.flt .f32 v188] ++ List.replicate (Try.f106.ntmps - ([.flt .f32 v188] : List DV).length) .undef) []).bind (retD TT Try.f106.results.toList 0) = (impl_IsFinite_T v188).bind fun y => .leaf (impl_IsFinite_enc v188 y) := by kernel_rfl
theorem impl_IsFinite_fn (v188 : Nat) (F : Fr) (h0 : St F [] F.H0) (hA : DVs.Ok F [] [.flt .f32 v188]) {y : Bool} (hy : impl_IsFinite_g v188 = some y) : ∃ F' H', Fwd 0 F F' [] (impl_IsFinite_enc v188 y).2 ∧ FnOk Try.prog 106 (DVs.av F [.flt .f32 v188]) F.H0 ((impl_IsFinite_enc v188 y).1.av F') H' ∧ St F' (impl_IsFinite_enc v188 y).2 H' ∧ (impl_IsFinite_enc v188 y).1.Ok F' (impl_IsFinite_enc v188 y).2 :=
  fn_fin tok impl_IsFinite_hO mixed Try.func106 Try.call106 (by kernel_rfl) (LoopsOk_eq (l := []) (by kernel_rfl) trivial) (impl_IsFinite_den v188) hy h0 hA
def impl_IsFinite_v (v188 : Nat) : Bool :=
  (impl_isFinite64_v (wid v188))
theorem impl_IsFinite_tot (v188 : Nat) : impl_IsFinite_g v188 = some (impl_IsFinite_v v188) := by
  unfold impl_IsFinite_g impl_IsFinite_T impl_IsFinite_v
  simp only [Tree.run]
  repeat' (first | rfl | split)
noncomputable def impl_IsFinite_F : DFn := fun args L =>
  match args with
  | [.flt .f32 v188] =>
    .leaf (.bool (impl_IsFinite_v v188), L)
  | _ => .fail
theorem impl_IsFinite_Fok : COk Try.prog 106 impl_IsFinite_F true := by
  intro F L H args r L' hs ha hr
  unfold impl_IsFinite_F at hr
  split at hr
  · rename_i v188
    have hy := impl_IsFinite_tot v188
    generalize impl_IsFinite_v v188 = y at hy hr
    simp only [Tree.run, Option.some.injEq, Prod.mk.injEq] at hr
    obtain ⟨rfl, rfl⟩ := hr
    exact call_ok0 hs (fun k => (([] : List AV)[k]?).getD .top) [.flt .f32 v188] [.flt .f32 v188] (fun F' h0 hi hρ => ⟨by simp [DVs.av, DV.av, BR.av, hρ], impl_IsFinite_fn v188 F' (st_nil hi) ⟨trivial, trivial⟩ hy⟩) rfl
  · cases hr
/-! impl.areFinite$1 -/
noncomputable def impl_areFinite_1_LO (v187 : Nat) : LOr := fun id e L =>
  match id with
  | _ => .fail
noncomputable def impl_areFinite_1_tab : List (FuncId × DFn × Bool) := [(106, impl_IsFinite_F, true)]
theorem impl_areFinite_1_hO : OrcOk Try.prog (tabD impl_areFinite_1_tab) (tabM impl_areFinite_1_tab) := tabD_cons impl_IsFinite_Fok (tabD_nil _)
noncomputable def impl_areFinite_1_T (v187 : Nat) : Tree (Bool) :=
  .leaf (!(impl_IsFinite_v v187))

noncomputable def impl_areFinite_1_g (v187 : Nat) : Option (Bool) := (impl_areFinite_1_T v187).run
def impl_areFinite_1_enc (v187 : Nat) (y : Bool) : Rs := (.bool y, [])
theorem impl_areFinite_1_den (v187 : Nat) : (den TT (tabD impl_areFinite_1_tab) (tabM impl_areFinite_1_tab) (impl_areFinite_1_LO v187) (codeOf Try.f163) ([.flt .f32 v187] ++ List.replicate (Try.f163.ntmps - ([.flt .f32 v187] : List DV).length) .undef) []).bind (retD TT Try.f163.results.toList 0) = (impl_areFinite_1_T v187).bind fun y => .leaf (impl_areFinite_1_enc v187 y) := by kernel_rfl
theorem impl_areFinite_1_fn (v187 : Nat) (F : Fr) (h0 : St F [] F.H0) (hA : DVs.Ok F [] [.flt .f32 v187]) {y : Bool} (hy : impl_areFinite_1_g v187 = some y) : ∃ F' H', Fwd 0 F F' [] (impl_areFinite_1_enc v187 y).2 ∧ FnOk Try.prog 163 (DVs.av F [.flt .f32 v187]) F.H0 ((impl_areFinite_1_enc v187 y).1.av F') H' ∧ St F' (impl_areFinite_1_enc v187 y).2 H' ∧ (impl_areFinite_1_enc v187 y).1.Ok F' (impl_areFinite_1_enc v187 y).2 :=
  fn_fin tok impl_areFinite_1_hO mixed Try.func163 Try.call163 (by kernel_rfl) (LoopsOk_eq (l := []) (by kernel_rfl) trivial) (impl_areFinite_1_den v187) hy h0 hA
def impl_areFinite_1_v (v187 : Nat) : Bool :=
  !(impl_IsFinite_v v187)
theorem impl_areFinite_1_tot (v187 : Nat) : impl_areFinite_1_g v187 = some (impl_areFinite_1_v v187) := by
  unfold impl_areFinite_1_g impl_areFinite_1_T impl_areFinite_1_v
  simp only [Tree.run]
  repeat' (first | rfl | split)
noncomputable def impl_areFinite_1_F : DFn := fun args L =>
  match args with
  | [.flt .f32 v187] =>
    .leaf (.bool (impl_areFinite_1_v v187), L)
  | _ => .fail
theorem impl_areFinite_1_Fok : COk Try.prog 163 impl_areFinite_1_F true := by
  intro F L H args r L' hs ha hr
  unfold impl_areFinite_1_F at hr
  split at hr
  · rename_i v187
    have hy := impl_areFinite_1_tot v187
    generalize impl_areFinite_1_v v187 = y at hy hr
    simp only [Tree.run, Option.some.injEq, Prod.mk.injEq] at hr
    obtain ⟨rfl, rfl⟩ := hr
    exact call_ok0 hs (fun k => (([] : List AV)[k]?).getD .top) [.flt .f32 v187] [.flt .f32 v187] (fun F' h0 hi hρ => ⟨by simp [DVs.av, DV.av, BR.av, hρ], impl_areFinite_1_fn v187 F' (st_nil hi) ⟨trivial, trivial⟩ hy⟩) rfl
  · cases hr
/-! slices.IndexFunc[list of float32,float32] -/
noncomputable def slices_IndexFuncF_l0_T (v185 : List Nat) (s : Int) : Tree ((Int) ⊕ ((Int) ⊕ (Unit))) :=
  (.br (decide (s < ((v185.length : Nat) : Int))) (
  (.grd (inb s v185.length) <|
  (.br (impl_areFinite_1_v (nth v185 (Int.toNat s))) (
  .leaf (.inr (.inl s))
  ) (
  .leaf (.inl (IntKind.i64.wrap (s + (1 : Int))))
  )))
  ) (
  .leaf (.inr (.inr ()))
  ))

noncomputable def slices_IndexFuncF_l0_g (v185 : List Nat) (s0 : Int) : Option ((Int) ⊕ (Unit)) := whileM (fun s => (slices_IndexFuncF_l0_T v185 s).run) s0
def slices_IndexFuncF_l0_E (v185 : List Nat) (s : Int) : Sd := ([.bslc (BR.root 0) (.f32 v185),.fn 163 [],tp,tp,tp,tp,tp,.int .i64 ((v185.length : Nat) : Int),.int .i64 s,tp,tp,tp,tp,tp,tp,tp,tp,tp,tp], [])
def slices_IndexFuncF_l0_X (v185 : List Nat) (x : (Int) ⊕ (Unit)) : Out := (match x with | .inl x => (.ret, [tp,tp,tp,tp,.int .i64 x,tp,tp,tp,tp,tp,tp,tp,tp,tp,tp,tp,tp,tp,tp], []) | .inr x => (.normal, [tp,tp,tp,tp,tp,tp,tp,tp,tp,tp,tp,tp,tp,tp,tp,tp,tp,tp,tp], []))
def slices_IndexFuncF_l0_kill : List Nat := KL true [0,2,5,2,10]
def slices_IndexFuncF_l0_nx : Exit → List Nat
  | .exit 0 => KL true [19]
  | .ret => KL true [4,1,14]
  | _ => []
noncomputable def slices_IndexFuncF_LO (v185 : List Nat) : LOr := fun id e L =>
  match id with
  | 0 => .need (normA 0 slices_IndexFuncF_l0_kill e L = some (slices_IndexFuncF_l0_E v185 (gI (vAt e 8)))) (.call (slices_IndexFuncF_l0_g v185 (gI (vAt e 8))) fun x => .sum x (fun b0 => .leaf (slices_IndexFuncF_l0_X v185 (.inl b0))) (fun c0 => .leaf (slices_IndexFuncF_l0_X v185 (.inr c0))))
  | _ => .fail
noncomputable def slices_IndexFuncF_tab : List (FuncId × DFn × Bool) := [(163, impl_areFinite_1_F, true)]
theorem slices_IndexFuncF_hO : OrcOk Try.prog (tabD slices_IndexFuncF_tab) (tabM slices_IndexFuncF_tab) := tabD_cons impl_areFinite_1_Fok (tabD_nil _)
theorem slices_IndexFuncF_l0_be (v185 : List Nat) (s : Int) : bodyT TT (tabD slices_IndexFuncF_tab) (tabM slices_IndexFuncF_tab) (slices_IndexFuncF_LO v185) 0 slices_IndexFuncF_l0_kill slices_IndexFuncF_l0_nx (bodyOf Try.f172 0) 0 (slices_IndexFuncF_l0_E v185 s) = (slices_IndexFuncF_l0_T v185 s).bind fun y => .leaf (outS (slices_IndexFuncF_l0_E v185) (slices_IndexFuncF_l0_X v185) y) := by kernel_rfl
theorem slices_IndexFuncF_l0_ok (v185 : List Nat) : LSound Try.prog 0 (slices_IndexFuncF_LO v185) 0 (bodyOf Try.f172 0) := by
  intro e L out h
  exact lo_ok (E := slices_IndexFuncF_l0_E v185) (gT := slices_IndexFuncF_l0_T v185) (X := slices_IndexFuncF_l0_X v185) (s0 := (gI (vAt e 8))) tok slices_IndexFuncF_hO mixed (LoopsOk_eq (l := []) (by kernel_rfl) trivial) (slices_IndexFuncF_l0_be v185) rfl (by intro x; (cases x with | inl b => rfl | inr x => exact rfl)) h
noncomputable def slices_IndexFuncF_T (v185 : List Nat) : Tree (Int) :=
  (.need (some (slices_IndexFuncF_l0_E v185 (0 : Int)) = some (slices_IndexFuncF_l0_E v185 (0 : Int))) <|
  (.call (slices_IndexFuncF_l0_g v185 (0 : Int)) fun v195 =>
  (.sum v195 (fun v196 =>
  .leaf v196
  ) (fun v197 =>
  .leaf (-1 : Int)
  ))))

noncomputable def slices_IndexFuncF_g (v185 : List Nat) : Option (Int) := (slices_IndexFuncF_T v185).run
def slices_IndexFuncF_enc (v185 : List Nat) (y : Int) : Rs := (.int .i64 y, [])
theorem slices_IndexFuncF_den (v185 : List Nat) : (den TT (tabD slices_IndexFuncF_tab) (tabM slices_IndexFuncF_tab) (slices_IndexFuncF_LO v185) (codeOf Try.f172) ([.bslc (BR.root 0) (.f32 v185), .fn 163 []] ++ List.replicate (Try.f172.ntmps - ([.bslc (BR.root 0) (.f32 v185), .fn 163 []] : List DV).length) .undef) []).bind (retD TT Try.f172.results.toList 0) = (slices_IndexFuncF_T v185).bind fun y => .leaf (slices_IndexFuncF_enc v185 y) := by kernel_rfl
theorem slices_IndexFuncF_fn (v185 : List Nat) (F : Fr) (h0 : St F [] F.H0) (hA : DVs.Ok F [] [.bslc (BR.root 0) (.f32 v185), .fn 163 []]) {y : Int} (hy : slices_IndexFuncF_g v185 = some y) : ∃ F' H', Fwd 0 F F' [] (slices_IndexFuncF_enc v185 y).2 ∧ FnOk Try.prog 172 (DVs.av F [.bslc (BR.root 0) (.f32 v185), .fn 163 []]) F.H0 ((slices_IndexFuncF_enc v185 y).1.av F') H' ∧ St F' (slices_IndexFuncF_enc v185 y).2 H' ∧ (slices_IndexFuncF_enc v185 y).1.Ok F' (slices_IndexFuncF_enc v185 y).2 :=
  fn_fin tok slices_IndexFuncF_hO mixed Try.func172 Try.call172 (by kernel_rfl) (LoopsOk_eq (l := [(0, bodyOf Try.f172 0)]) (by kernel_rfl) ⟨slices_IndexFuncF_l0_ok v185, trivial⟩) (slices_IndexFuncF_den v185) hy h0 hA
noncomputable def slices_IndexFuncF_F : DFn := fun args L =>
  match args with
  | [a1, .fn 163 []] =>
    optT (rowF32 L a1) fun v185 =>
    .call (slices_IndexFuncF_g v185) fun y => .leaf (.int .i64 y, L)
  | _ => .fail
theorem slices_IndexFuncF_Fok : COk Try.prog 172 slices_IndexFuncF_F true := by
  intro F L H args r L' hs ha hr
  unfold slices_IndexFuncF_F at hr
  split at hr
  · rename_i a1
    obtain ⟨v185, hv185, hr⟩ := optT_run hr
    simp only [Tree.run] at hr
    obtain ⟨y, hy, hr⟩ := Option.bind_eq_some_iff.1 hr
    simp only [Tree.run, Option.some.injEq, Prod.mk.injEq] at hr
    obtain ⟨rfl, rfl⟩ := hr
    exact call_ok0 hs (fun k => (([a1.av F] : List AV)[k]?).getD .top) [a1, .fn 163 []] [.bslc (BR.root 0) (.f32 v185), .fn 163 []] (fun F' h0 hi hρ => ⟨by simp [DVs.av, DV.av, BR.av, hρ], slices_IndexFuncF_fn v185 F' (st_nil hi) ⟨bslc_ok hi (by rw [h0, hρ]; exact rowF32_ok hs (DVs.okAt ha 0 rfl) hv185), trivial, trivial⟩ hy⟩) rfl
  · cases hr
/-! slices.ContainsFunc[list of float32,float32] -/
noncomputable def slices_ContainsFuncF_LO (v184 : List Nat) : LOr := fun id e L =>
  match id with
  | _ => .fail
noncomputable def slices_ContainsFuncF_tab : List (FuncId × DFn × Bool) := [(172, slices_IndexFuncF_F, true)]
theorem slices_ContainsFuncF_hO : OrcOk Try.prog (tabD slices_ContainsFuncF_tab) (tabM slices_ContainsFuncF_tab) := tabD_cons slices_IndexFuncF_Fok (tabD_nil _)
noncomputable def slices_ContainsFuncF_T (v184 : List Nat) : Tree (Bool) :=
  (.call (slices_IndexFuncF_g v184) fun v198 =>
  .leaf (decide ((0 : Int) ≤ v198)))

noncomputable def slices_ContainsFuncF_g (v184 : List Nat) : Option (Bool) := (slices_ContainsFuncF_T v184).run
def slices_ContainsFuncF_enc (v184 : List Nat) (y : Bool) : Rs := (.bool y, [])
theorem slices_ContainsFuncF_den (v184 : List Nat) : (den TT (tabD slices_ContainsFuncF_tab) (tabM slices_ContainsFuncF_tab) (slices_ContainsFuncF_LO v184) (codeOf Try.f162) ([.bslc (BR.root 0) (.f32 v184), .fn 163 []] ++ List.replicate (Try.f162.ntmps - ([.bslc (BR.root 0) (.f32 v184), .fn 163 []] : List DV).length) .undef) []).bind (retD TT Try.f162.results.toList 0) = (slices_ContainsFuncF_T v184).bind fun y => .leaf (slices_ContainsFuncF_enc v184 y) := by kernel_rfl
theorem slices_ContainsFuncF_fn (v184 : List Nat) (F : Fr) (h0 : St F [] F.H0) (hA : DVs.Ok F [] [.bslc (BR.root 0) (.f32 v184), .fn 163 []]) {y : Bool} (hy : slices_ContainsFuncF_g v184 = some y) : ∃ F' H', Fwd 0 F F' [] (slices_ContainsFuncF_enc v184 y).2 ∧ FnOk Try.prog 162 (DVs.av F [.bslc (BR.root 0) (.f32 v184), .fn 163 []]) F.H0 ((slices_ContainsFuncF_enc v184 y).1.av F') H' ∧ St F' (slices_ContainsFuncF_enc v184 y).2 H' ∧ (slices_ContainsFuncF_enc v184 y).1.Ok F' (slices_ContainsFuncF_enc v184 y).2 :=
  fn_fin tok slices_ContainsFuncF_hO mixed Try.func162 Try.call162 (by kernel_rfl) (LoopsOk_eq (l := []) (by kernel_rfl) trivial) (slices_ContainsFuncF_den v184) hy h0 hA
noncomputable def slices_ContainsFuncF_F : DFn := fun args L =>
  match args with
  | [a1, .fn 163 []] =>
    optT (rowF32 L a1) fun v184 =>
    .call (slices_ContainsFuncF_g v184) fun y => .leaf (.bool y, L)
  | _ => .fail
theorem slices_ContainsFuncF_Fok : COk Try.prog 162 slices_ContainsFuncF_F true := by
  intro F L H args r L' hs ha hr
  unfold slices_ContainsFuncF_F at hr
  split at hr
  · rename_i a1
    obtain ⟨v184, hv184, hr⟩ := optT_run hr
    simp only [Tree.run] at hr
    obtain ⟨y, hy, hr⟩ := Option.bind_eq_some_iff.1 hr
    simp only [Tree.run, Option.some.injEq, Prod.mk.injEq] at hr
    obtain ⟨rfl, rfl⟩ := hr
    exact call_ok0 hs (fun k => (([a1.av F] : List AV)[k]?).getD .top) [a1, .fn 163 []] [.bslc (BR.root 0) (.f32 v184), .fn 163 []] (fun F' h0 hi hρ => ⟨by simp [DVs.av, DV.av, BR.av, hρ], slices_ContainsFuncF_fn v184 F' (st_nil hi) ⟨bslc_ok hi (by rw [h0, hρ]; exact rowF32_ok hs (DVs.okAt ha 0 rfl) hv184), trivial, trivial⟩ hy⟩) rfl
  · cases hr
/-! impl.areFinite -/
noncomputable def impl_areFinite_LO (v183 : List Nat) : LOr := fun id e L =>
  match id with
  | _ => .fail
noncomputable def impl_areFinite_tab : List (FuncId × DFn × Bool) := [(162, slices_ContainsFuncF_F, true)]
theorem impl_areFinite_hO : OrcOk Try.prog (tabD impl_areFinite_tab) (tabM impl_areFinite_tab) := tabD_cons slices_ContainsFuncF_Fok (tabD_nil _)
noncomputable def impl_areFinite_T (v183 : List Nat) : Tree (Bool) :=
  (.call (slices_ContainsFuncF_g v183) fun v199 =>
  .leaf (!v199))

noncomputable def impl_areFinite_g (v183 : List Nat) : Option (Bool) := (impl_areFinite_T v183).run
def impl_areFinite_enc (v183 : List Nat) (y : Bool) : Rs := (.bool y, [])
theorem impl_areFinite_den (v183 : List Nat) : (den TT (tabD impl_areFinite_tab) (tabM impl_areFinite_tab) (impl_areFinite_LO v183) (codeOf Try.f146) ([.bslc (BR.root 0) (.f32 v183)] ++ List.replicate (Try.f146.ntmps - ([.bslc (BR.root 0) (.f32 v183)] : List DV).length) .undef) []).bind (retD TT Try.f146.results.toList 0) = (impl_areFinite_T v183).bind fun y => .leaf (impl_areFinite_enc v183 y) := by kernel_rfl
theorem impl_areFinite_fn (v183 : List Nat) (F : Fr) (h0 : St F [] F.H0) (hA : DVs.Ok F [] [.bslc (BR.root 0) (.f32 v183)]) {y : Bool} (hy : impl_areFinite_g v183 = some y) : ∃ F' H', Fwd 0 F F' [] (impl_areFinite_enc v183 y).2 ∧ FnOk Try.prog 146 (DVs.av F [.bslc (BR.root 0) (.f32 v183)]) F.H0 ((impl_areFinite_enc v183 y).1.av F') H' ∧ St F' (impl_areFinite_enc v183 y).2 H' ∧ (impl_areFinite_enc v183 y).1.Ok F' (impl_areFinite_enc v183 y).2 :=
  fn_fin tok impl_areFinite_hO mixed Try.func146 Try.call146 (by kernel_rfl) (LoopsOk_eq (l := []) (by kernel_rfl) trivial) (impl_areFinite_den v183) hy h0 hA
noncomputable def impl_areFinite_F : DFn := fun args L =>
  match args with
  | [a1] =>
    optT (rowF32 L a1) fun v183 =>
    .call (impl_areFinite_g v183) fun y => .leaf (.bool y, L)
  | _ => .fail
theorem impl_areFinite_Fok : COk Try.prog 146 impl_areFinite_F true := by
  intro F L H args r L' hs ha hr
  unfold impl_areFinite_F at hr
  split at hr
  · rename_i a1
    obtain ⟨v183, hv183, hr⟩ := optT_run hr
    simp only [Tree.run] at hr
    obtain ⟨y, hy, hr⟩ := Option.bind_eq_some_iff.1 hr
    simp only [Tree.run, Option.some.injEq, Prod.mk.injEq] at hr
    obtain ⟨rfl, rfl⟩ := hr
    exact call_ok0 hs (fun k => (([a1.av F] : List AV)[k]?).getD .top) [a1] [.bslc (BR.root 0) (.f32 v183)] (fun F' h0 hi hρ => ⟨by simp [DVs.av, DV.av, BR.av, hρ], impl_areFinite_fn v183 F' (st_nil hi) ⟨bslc_ok hi (by rw [h0, hρ]; exact rowF32_ok hs (DVs.okAt ha 0 rfl) hv183), trivial⟩ hy⟩) rfl
  · cases hr
/-! impl.isList -/
noncomputable def impl_isList_LO (v180 : List Nat) (v181 : Int) : LOr := fun id e L =>
  match id with
  | _ => .fail
noncomputable def impl_isList_tab : List (FuncId × DFn × Bool) := [(145, impl_lengthF_F, true), (89, impl_inRange_F, true), (146, impl_areFinite_F, true)]
theorem impl_isList_hO : OrcOk Try.prog (tabD impl_isList_tab) (tabM impl_isList_tab) := tabD_cons impl_lengthF_Fok (tabD_cons impl_inRange_Fok (tabD_cons impl_areFinite_Fok (tabD_nil _)))
noncomputable def impl_isList_T (v180 : List Nat) (v181 : Int) : Tree (Bool) :=
  (.br (impl_inRange_v (impl_lengthF_v v180) (1 : Int) v181) (
  (.call (impl_areFinite_g v180) fun v200 =>
  .leaf v200)
  ) (
  .leaf false
  ))

noncomputable def impl_isList_g (v180 : List Nat) (v181 : Int) : Option (Bool) := (impl_isList_T v180 v181).run
def impl_isList_enc (v180 : List Nat) (v181 : Int) (y : Bool) : Rs := (.bool y, [])
theorem impl_isList_den (v180 : List Nat) (v181 : Int) : (den TT (tabD impl_isList_tab) (tabM impl_isList_tab) (impl_isList_LO v180 v181) (codeOf Try.f173) ([.bslc (BR.root 0) (.f32 v180), .int .i64 v181] ++ List.replicate (Try.f173.ntmps - ([.bslc (BR.root 0) (.f32 v180), .int .i64 v181] : List DV).length) .undef) []).bind (retD TT Try.f173.results.toList 0) = (impl_isList_T v180 v181).bind fun y => .leaf (impl_isList_enc v180 v181 y) := by kernel_rfl
theorem impl_isList_fn (v180 : List Nat) (v181 : Int) (F : Fr) (h0 : St F [] F.H0) (hA : DVs.Ok F [] [.bslc (BR.root 0) (.f32 v180), .int .i64 v181]) {y : Bool} (hy : impl_isList_g v180 v181 = some y) : ∃ F' H', Fwd 0 F F' [] (impl_isList_enc v180 v181 y).2 ∧ FnOk Try.prog 173 (DVs.av F [.bslc (BR.root 0) (.f32 v180), .int .i64 v181]) F.H0 ((impl_isList_enc v180 v181 y).1.av F') H' ∧ St F' (impl_isList_enc v180 v181 y).2 H' ∧ (impl_isList_enc v180 v181 y).1.Ok F' (impl_isList_enc v180 v181 y).2 :=
  fn_fin tok impl_isList_hO mixed Try.func173 Try.call173 (by kernel_rfl) (LoopsOk_eq (l := []) (by kernel_rfl) trivial) (impl_isList_den v180 v181) hy h0 hA
noncomputable def impl_isList_F : DFn := fun args L =>
  match args with
  | [a1, .int .i64 v181] =>
    optT (rowF32 L a1) fun v180 =>
    .call (impl_isList_g v180 v181) fun y => .leaf (.bool y, L)
  | _ => .fail
theorem impl_isList_Fok : COk Try.prog 173 impl_isList_F true := by
  intro F L H args r L' hs ha hr
  unfold impl_isList_F at hr
  split at hr
  · rename_i a1 v181
    obtain ⟨v180, hv180, hr⟩ := optT_run hr
    simp only [Tree.run] at hr
    obtain ⟨y, hy, hr⟩ := Option.bind_eq_some_iff.1 hr
    simp only [Tree.run, Option.some.injEq, Prod.mk.injEq] at hr
    obtain ⟨rfl, rfl⟩ := hr
    exact call_ok0 hs (fun k => (([a1.av F] : List AV)[k]?).getD .top) [a1, .int .i64 v181] [.bslc (BR.root 0) (.f32 v180), .int .i64 v181] (fun F' h0 hi hρ => ⟨by simp [DVs.av, DV.av, BR.av, hρ], impl_isList_fn v180 v181 F' (st_nil hi) ⟨bslc_ok hi (by rw [h0, hρ]; exact rowF32_ok hs (DVs.okAt ha 0 rfl) hv180), trivial, trivial⟩ hy⟩) rfl
  · cases hr
/-! impl.ValidThirds -/
noncomputable def impl_ValidThirds_LO (v177 : List Nat) (v178 : List Nat) (v179 : List Nat) : LOr := fun id e L =>
  match id with
  | _ => .fail
noncomputable def impl_ValidThirds_tab : List (FuncId × DFn × Bool) := [(173, impl_isList_F, true), (146, impl_areFinite_F, true)]
theorem impl_ValidThirds_hO : OrcOk Try.prog (tabD impl_ValidThirds_tab) (tabM impl_ValidThirds_tab) := tabD_cons impl_isList_Fok (tabD_cons impl_areFinite_Fok (tabD_nil _))
noncomputable def impl_ValidThirds_T (v177 : List Nat) (v178 : List Nat) (v179 : List Nat) : Tree (Bool) :=
  (.call (impl_isList_g v178 (32 : Int)) fun v201 =>
  (.br v201 (
  (.br (decide (((v177.length : Nat) : Int) = ((v178.length : Nat) : Int))) (
  (.br (decide (((v179.length : Nat) : Int) = ((v178.length : Nat) : Int))) (
  (.call (impl_areFinite_g v177) fun v202 =>
  (.br v202 (
  (.call (impl_areFinite_g v179) fun v203 =>
  (.br v203 (
  (.grd (inb (0 : Int) v177.length) <|
  (.br (feq .f32 (nth v177 (Int.toNat (0 : Int))) (0 : Nat)) (
  (.grd (inb (IntKind.i64.wrap (((v178.length : Nat) : Int) - (1 : Int))) v179.length) <|
  .leaf (feq .f32 (nth v179 (Int.toNat (IntKind.i64.wrap (((v178.length : Nat) : Int) - (1 : Int))))) (0 : Nat)))
  ) (
  .leaf false
  )))
  ) (
  .leaf false
  )))
  ) (
  .leaf false
  )))
  ) (
  .leaf false
  ))
  ) (
  .leaf false
  ))
  ) (
  .leaf false
  )))

noncomputable def impl_ValidThirds_g (v177 : List Nat) (v178 : List Nat) (v179 : List Nat) : Option (Bool) := (impl_ValidThirds_T v177 v178 v179).run
def impl_ValidThirds_enc (v177 : List Nat) (v178 : List Nat) (v179 : List Nat) (y : Bool) : Rs := (.bool y, [])
theorem impl_ValidThirds_den (v177 : List Nat) (v178 : List Nat) (v179 : List Nat) : (den TT (tabD impl_ValidThirds_tab) (tabM impl_ValidThirds_tab) (impl_ValidThirds_LO v177 v178 v179) (codeOf Try.f166) ([.agg [.bslc (BR.root 0) (.f32 v177), .bslc (BR.root 1) (.f32 v178), .bslc (BR.root 2) (.f32 v179)]] ++ List.replicate (Try.f166.ntmps - ([.agg [.bslc (BR.root 0) (.f32 v177), .bslc (BR.root 1) (.f32 v178), .bslc (BR.root 2) (.f32 v179)]] : List DV).length) .undef) []).bind (retD TT Try.f166.results.toList 0) = (impl_ValidThirds_T v177 v178 v179).bind fun y => .leaf (impl_ValidThirds_enc v177 v178 v179 y) := by kernel_rfl
theorem impl_ValidThirds_fn (v177 : List Nat) (v178 : List Nat) (v179 : List Nat) (F : Fr) (h0 : St F [] F.H0) (hA : DVs.Ok F [] [.agg [.bslc (BR.root 0) (.f32 v177), .bslc (BR.root 1) (.f32 v178), .bslc (BR.root 2) (.f32 v179)]]) {y : Bool} (hy : impl_ValidThirds_g v177 v178 v179 = some y) : ∃ F' H', Fwd 0 F F' [] (impl_ValidThirds_enc v177 v178 v179 y).2 ∧ FnOk Try.prog 166 (DVs.av F [.agg [.bslc (BR.root 0) (.f32 v177), .bslc (BR.root 1) (.f32 v178), .bslc (BR.root 2) (.f32 v179)]]) F.H0 ((impl_ValidThirds_enc v177 v178 v179 y).1.av F') H' ∧ St F' (impl_ValidThirds_enc v177 v178 v179 y).2 H' ∧ (impl_ValidThirds_enc v177 v178 v179 y).1.Ok F' (impl_ValidThirds_enc v177 v178 v179 y).2 :=
  fn_fin tok impl_ValidThirds_hO mixed Try.func166 Try.call166 (by kernel_rfl) (LoopsOk_eq (l := []) (by kernel_rfl) trivial) (impl_ValidThirds_den v177 v178 v179) hy h0 hA
noncomputable def impl_ValidThirds_F : DFn := fun args L =>
  match args with
  | [.agg [a1, a2, a3]] =>
    optT (rowF32 L a1) fun v177 =>
    optT (rowF32 L a2) fun v178 =>
    optT (rowF32 L a3) fun v179 =>
    .call (impl_ValidThirds_g v177 v178 v179) fun y => .leaf (.bool y, L)
  | _ => .fail
theorem impl_ValidThirds_Fok : COk Try.prog 166 impl_ValidThirds_F true := by
  intro F L H args r L' hs ha hr
  unfold impl_ValidThirds_F at hr
  split at hr
  · rename_i a1 a2 a3
    obtain ⟨v177, hv177, hr⟩ := optT_run hr
    obtain ⟨v178, hv178, hr⟩ := optT_run hr
    obtain ⟨v179, hv179, hr⟩ := optT_run hr
    simp only [Tree.run] at hr
    obtain ⟨y, hy, hr⟩ := Option.bind_eq_some_iff.1 hr
    simp only [Tree.run, Option.some.injEq, Prod.mk.injEq] at hr
    obtain ⟨rfl, rfl⟩ := hr
    exact call_ok0 hs (fun k => (([a1.av F, a2.av F, a3.av F] : List AV)[k]?).getD .top) [.agg [a1, a2, a3]] [.agg [.bslc (BR.root 0) (.f32 v177), .bslc (BR.root 1) (.f32 v178), .bslc (BR.root 2) (.f32 v179)]] (fun F' h0 hi hρ => ⟨by simp [DVs.av, DV.av, BR.av, hρ], impl_ValidThirds_fn v177 v178 v179 F' (st_nil hi) ⟨⟨bslc_ok hi (by rw [h0, hρ]; exact rowF32_ok hs (DVs.okAt (DVs.okAt ha 0 rfl) 0 rfl) hv177), bslc_ok hi (by rw [h0, hρ]; exact rowF32_ok hs (DVs.okAt (DVs.okAt ha 0 rfl) 1 rfl) hv178), bslc_ok hi (by rw [h0, hρ]; exact rowF32_ok hs (DVs.okAt (DVs.okAt ha 0 rfl) 2 rfl) hv179), trivial⟩, trivial⟩ hy⟩) rfl
  · cases hr
/-! (impl.Thirds).takes -/
noncomputable def impl_Thirds_takes_LO (v173 : List Nat) (v174 : List Nat) (v175 : List Nat) (v176 : List Nat) : LOr := fun id e L =>
  match id with
  | _ => .fail
noncomputable def impl_Thirds_takes_tab : List (FuncId × DFn × Bool) := [(166, impl_ValidThirds_F, true), (146, impl_areFinite_F, true)]
theorem impl_Thirds_takes_hO : OrcOk Try.prog (tabD impl_Thirds_takes_tab) (tabM impl_Thirds_takes_tab) := tabD_cons impl_ValidThirds_Fok (tabD_cons impl_areFinite_Fok (tabD_nil _))
noncomputable def impl_Thirds_takes_T (v173 : List Nat) (v174 : List Nat) (v175 : List Nat) (v176 : List Nat) : Tree (Bool) :=
  (.call (impl_ValidThirds_g v173 v174 v175) fun v204 =>
  (.br v204 (
  (.br (decide (((v176.length : Nat) : Int) = ((v174.length : Nat) : Int))) (
  (.call (impl_areFinite_g v176) fun v205 =>
  .leaf v205)
  ) (
  .leaf false
  ))
  ) (
  .leaf false
  )))

noncomputable def impl_Thirds_takes_g (v173 : List Nat) (v174 : List Nat) (v175 : List Nat) (v176 : List Nat) : Option (Bool) := (impl_Thirds_takes_T v173 v174 v175 v176).run
def impl_Thirds_takes_enc (v173 : List Nat) (v174 : List Nat) (v175 : List Nat) (v176 : List Nat) (y : Bool) : Rs := (.bool y, [])
theorem impl_Thirds_takes_den (v173 : List Nat) (v174 : List Nat) (v175 : List Nat) (v176 : List Nat) : (den TT (tabD impl_Thirds_takes_tab) (tabM impl_Thirds_takes_tab) (impl_Thirds_takes_LO v173 v174 v175 v176) (codeOf Try.f152) ([.agg [.bslc (BR.root 0) (.f32 v173), .bslc (BR.root 1) (.f32 v174), .bslc (BR.root 2) (.f32 v175)], .bslc (BR.root 3) (.f32 v176)] ++ List.replicate (Try.f152.ntmps - ([.agg [.bslc (BR.root 0) (.f32 v173), .bslc (BR.root 1) (.f32 v174), .bslc (BR.root 2) (.f32 v175)], .bslc (BR.root 3) (.f32 v176)] : List DV).length) .undef) []).bind (retD TT Try.f152.results.toList 0) = (impl_Thirds_takes_T v173 v174 v175 v176).bind fun y => .leaf (impl_Thirds_takes_enc v173 v174 v175 v176 y) := by kernel_rfl
theorem impl_Thirds_takes_fn (v173 : List Nat) (v174 : List Nat) (v175 : List Nat) (v176 : List Nat) (F : Fr) (h0 : St F [] F.H0) (hA : DVs.Ok F [] [.agg [.bslc (BR.root 0) (.f32 v173), .bslc (BR.root 1) (.f32 v174), .bslc (BR.root 2) (.f32 v175)], .bslc (BR.root 3) (.f32 v176)]) {y : Bool} (hy : impl_Thirds_takes_g v173 v174 v175 v176 = some y) : ∃ F' H', Fwd 0 F F' [] (impl_Thirds_takes_enc v173 v174 v175 v176 y).2 ∧ FnOk Try.prog 152 (DVs.av F [.agg [.bslc (BR.root 0) (.f32 v173), .bslc (BR.root 1) (.f32 v174), .bslc (BR.root 2) (.f32 v175)], .bslc (BR.root 3) (.f32 v176)]) F.H0 ((impl_Thirds_takes_enc v173 v174 v175 v176 y).1.av F') H' ∧ St F' (impl_Thirds_takes_enc v173 v174 v175 v176 y).2 H' ∧ (impl_Thirds_takes_enc v173 v174 v175 v176 y).1.Ok F' (impl_Thirds_takes_enc v173 v174 v175 v176 y).2 :=
  fn_fin tok impl_Thirds_takes_hO mixed Try.func152 Try.call152 (by kernel_rfl) (LoopsOk_eq (l := []) (by kernel_rfl) trivial) (impl_Thirds_takes_den v173 v174 v175 v176) hy h0 hA
noncomputable def impl_Thirds_takes_F : DFn := fun args L =>
  match args with
  | [.agg [a1, a2, a3], a4] =>
    optT (rowF32 L a1) fun v173 =>
    optT (rowF32 L a2) fun v174 =>
    optT (rowF32 L a3) fun v175 =>
    optT (rowF32 L a4) fun v176 =>
    .call (impl_Thirds_takes_g v173 v174 v175 v176) fun y => .leaf (.bool y, L)
  | _ => .fail
theorem impl_Thirds_takes_Fok : COk Try.prog 152 impl_Thirds_takes_F true := by
  intro F L H args r L' hs ha hr
  unfold impl_Thirds_takes_F at hr
  split at hr
  · rename_i a1 a2 a3 a4
    obtain ⟨v173, hv173, hr⟩ := optT_run hr
    obtain ⟨v174, hv174, hr⟩ := optT_run hr
    obtain ⟨v175, hv175, hr⟩ := optT_run hr
    obtain ⟨v176, hv176, hr⟩ := optT_run hr
    simp only [Tree.run] at hr
    obtain ⟨y, hy, hr⟩ := Option.bind_eq_some_iff.1 hr
    simp only [Tree.run, Option.some.injEq, Prod.mk.injEq] at hr
    obtain ⟨rfl, rfl⟩ := hr
    exact call_ok0 hs (fun k => (([a1.av F, a2.av F, a3.av F, a4.av F] : List AV)[k]?).getD .top) [.agg [a1, a2, a3], a4] [.agg [.bslc (BR.root 0) (.f32 v173), .bslc (BR.root 1) (.f32 v174), .bslc (BR.root 2) (.f32 v175)], .bslc (BR.root 3) (.f32 v176)] (fun F' h0 hi hρ => ⟨by simp [DVs.av, DV.av, BR.av, hρ], impl_Thirds_takes_fn v173 v174 v175 v176 F' (st_nil hi) ⟨⟨bslc_ok hi (by rw [h0, hρ]; exact rowF32_ok hs (DVs.okAt (DVs.okAt ha 0 rfl) 0 rfl) hv173), bslc_ok hi (by rw [h0, hρ]; exact rowF32_ok hs (DVs.okAt (DVs.okAt ha 0 rfl) 1 rfl) hv174), bslc_ok hi (by rw [h0, hρ]; exact rowF32_ok hs (DVs.okAt (DVs.okAt ha 0 rfl) 2 rfl) hv175), trivial⟩, bslc_ok hi (by rw [h0, hρ]; exact rowF32_ok hs (DVs.okAt ha 1 rfl) hv176), trivial⟩ hy⟩) rfl
  · cases hr
/-! slices.Clone[list of float32,float32] -/
noncomputable def slices_CloneF_LO (v207 : List Nat) : LOr := fun id e L =>
  match id with
  | _ => .fail
noncomputable def slices_CloneF_tab : List (FuncId × DFn × Bool) := []
theorem slices_CloneF_hO : OrcOk Try.prog (tabD slices_CloneF_tab) (tabM slices_CloneF_tab) := tabD_nil _
noncomputable def slices_CloneF_T (v207 : List Nat) : Tree (Unit) :=
  (.grd (decide (0 < v207.length)) <|
  (.grd (fits (([] : List Nat) ++ v207).length) <|
  .leaf ()))

noncomputable def slices_CloneF_g (v207 : List Nat) : Option (Unit) := (slices_CloneF_T v207).run
def slices_CloneF_enc (v207 : List Nat) (y : Unit) : Rs := (.own 0 0 ((([] : List Nat) ++ v207).length), [.row (.f32 (([] : List Nat) ++ v207)) 0])
theorem slices_CloneF_den (v207 : List Nat) : (den TT (tabD slices_CloneF_tab) (tabM slices_CloneF_tab) (slices_CloneF_LO v207) (codeOf Try.f153) ([.bslc (BR.root 0) (.f32 v207)] ++ List.replicate (Try.f153.ntmps - ([.bslc (BR.root 0) (.f32 v207)] : List DV).length) .undef) []).bind (retD TT Try.f153.results.toList 0) = (slices_CloneF_T v207).bind fun y => .leaf (slices_CloneF_enc v207 y) := by kernel_rfl
theorem slices_CloneF_fn (v207 : List Nat) (F : Fr) (h0 : St F [] F.H0) (hA : DVs.Ok F [] [.bslc (BR.root 0) (.f32 v207)]) {y : Unit} (hy : slices_CloneF_g v207 = some y) : ∃ F' H', Fwd 0 F F' [] (slices_CloneF_enc v207 y).2 ∧ FnOk Try.prog 153 (DVs.av F [.bslc (BR.root 0) (.f32 v207)]) F.H0 ((slices_CloneF_enc v207 y).1.av F') H' ∧ St F' (slices_CloneF_enc v207 y).2 H' ∧ (slices_CloneF_enc v207 y).1.Ok F' (slices_CloneF_enc v207 y).2 :=
  fn_fin tok slices_CloneF_hO mixed Try.func153 Try.call153 (by kernel_rfl) (LoopsOk_eq (l := []) (by kernel_rfl) trivial) (slices_CloneF_den v207) hy h0 hA
noncomputable def slices_CloneF_F : DFn := fun args L =>
  match args with
  | [a1] =>
    optT (rowF32 L a1) fun v207 =>
    .call (slices_CloneF_g v207) fun y => .leaf (.own (L.length + 0) 0 ((([] : List Nat) ++ v207).length), L ++ [.row (.f32 (([] : List Nat) ++ v207)) 0])
  | _ => .fail
theorem slices_CloneF_Fok : COk Try.prog 153 slices_CloneF_F true := by
  intro F L H args r L' hs ha hr
  unfold slices_CloneF_F at hr
  split at hr
  · rename_i a1
    obtain ⟨v207, hv207, hr⟩ := optT_run hr
    simp only [Tree.run] at hr
    obtain ⟨y, hy, hr⟩ := Option.bind_eq_some_iff.1 hr
    simp only [Tree.run, Option.some.injEq, Prod.mk.injEq] at hr
    obtain ⟨rfl, rfl⟩ := hr
    exact call_ok1 hs (fun k => (([a1.av F] : List AV)[k]?).getD .top) [a1] [.bslc (BR.root 0) (.f32 v207)] (fun F' h0 hi hρ => ⟨by simp [DVs.av, DV.av, BR.av, hρ], slices_CloneF_fn v207 F' (st_nil hi) ⟨bslc_ok hi (by rw [h0, hρ]; exact rowF32_ok hs (DVs.okAt ha 0 rfl) hv207), trivial⟩ hy⟩) rfl rfl
  · cases hr
/-! impl.mul -/
noncomputable def impl_mul_LO (v211 : Nat) (v212 : Nat) : LOr := fun id e L =>
  match id with
  | _ => .fail
noncomputable def impl_mul_tab : List (FuncId × DFn × Bool) := []
theorem impl_mul_hO : OrcOk Try.prog (tabD impl_mul_tab) (tabM impl_mul_tab) := tabD_nil _
noncomputable def impl_mul_T (v211 : Nat) (v212 : Nat) : Tree (Nat) :=
  .leaf (fmul .f32 v211 v212)

noncomputable def impl_mul_g (v211 : Nat) (v212 : Nat) : Option (Nat) := (impl_mul_T v211 v212).run
def impl_mul_enc (v211 : Nat) (v212 : Nat) (y : Nat) : Rs := (.flt .f32 y, [])
theorem impl_mul_den (v211 : Nat) (v212 : Nat) : (den TT (tabD impl_mul_tab) (tabM impl_mul_tab) (impl_mul_LO v211 v212) (codeOf Try.f149) ([.flt .f32 v211, .flt .f32 v212] ++ List.replicate (Try.f149.ntmps - ([.flt .f32 v211, .flt .f32 v212] : List DV).length) .undef) []).bind (retD TT Try.f149.results.toList 0) = (impl_mul_T v211 v212).bind fun y => .leaf (impl_mul_enc v211 v212 y) := by kernel_rfl
theorem impl_mul_fn (v211 : Nat) (v212 : Nat) (F : Fr) (h0 : St F [] F.H0) (hA : DVs.Ok F [] [.flt .f32 v211, .flt .f32 v212]) {y : Nat} (hy : impl_mul_g v211 v212 = some y) : ∃ F' H', Fwd 0 F F' [] (impl_mul_enc v211 v212 y).2 ∧ FnOk Try.prog 149 (DVs.av F [.flt .f32 v211, .flt .f32 v212]) F.H0 ((impl_mul_enc v211 v212 y).1.av F') H' ∧ St F' (impl_mul_enc v211 v212 y).2 H' ∧ (impl_mul_enc v211 v212 y).1.Ok F' (impl_mul_enc v211 v212 y).2 :=
  fn_fin tok impl_mul_hO mixed Try.func149 Try.call149 (by kernel_rfl) (LoopsOk_eq (l := []) (by kernel_rfl) trivial) (impl_mul_den v211 v212) hy h0 hA
def impl_mul_v (v211 : Nat) (v212 : Nat) : Nat :=
  fmul .f32 v211 v212
theorem impl_mul_tot (v211 : Nat) (v212 : Nat) : impl_mul_g v211 v212 = some (impl_mul_v v211 v212) := by
  unfold impl_mul_g impl_mul_T impl_mul_v
  simp only [Tree.run]
  repeat' (first | rfl | split)
noncomputable def impl_mul_F : DFn := fun args L =>
  match args with
  | [.flt .f32 v211, .flt .f32 v212] =>
    .leaf (.flt .f32 (impl_mul_v v211 v212), L)
  | _ => .fail
theorem impl_mul_Fok : COk Try.prog 149 impl_mul_F true := by
  intro F L H args r L' hs ha hr
  unfold impl_mul_F at hr
  split at hr
  · rename_i v211 v212
    have hy := impl_mul_tot v211 v212
    generalize impl_mul_v v211 v212 = y at hy hr
    simp only [Tree.run, Option.some.injEq, Prod.mk.injEq] at hr
    obtain ⟨rfl, rfl⟩ := hr
    exact call_ok0 hs (fun k => (([] : List AV)[k]?).getD .top) [.flt .f32 v211, .flt .f32 v212] [.flt .f32 v211, .flt .f32 v212] (fun F' h0 hi hρ => ⟨by simp [DVs.av, DV.av, BR.av, hρ], impl_mul_fn v211 v212 F' (st_nil hi) ⟨trivial, trivial, trivial⟩ hy⟩) rfl
  · cases hr
/-! slices.Index[list of float32,float32] -/
noncomputable def slices_IndexF_l0_T (v222 : List Nat) (v223 : Nat) (s : Int) : Tree ((Int) ⊕ ((Int) ⊕ (Unit))) :=
  (.br (decide (s < ((v222.length : Nat) : Int))) (
  (.grd (inb s v222.length) <|
  (.br (feq .f32 v223 (nth v222 (Int.toNat s))) (
  .leaf (.inr (.inl s))
  ) (
  .leaf (.inl (IntKind.i64.wrap (s + (1 : Int))))
  )))
  ) (
  .leaf (.inr (.inr ()))
  ))

noncomputable def slices_IndexF_l0_g (v222 : List Nat) (v223 : Nat) (s0 : Int) : Option ((Int) ⊕ (Unit)) := whileM (fun s => (slices_IndexF_l0_T v222 v223 s).run) s0
def slices_IndexF_l0_E (v222 : List Nat) (v223 : Nat) (s : Int) : Sd := ([.bslc (BR.root 0) (.f32 v222),.flt .f32 v223,tp,tp,tp,tp,tp,.int .i64 ((v222.length : Nat) : Int),.int .i64 s,tp,tp,tp,tp,tp,tp,tp,tp,tp,tp], [])
def slices_IndexF_l0_X (v222 : List Nat) (v223 : Nat) (x : (Int) ⊕ (Unit)) : Out := (match x with | .inl x => (.ret, [tp,tp,tp,tp,.int .i64 x,tp,tp,tp,tp,tp,tp,tp,tp,tp,tp,tp,tp,tp,tp], []) | .inr x => (.normal, [tp,tp,tp,tp,tp,tp,tp,tp,tp,tp,tp,tp,tp,tp,tp,tp,tp,tp,tp], []))
def slices_IndexF_l0_kill : List Nat := KL true [0,2,5,2,10]
def slices_IndexF_l0_nx : Exit → List Nat
  | .exit 0 => KL true [19]
  | .ret => KL true [4,1,14]
  | _ => []
noncomputable def slices_IndexF_LO (v222 : List Nat) (v223 : Nat) : LOr := fun id e L =>
  match id with
  | 0 => .need (normA 0 slices_IndexF_l0_kill e L = some (slices_IndexF_l0_E v222 v223 (gI (vAt e 8)))) (.call (slices_IndexF_l0_g v222 v223 (gI (vAt e 8))) fun x => .sum x (fun b0 => .leaf (slices_IndexF_l0_X v222 v223 (.inl b0))) (fun c0 => .leaf (slices_IndexF_l0_X v222 v223 (.inr c0))))
  | _ => .fail
noncomputable def slices_IndexF_tab : List (FuncId × DFn × Bool) := []
theorem slices_IndexF_hO : OrcOk Try.prog (tabD slices_IndexF_tab) (tabM slices_IndexF_tab) := tabD_nil _
theorem slices_IndexF_l0_be (v222 : List Nat) (v223 : Nat) (s : Int) : bodyT TT (tabD slices_IndexF_tab) (tabM slices_IndexF_tab) (slices_IndexF_LO v222 v223) 0 slices_IndexF_l0_kill slices_IndexF_l0_nx (bodyOf Try.f167 0) 0 (slices_IndexF_l0_E v222 v223 s) = (slices_IndexF_l0_T v222 v223 s).bind fun y => .leaf (outS (slices_IndexF_l0_E v222 v223) (slices_IndexF_l0_X v222 v223) y) := by kernel_rfl
theorem slices_IndexF_l0_ok (v222 : List Nat) (v223 : Nat) : LSound Try.prog 0 (slices_IndexF_LO v222 v223) 0 (bodyOf Try.f167 0) := by
  intro e L out h
  exact lo_ok (E := slices_IndexF_l0_E v222 v223) (gT := slices_IndexF_l0_T v222 v223) (X := slices_IndexF_l0_X v222 v223) (s0 := (gI (vAt e 8))) tok slices_IndexF_hO mixed (LoopsOk_eq (l := []) (by kernel_rfl) trivial) (slices_IndexF_l0_be v222 v223) rfl (by intro x; (cases x with | inl b => rfl | inr x => exact rfl)) h
noncomputable def slices_IndexF_T (v222 : List Nat) (v223 : Nat) : Tree (Int) :=
  (.need (some (slices_IndexF_l0_E v222 v223 (0 : Int)) = some (slices_IndexF_l0_E v222 v223 (0 : Int))) <|
  (.call (slices_IndexF_l0_g v222 v223 (0 : Int)) fun v227 =>
  (.sum v227 (fun v228 =>
  .leaf v228
  ) (fun v229 =>
  .leaf (-1 : Int)
  ))))

noncomputable def slices_IndexF_g (v222 : List Nat) (v223 : Nat) : Option (Int) := (slices_IndexF_T v222 v223).run
def slices_IndexF_enc (v222 : List Nat) (v223 : Nat) (y : Int) : Rs := (.int .i64 y, [])
theorem slices_IndexF_den (v222 : List Nat) (v223 : Nat) : (den TT (tabD slices_IndexF_tab) (tabM slices_IndexF_tab) (slices_IndexF_LO v222 v223) (codeOf Try.f167) ([.bslc (BR.root 0) (.f32 v222), .flt .f32 v223] ++ List.replicate (Try.f167.ntmps - ([.bslc (BR.root 0) (.f32 v222), .flt .f32 v223] : List DV).length) .undef) []).bind (retD TT Try.f167.results.toList 0) = (slices_IndexF_T v222 v223).bind fun y => .leaf (slices_IndexF_enc v222 v223 y) := by kernel_rfl
theorem slices_IndexF_fn (v222 : List Nat) (v223 : Nat) (F : Fr) (h0 : St F [] F.H0) (hA : DVs.Ok F [] [.bslc (BR.root 0) (.f32 v222), .flt .f32 v223]) {y : Int} (hy : slices_IndexF_g v222 v223 = some y) : ∃ F' H', Fwd 0 F F' [] (slices_IndexF_enc v222 v223 y).2 ∧ FnOk Try.prog 167 (DVs.av F [.bslc (BR.root 0) (.f32 v222), .flt .f32 v223]) F.H0 ((slices_IndexF_enc v222 v223 y).1.av F') H' ∧ St F' (slices_IndexF_enc v222 v223 y).2 H' ∧ (slices_IndexF_enc v222 v223 y).1.Ok F' (slices_IndexF_enc v222 v223 y).2 :=
  fn_fin tok slices_IndexF_hO mixed Try.func167 Try.call167 (by kernel_rfl) (LoopsOk_eq (l := [(0, bodyOf Try.f167 0)]) (by kernel_rfl) ⟨slices_IndexF_l0_ok v222 v223, trivial⟩) (slices_IndexF_den v222 v223) hy h0 hA
noncomputable def slices_IndexF_F : DFn := fun args L =>
  match args with
  | [a1, .flt .f32 v223] =>
    optT (rowF32 L a1) fun v222 =>
    .call (slices_IndexF_g v222 v223) fun y => .leaf (.int .i64 y, L)
  | _ => .fail
theorem slices_IndexF_Fok : COk Try.prog 167 slices_IndexF_F true := by
  intro F L H args r L' hs ha hr
  unfold slices_IndexF_F at hr
  split at hr
  · rename_i a1 v223
    obtain ⟨v222, hv222, hr⟩ := optT_run hr
    simp only [Tree.run] at hr
    obtain ⟨y, hy, hr⟩ := Option.bind_eq_some_iff.1 hr
    simp only [Tree.run, Option.some.injEq, Prod.mk.injEq] at hr
    obtain ⟨rfl, rfl⟩ := hr
    exact call_ok0 hs (fun k => (([a1.av F] : List AV)[k]?).getD .top) [a1, .flt .f32 v223] [.bslc (BR.root 0) (.f32 v222), .flt .f32 v223] (fun F' h0 hi hρ => ⟨by simp [DVs.av, DV.av, BR.av, hρ], slices_IndexF_fn v222 v223 F' (st_nil hi) ⟨bslc_ok hi (by rw [h0, hρ]; exact rowF32_ok hs (DVs.okAt ha 0 rfl) hv222), trivial, trivial⟩ hy⟩) rfl
  · cases hr
/-! slices.Contains[list of float32,float32] -/
noncomputable def slices_ContainsF_LO (v220 : List Nat) (v221 : Nat) : LOr := fun id e L =>
  match id with
  | _ => .fail
noncomputable def slices_ContainsF_tab : List (FuncId × DFn × Bool) := [(167, slices_IndexF_F, true)]
theorem slices_ContainsF_hO : OrcOk Try.prog (tabD slices_ContainsF_tab) (tabM slices_ContainsF_tab) := tabD_cons slices_IndexF_Fok (tabD_nil _)
noncomputable def slices_ContainsF_T (v220 : List Nat) (v221 : Nat) : Tree (Bool) :=
  (.call (slices_IndexF_g v220 v221) fun v230 =>
  .leaf (decide ((0 : Int) ≤ v230)))

noncomputable def slices_ContainsF_g (v220 : List Nat) (v221 : Nat) : Option (Bool) := (slices_ContainsF_T v220 v221).run
def slices_ContainsF_enc (v220 : List Nat) (v221 : Nat) (y : Bool) : Rs := (.bool y, [])
theorem slices_ContainsF_den (v220 : List Nat) (v221 : Nat) : (den TT (tabD slices_ContainsF_tab) (tabM slices_ContainsF_tab) (slices_ContainsF_LO v220 v221) (codeOf Try.f154) ([.bslc (BR.root 0) (.f32 v220), .flt .f32 v221] ++ List.replicate (Try.f154.ntmps - ([.bslc (BR.root 0) (.f32 v220), .flt .f32 v221] : List DV).length) .undef) []).bind (retD TT Try.f154.results.toList 0) = (slices_ContainsF_T v220 v221).bind fun y => .leaf (slices_ContainsF_enc v220 v221 y) := by kernel_rfl
theorem slices_ContainsF_fn (v220 : List Nat) (v221 : Nat) (F : Fr) (h0 : St F [] F.H0) (hA : DVs.Ok F [] [.bslc (BR.root 0) (.f32 v220), .flt .f32 v221]) {y : Bool} (hy : slices_ContainsF_g v220 v221 = some y) : ∃ F' H', Fwd 0 F F' [] (slices_ContainsF_enc v220 v221 y).2 ∧ FnOk Try.prog 154 (DVs.av F [.bslc (BR.root 0) (.f32 v220), .flt .f32 v221]) F.H0 ((slices_ContainsF_enc v220 v221 y).1.av F') H' ∧ St F' (slices_ContainsF_enc v220 v221 y).2 H' ∧ (slices_ContainsF_enc v220 v221 y).1.Ok F' (slices_ContainsF_enc v220 v221 y).2 :=
  fn_fin tok slices_ContainsF_hO mixed Try.func154 Try.call154 (by kernel_rfl) (LoopsOk_eq (l := []) (by kernel_rfl) trivial) (slices_ContainsF_den v220 v221) hy h0 hA
noncomputable def slices_ContainsF_F : DFn := fun args L =>
  match args with
  | [a1, .flt .f32 v221] =>
    optT (rowF32 L a1) fun v220 =>
    .call (slices_ContainsF_g v220 v221) fun y => .leaf (.bool y, L)
  | _ => .fail
theorem slices_ContainsF_Fok : COk Try.prog 154 slices_ContainsF_F true := by
  intro F L H args r L' hs ha hr
  unfold slices_ContainsF_F at hr
  split at hr
  · rename_i a1 v221
    obtain ⟨v220, hv220, hr⟩ := optT_run hr
    simp only [Tree.run] at hr
    obtain ⟨y, hy, hr⟩ := Option.bind_eq_some_iff.1 hr
    simp only [Tree.run, Option.some.injEq, Prod.mk.injEq] at hr
    obtain ⟨rfl, rfl⟩ := hr
    exact call_ok0 hs (fun k => (([a1.av F] : List AV)[k]?).getD .top) [a1, .flt .f32 v221] [.bslc (BR.root 0) (.f32 v220), .flt .f32 v221] (fun F' h0 hi hρ => ⟨by simp [DVs.av, DV.av, BR.av, hρ], slices_ContainsF_fn v220 v221 F' (st_nil hi) ⟨bslc_ok hi (by rw [h0, hρ]; exact rowF32_ok hs (DVs.okAt ha 0 rfl) hv220), trivial, trivial⟩ hy⟩) rfl
  · cases hr
/-! impl.allFinite -/
noncomputable def impl_allFinite_LO (v242 : List Nat) : LOr := fun id e L =>
  match id with
  | _ => .fail
noncomputable def impl_allFinite_tab : List (FuncId × DFn × Bool) := [(146, impl_areFinite_F, true)]
theorem impl_allFinite_hO : OrcOk Try.prog (tabD impl_allFinite_tab) (tabM impl_allFinite_tab) := tabD_cons impl_areFinite_Fok (tabD_nil _)
noncomputable def impl_allFinite_T (v242 : List Nat) : Tree ((Unit) ⊕ (Unit)) :=
  (.call (impl_areFinite_g v242) fun v243 =>
  (.br (!v243) (
  .leaf (.inl ())
  ) (
  .leaf (.inr ())
  )))

noncomputable def impl_allFinite_g (v242 : List Nat) : Option ((Unit) ⊕ (Unit)) := (impl_allFinite_T v242).run
def impl_allFinite_enc (v242 : List Nat) (y : (Unit) ⊕ (Unit)) : Rs := (match y with | .inl y => (.tup [.nilslc, .lit false], []) | .inr y => (.tup [.bslc (BR.root 0) (.f32 v242), .lit true], []))
theorem impl_allFinite_den (v242 : List Nat) : (den TT (tabD impl_allFinite_tab) (tabM impl_allFinite_tab) (impl_allFinite_LO v242) (codeOf Try.f155) ([.bslc (BR.root 0) (.f32 v242)] ++ List.replicate (Try.f155.ntmps - ([.bslc (BR.root 0) (.f32 v242)] : List DV).length) .undef) []).bind (retD TT Try.f155.results.toList 0) = (impl_allFinite_T v242).bind fun y => .leaf (impl_allFinite_enc v242 y) := by kernel_rfl
theorem impl_allFinite_fn (v242 : List Nat) (F : Fr) (h0 : St F [] F.H0) (hA : DVs.Ok F [] [.bslc (BR.root 0) (.f32 v242)]) {y : (Unit) ⊕ (Unit)} (hy : impl_allFinite_g v242 = some y) : ∃ F' H', Fwd 0 F F' [] (impl_allFinite_enc v242 y).2 ∧ FnOk Try.prog 155 (DVs.av F [.bslc (BR.root 0) (.f32 v242)]) F.H0 ((impl_allFinite_enc v242 y).1.av F') H' ∧ St F' (impl_allFinite_enc v242 y).2 H' ∧ (impl_allFinite_enc v242 y).1.Ok F' (impl_allFinite_enc v242 y).2 :=
  fn_fin tok impl_allFinite_hO mixed Try.func155 Try.call155 (by kernel_rfl) (LoopsOk_eq (l := []) (by kernel_rfl) trivial) (impl_allFinite_den v242) hy h0 hA
noncomputable def impl_allFinite_F : DFn := fun args L =>
  match args with
  | [a1] =>
    optT (rowF32 L a1) fun v242 =>
    .call (impl_allFinite_g v242) fun y => .sum y (fun y0 => .leaf (.tup [.nilslc, .lit false], L)) (fun z0 => .leaf (.tup [a1, .lit true], L))
  | _ => .fail
theorem impl_allFinite_Fok : COk Try.prog 155 impl_allFinite_F true := by
  intro F L H args r L' hs ha hr
  unfold impl_allFinite_F at hr
  split at hr
  · rename_i a1
    obtain ⟨v242, hv242, hr⟩ := optT_run hr
    simp only [Tree.run] at hr
    obtain ⟨y, hy, hr⟩ := Option.bind_eq_some_iff.1 hr
    cases y with
    | inl y =>
      simp only [Tree.run, Option.some.injEq, Prod.mk.injEq] at hr
      obtain ⟨rfl, rfl⟩ := hr
      exact call_ok0 hs (fun k => (([a1.av F] : List AV)[k]?).getD .top) [a1] [.bslc (BR.root 0) (.f32 v242)] (fun F' h0 hi hρ => ⟨by simp [DVs.av, DV.av, BR.av, hρ], impl_allFinite_fn v242 F' (st_nil hi) ⟨bslc_ok hi (by rw [h0, hρ]; exact rowF32_ok hs (DVs.okAt ha 0 rfl) hv242), trivial⟩ hy⟩) rfl
    | inr y =>
      simp only [Tree.run, Option.some.injEq, Prod.mk.injEq] at hr
      obtain ⟨rfl, rfl⟩ := hr
      exact call_al0 hs (fun k => (([a1.av F] : List AV)[k]?).getD .top) [a1] [.bslc (BR.root 0) (.f32 v242)] (fun F' h0 hi hρ => ⟨by simp [DVs.av, DV.av, BR.av, hρ], impl_allFinite_fn v242 F' (st_nil hi) ⟨bslc_ok hi (by rw [h0, hρ]; exact rowF32_ok hs (DVs.okAt ha 0 rfl) hv242), trivial⟩ hy⟩) (fun F' h0 hi hρ => by simp [impl_allFinite_enc, DVs.av, DV.av, BR.av, hρ]) ⟨(DVs.okAt ha 0 rfl), trivial, trivial⟩
  · cases hr
/-! impl.ThirdsSolve -/
noncomputable def impl_ThirdsSolve_l0_T (v169 : List Nat) (v171 : List Nat) (v172 : List Nat) (s : Int × (List Nat) × (List Nat)) : Tree ((Int × (List Nat) × (List Nat)) ⊕ ((List Nat) × (List Nat))) :=
  (.br (decide (s.1 < ((v172.length : Nat) : Int))) (
  (.grd (inb s.1 v169.length) <|
  (.grd (inb (IntKind.i64.wrap (s.1 - (1 : Int))) ((s.2.1).length)) <|
  (.grd (inb s.1 ((s.2.1).length)) <|
  (.grd (inb (IntKind.i64.wrap (s.1 - (1 : Int))) v171.length) <|
  (.grd (inb s.1 ((s.2.1).length)) <|
  (.grd (inb s.1 ((s.2.2).length)) <|
  (.grd (inb (IntKind.i64.wrap (s.1 - (1 : Int))) ((s.2.2).length)) <|
  (.grd (inb s.1 ((s.2.2).length)) <|
  .leaf (.inl (IntKind.i64.wrap (s.1 + (1 : Int)), List.set s.2.1 (Int.toNat s.1) (fsub .f32 (nth s.2.1 (Int.toNat s.1)) (impl_mul_v (fdiv .f32 (nth v169 (Int.toNat s.1)) (nth s.2.1 (Int.toNat (IntKind.i64.wrap (s.1 - (1 : Int)))))) (nth v171 (Int.toNat (IntKind.i64.wrap (s.1 - (1 : Int))))))), List.set s.2.2 (Int.toNat s.1) (fsub .f32 (nth s.2.2 (Int.toNat s.1)) (impl_mul_v (fdiv .f32 (nth v169 (Int.toNat s.1)) (nth s.2.1 (Int.toNat (IntKind.i64.wrap (s.1 - (1 : Int)))))) (nth s.2.2 (Int.toNat (IntKind.i64.wrap (s.1 - (1 : Int)))))))))))))))))
  ) (
  .leaf (.inr (s.2.1, s.2.2))
  ))

noncomputable def impl_ThirdsSolve_l0_g (v169 : List Nat) (v171 : List Nat) (v172 : List Nat) (s0 : Int × (List Nat) × (List Nat)) : Option ((List Nat) × (List Nat)) := whileM (fun s => (impl_ThirdsSolve_l0_T v169 v171 v172 s).run) s0
def impl_ThirdsSolve_l0_E (v169 : List Nat) (v170 : List Nat) (v171 : List Nat) (v172 : List Nat) (s : Int × (List Nat) × (List Nat)) : Sd := ([tp,tp,.ptr 0 (0 : Nat) 0 (3 : Nat),tp,tp,tp,.own 1 0 ((s.2.1).length),.own 2 0 ((s.2.2).length),.int .i64 ((v172.length : Nat) : Int),.int .i64 s.1,tp,tp,tp,tp,tp,tp,tp,tp,tp,tp,tp,tp,tp,tp,tp,tp,tp,tp,tp,tp,tp,tp,tp,tp,tp,tp,tp,tp,tp,tp,tp,tp,tp,tp,tp,tp,tp,tp,tp,tp,tp,tp,tp,tp,tp,tp,tp,tp,tp,tp,tp,tp,tp,tp,tp,tp,tp,tp,tp,tp,tp,tp,tp,tp,tp,tp,tp,tp,tp,tp,tp,tp,tp,tp,tp,tp,tp,tp,tp,tp,tp,tp,tp,tp,tp,tp,tp,tp,tp,tp,tp,tp,tp,tp,tp,tp,tp,tp,tp], [.gen [.bslc (BR.root 0) (.f32 v169), .bslc (BR.root 1) (.f32 v170), .bslc (BR.root 2) (.f32 v171)] false 0, .row (.f32 s.2.1) 0, .row (.f32 s.2.2) 0])
def impl_ThirdsSolve_l0_X (v169 : List Nat) (v170 : List Nat) (v171 : List Nat) (v172 : List Nat) (x : (List Nat) × (List Nat)) : Out := (.normal, [tp,tp,.ptr 0 (0 : Nat) 0 (3 : Nat),tp,tp,tp,.own 1 0 ((x.1).length),.own 2 0 ((x.2).length),.int .i64 ((v172.length : Nat) : Int),tp,tp,tp,tp,tp,tp,tp,tp,tp,tp,tp,tp,tp,tp,tp,tp,tp,tp,tp,tp,tp,tp,tp,tp,tp,tp,tp,tp,tp,tp,tp,tp,tp,tp,tp,tp,tp,tp,tp,tp,tp,tp,tp,tp,tp,tp,tp,tp,tp,tp,tp,tp,tp,tp,tp,tp,tp,tp,tp,tp,tp,tp,tp,tp,tp,tp,tp,tp,tp,tp,tp,tp,tp,tp,tp,tp,tp,tp,tp,tp,tp,tp,tp,tp,tp,tp,tp,tp,tp,tp,tp,tp,tp,tp,tp,tp,tp,tp,tp,tp], [.gen [.bslc (BR.root 0) (.f32 v169), .bslc (BR.root 1) (.f32 v170), .bslc (BR.root 2) (.f32 v171)] false 0, .row (.f32 x.1) 0, .row (.f32 x.2) 0])
def impl_ThirdsSolve_l0_kill : List Nat := KL true [2,1,3,4,99]
def impl_ThirdsSolve_l0_nx : Exit → List Nat
  | .exit 0 => KL true [2,1,3,3,100]
  | .ret => KL true [4,2,103]
  | _ => []
noncomputable def impl_ThirdsSolve_l2_T (v171 : List Nat) (v172 : List Nat) (v239 : List Nat) (s : Int × (List Nat)) : Tree ((Int × (List Nat)) ⊕ ((List Nat))) :=
  (.br (decide ((0 : Int) ≤ s.1)) (
  (.br (decide (IntKind.i64.wrap (s.1 + (1 : Int)) < ((v172.length : Nat) : Int))) (
  (.grd (inb s.1 ((s.2).length)) <|
  (.grd (inb s.1 v171.length) <|
  (.grd (inb (IntKind.i64.wrap (s.1 + (1 : Int))) ((s.2).length)) <|
  (.grd (inb s.1 ((s.2).length)) <|
  (.grd (inb s.1 ((s.2).length)) <|
  (.grd (inb s.1 ((v239).length)) <|
  (.grd (inb s.1 ((s.2).length)) <|
  .leaf (.inl (IntKind.i64.wrap (s.1 - (1 : Int)), List.set (List.set s.2 (Int.toNat s.1) (fsub .f32 (nth s.2 (Int.toNat s.1)) (impl_mul_v (nth v171 (Int.toNat s.1)) (nth s.2 (Int.toNat (IntKind.i64.wrap (s.1 + (1 : Int)))))))) (Int.toNat s.1) (fdiv .f32 (nth (List.set s.2 (Int.toNat s.1) (fsub .f32 (nth s.2 (Int.toNat s.1)) (impl_mul_v (nth v171 (Int.toNat s.1)) (nth s.2 (Int.toNat (IntKind.i64.wrap (s.1 + (1 : Int)))))))) (Int.toNat s.1)) (nth v239 (Int.toNat s.1))))))))))))
  ) (
  (.grd (inb s.1 ((s.2).length)) <|
  (.grd (inb s.1 ((v239).length)) <|
  (.grd (inb s.1 ((s.2).length)) <|
  .leaf (.inl (IntKind.i64.wrap (s.1 - (1 : Int)), List.set s.2 (Int.toNat s.1) (fdiv .f32 (nth s.2 (Int.toNat s.1)) (nth v239 (Int.toNat s.1))))))))
  ))
  ) (
  .leaf (.inr s.2)
  ))

noncomputable def impl_ThirdsSolve_l2_g (v171 : List Nat) (v172 : List Nat) (v239 : List Nat) (s0 : Int × (List Nat)) : Option ((List Nat)) := whileM (fun s => (impl_ThirdsSolve_l2_T v171 v172 v239 s).run) s0
def impl_ThirdsSolve_l2_E (v169 : List Nat) (v170 : List Nat) (v171 : List Nat) (v172 : List Nat) (v239 : List Nat) (s : Int × (List Nat)) : Sd := ([tp,tp,.ptr 0 (0 : Nat) 0 (3 : Nat),tp,tp,tp,.own 1 0 ((v239).length),.own 2 0 ((s.2).length),.int .i64 ((v172.length : Nat) : Int),tp,tp,.int .i64 s.1,tp,tp,tp,tp,tp,tp,tp,tp,tp,tp,tp,tp,tp,tp,tp,tp,tp,tp,tp,tp,tp,tp,tp,tp,tp,tp,tp,tp,tp,tp,tp,tp,tp,tp,tp,tp,tp,tp,tp,tp,tp,tp,tp,tp,tp,tp,tp,tp,tp,tp,tp,tp,tp,tp,tp,tp,tp,tp,tp,tp,tp,tp,tp,tp,tp,tp,tp,tp,tp,tp,tp,tp,tp,tp,tp,tp,tp,tp,tp,tp,tp,tp,tp,tp,tp,tp,tp,tp,tp,tp,tp,tp,tp,tp,tp,tp,tp], [.gen [.bslc (BR.root 0) (.f32 v169), .bslc (BR.root 1) (.f32 v170), .bslc (BR.root 2) (.f32 v171)] false 0, .row (.f32 v239) 0, .row (.f32 s.2) 0])
def impl_ThirdsSolve_l2_X (v169 : List Nat) (v170 : List Nat) (v171 : List Nat) (v172 : List Nat) (v239 : List Nat) (x : (List Nat)) : Out := (.normal, [tp,tp,tp,tp,tp,tp,tp,.own 0 0 ((x).length),tp,tp,tp,tp,tp,tp,tp,tp,tp,tp,tp,tp,tp,tp,tp,tp,tp,tp,tp,tp,tp,tp,tp,tp,tp,tp,tp,tp,tp,tp,tp,tp,tp,tp,tp,tp,tp,tp,tp,tp,tp,tp,tp,tp,tp,tp,tp,tp,tp,tp,tp,tp,tp,tp,tp,tp,tp,tp,tp,tp,tp,tp,tp,tp,tp,tp,tp,tp,tp,tp,tp,tp,tp,tp,tp,tp,tp,tp,tp,tp,tp,tp,tp,tp,tp,tp,tp,tp,tp,tp,tp,tp,tp,tp,tp,tp,tp,tp,tp,tp,tp], [.row (.f32 x) 0])
def impl_ThirdsSolve_l2_kill : List Nat := KL true [2,1,3,3,2,1,97]
def impl_ThirdsSolve_l2_nx : Exit → List Nat
  | .exit 2 => KL true [7,1,101]
  | .ret => KL true [4,2,103]
  | _ => []
noncomputable def impl_ThirdsSolve_LO (v169 : List Nat) (v170 : List Nat) (v171 : List Nat) (v172 : List Nat) : LOr := fun id e L =>
  match id with
  | 0 => .need (normA 0 impl_ThirdsSolve_l0_kill e L = some (impl_ThirdsSolve_l0_E v169 v170 v171 v172 ((gI (vAt e 9)), (gRF L (vAt e 6)), (gRF L (vAt e 7))))) (.call (impl_ThirdsSolve_l0_g v169 v171 v172 ((gI (vAt e 9)), (gRF L (vAt e 6)), (gRF L (vAt e 7)))) fun x => .leaf (impl_ThirdsSolve_l0_X v169 v170 v171 v172 x))
  | 2 => .need (normA 0 impl_ThirdsSolve_l2_kill e L = some (impl_ThirdsSolve_l2_E v169 v170 v171 v172 (gRF L (vAt e 6)) ((gI (vAt e 11)), (gRF L (vAt e 7))))) (.call (impl_ThirdsSolve_l2_g v171 v172 (gRF L (vAt e 6)) ((gI (vAt e 11)), (gRF L (vAt e 7)))) fun x => .leaf (impl_ThirdsSolve_l2_X v169 v170 v171 v172 (gRF L (vAt e 6)) x))
  | _ => .fail
noncomputable def impl_ThirdsSolve_tab : List (FuncId × DFn × Bool) := [(152, impl_Thirds_takes_F, true), (153, slices_CloneF_F, true), (149, impl_mul_F, true), (154, slices_ContainsF_F, true), (155, impl_allFinite_F, true)]
theorem impl_ThirdsSolve_hO : OrcOk Try.prog (tabD impl_ThirdsSolve_tab) (tabM impl_ThirdsSolve_tab) := tabD_cons impl_Thirds_takes_Fok (tabD_cons slices_CloneF_Fok (tabD_cons impl_mul_Fok (tabD_cons slices_ContainsF_Fok (tabD_cons impl_allFinite_Fok (tabD_nil _)))))
theorem impl_ThirdsSolve_l0_be (v169 : List Nat) (v170 : List Nat) (v171 : List Nat) (v172 : List Nat) (s : Int × (List Nat) × (List Nat)) : bodyT TT (tabD impl_ThirdsSolve_tab) (tabM impl_ThirdsSolve_tab) (impl_ThirdsSolve_LO v169 v170 v171 v172) 0 impl_ThirdsSolve_l0_kill impl_ThirdsSolve_l0_nx (bodyOf Try.f117 0) 0 (impl_ThirdsSolve_l0_E v169 v170 v171 v172 s) = (impl_ThirdsSolve_l0_T v169 v171 v172 s).bind fun y => .leaf (outS (impl_ThirdsSolve_l0_E v169 v170 v171 v172) (impl_ThirdsSolve_l0_X v169 v170 v171 v172) y) := by kernel_rfl
theorem impl_ThirdsSolve_l0_ok (v169 : List Nat) (v170 : List Nat) (v171 : List Nat) (v172 : List Nat) : LSound Try.prog 0 (impl_ThirdsSolve_LO v169 v170 v171 v172) 0 (bodyOf Try.f117 0) := by
  intro e L out h
  exact lo_ok (E := impl_ThirdsSolve_l0_E v169 v170 v171 v172) (gT := impl_ThirdsSolve_l0_T v169 v171 v172) (X := impl_ThirdsSolve_l0_X v169 v170 v171 v172) (s0 := ((gI (vAt e 9)), (gRF L (vAt e 6)), (gRF L (vAt e 7)))) tok impl_ThirdsSolve_hO mixed (LoopsOk_eq (l := []) (by kernel_rfl) trivial) (impl_ThirdsSolve_l0_be v169 v170 v171 v172) rfl (by intro x; rfl) h
theorem impl_ThirdsSolve_l2_be (v169 : List Nat) (v170 : List Nat) (v171 : List Nat) (v172 : List Nat) (v239 : List Nat) (s : Int × (List Nat)) : bodyT TT (tabD impl_ThirdsSolve_tab) (tabM impl_ThirdsSolve_tab) (impl_ThirdsSolve_LO v169 v170 v171 v172) 0 impl_ThirdsSolve_l2_kill impl_ThirdsSolve_l2_nx (bodyOf Try.f117 2) 2 (impl_ThirdsSolve_l2_E v169 v170 v171 v172 v239 s) = (impl_ThirdsSolve_l2_T v171 v172 v239 s).bind fun y => .leaf (outS (impl_ThirdsSolve_l2_E v169 v170 v171 v172 v239) (impl_ThirdsSolve_l2_X v169 v170 v171 v172 v239) y) := by kernel_rfl
theorem impl_ThirdsSolve_l2_ok (v169 : List Nat) (v170 : List Nat) (v171 : List Nat) (v172 : List Nat) : LSound Try.prog 0 (impl_ThirdsSolve_LO v169 v170 v171 v172) 2 (bodyOf Try.f117 2) := by
  intro e L out h
  exact lo_ok (E := impl_ThirdsSolve_l2_E v169 v170 v171 v172 (gRF L (vAt e 6))) (gT := impl_ThirdsSolve_l2_T v171 v172 (gRF L (vAt e 6))) (X := impl_ThirdsSolve_l2_X v169 v170 v171 v172 (gRF L (vAt e 6))) (s0 := ((gI (vAt e 11)), (gRF L (vAt e 7)))) tok impl_ThirdsSolve_hO mixed (LoopsOk_eq (l := []) (by kernel_rfl) trivial) (impl_ThirdsSolve_l2_be v169 v170 v171 v172 (gRF L (vAt e 6))) rfl (by intro x; rfl) h
noncomputable def impl_ThirdsSolve_T (v169 : List Nat) (v170 : List Nat) (v171 : List Nat) (v172 : List Nat) : Tree ((Unit) ⊕ ((List Nat))) :=
  (.call (impl_Thirds_takes_g v169 v170 v171 v172) fun v206 =>
  (.br (!v206) (
  .leaf (.inl ())
  ) (
  (.call (slices_CloneF_g v170) fun v208 =>
  (.call (slices_CloneF_g v172) fun v209 =>
  (.need (some (impl_ThirdsSolve_l0_E v169 v170 v171 v172 ((1 : Int), ([] : List Nat) ++ v170, ([] : List Nat) ++ v172)) = some (impl_ThirdsSolve_l0_E v169 v170 v171 v172 ((1 : Int), ([] : List Nat) ++ v170, ([] : List Nat) ++ v172))) <|
  (.call (impl_ThirdsSolve_l0_g v169 v171 v172 ((1 : Int), ([] : List Nat) ++ v170, ([] : List Nat) ++ v172)) fun v219 =>
  (.call (slices_ContainsF_g v219.1 (0 : Nat)) fun v231 =>
  (.br v231 (
  .leaf (.inl ())
  ) (
  (.need (some (impl_ThirdsSolve_l2_E v169 v170 v171 v172 v219.1 (IntKind.i64.wrap (((v172.length : Nat) : Int) - (1 : Int)), v219.2)) = some (impl_ThirdsSolve_l2_E v169 v170 v171 v172 v219.1 (IntKind.i64.wrap (((v172.length : Nat) : Int) - (1 : Int)), v219.2))) <|
  (.call (impl_ThirdsSolve_l2_g v171 v172 v219.1 (IntKind.i64.wrap (((v172.length : Nat) : Int) - (1 : Int)), v219.2)) fun v241 =>
  (.call (impl_allFinite_g v241) fun v244 =>
  (.sum v244 (fun v245 =>
  .leaf (.inl ())
  ) (fun v246 =>
  .leaf (.inr v241)
  )))))
  )))))))
  )))

noncomputable def impl_ThirdsSolve_g (v169 : List Nat) (v170 : List Nat) (v171 : List Nat) (v172 : List Nat) : Option ((Unit) ⊕ ((List Nat))) := (impl_ThirdsSolve_T v169 v170 v171 v172).run
def impl_ThirdsSolve_enc (v169 : List Nat) (v170 : List Nat) (v171 : List Nat) (v172 : List Nat) (y : (Unit) ⊕ ((List Nat))) : Rs := (match y with | .inl y => (.tup [.nilslc, .lit false], []) | .inr y => (.tup [.own 0 0 ((y).length), .lit true], [.row (.f32 y) 0]))
theorem impl_ThirdsSolve_den (v169 : List Nat) (v170 : List Nat) (v171 : List Nat) (v172 : List Nat) : (den TT (tabD impl_ThirdsSolve_tab) (tabM impl_ThirdsSolve_tab) (impl_ThirdsSolve_LO v169 v170 v171 v172) (codeOf Try.f117) ([.agg [.bslc (BR.root 0) (.f32 v169), .bslc (BR.root 1) (.f32 v170), .bslc (BR.root 2) (.f32 v171)], .bslc (BR.root 3) (.f32 v172)] ++ List.replicate (Try.f117.ntmps - ([.agg [.bslc (BR.root 0) (.f32 v169), .bslc (BR.root 1) (.f32 v170), .bslc (BR.root 2) (.f32 v171)], .bslc (BR.root 3) (.f32 v172)] : List DV).length) .undef) []).bind (retD TT Try.f117.results.toList 0) = (impl_ThirdsSolve_T v169 v170 v171 v172).bind fun y => .leaf (impl_ThirdsSolve_enc v169 v170 v171 v172 y) := by kernel_rfl
theorem impl_ThirdsSolve_fn (v169 : List Nat) (v170 : List Nat) (v171 : List Nat) (v172 : List Nat) (F : Fr) (h0 : St F [] F.H0) (hA : DVs.Ok F [] [.agg [.bslc (BR.root 0) (.f32 v169), .bslc (BR.root 1) (.f32 v170), .bslc (BR.root 2) (.f32 v171)], .bslc (BR.root 3) (.f32 v172)]) {y : (Unit) ⊕ ((List Nat))} (hy : impl_ThirdsSolve_g v169 v170 v171 v172 = some y) : ∃ F' H', Fwd 0 F F' [] (impl_ThirdsSolve_enc v169 v170 v171 v172 y).2 ∧ FnOk Try.prog 117 (DVs.av F [.agg [.bslc (BR.root 0) (.f32 v169), .bslc (BR.root 1) (.f32 v170), .bslc (BR.root 2) (.f32 v171)], .bslc (BR.root 3) (.f32 v172)]) F.H0 ((impl_ThirdsSolve_enc v169 v170 v171 v172 y).1.av F') H' ∧ St F' (impl_ThirdsSolve_enc v169 v170 v171 v172 y).2 H' ∧ (impl_ThirdsSolve_enc v169 v170 v171 v172 y).1.Ok F' (impl_ThirdsSolve_enc v169 v170 v171 v172 y).2 :=
  fn_fin tok impl_ThirdsSolve_hO mixed Try.func117 Try.call117 (by kernel_rfl) (LoopsOk_eq (l := [(0, bodyOf Try.f117 0), (2, bodyOf Try.f117 2)]) (by kernel_rfl) ⟨impl_ThirdsSolve_l0_ok v169 v170 v171 v172, impl_ThirdsSolve_l2_ok v169 v170 v171 v172, trivial⟩) (impl_ThirdsSolve_den v169 v170 v171 v172) hy h0 hA
noncomputable def impl_ThirdsSolve_F : DFn := fun args L =>
  match args with
  | [.agg [a1, a2, a3], a4] =>
    optT (rowF32 L a1) fun v169 =>
    optT (rowF32 L a2) fun v170 =>
    optT (rowF32 L a3) fun v171 =>
    optT (rowF32 L a4) fun v172 =>
    .call (impl_ThirdsSolve_g v169 v170 v171 v172) fun y => .sum y (fun y0 => .leaf (.tup [.nilslc, .lit false], L)) (fun z0 => .leaf (.tup [.own (L.length + 0) 0 ((z0).length), .lit true], L ++ [.row (.f32 z0) 0]))
  | _ => .fail
theorem impl_ThirdsSolve_Fok : COk Try.prog 117 impl_ThirdsSolve_F true := by
  intro F L H args r L' hs ha hr
  unfold impl_ThirdsSolve_F at hr
  split at hr
  · rename_i a1 a2 a3 a4
    obtain ⟨v169, hv169, hr⟩ := optT_run hr
    obtain ⟨v170, hv170, hr⟩ := optT_run hr
    obtain ⟨v171, hv171, hr⟩ := optT_run hr
    obtain ⟨v172, hv172, hr⟩ := optT_run hr
    simp only [Tree.run] at hr
    obtain ⟨y, hy, hr⟩ := Option.bind_eq_some_iff.1 hr
    cases y with
    | inl y =>
      simp only [Tree.run, Option.some.injEq, Prod.mk.injEq] at hr
      obtain ⟨rfl, rfl⟩ := hr
      exact call_ok0 hs (fun k => (([a1.av F, a2.av F, a3.av F, a4.av F] : List AV)[k]?).getD .top) [.agg [a1, a2, a3], a4] [.agg [.bslc (BR.root 0) (.f32 v169), .bslc (BR.root 1) (.f32 v170), .bslc (BR.root 2) (.f32 v171)], .bslc (BR.root 3) (.f32 v172)] (fun F' h0 hi hρ => ⟨by simp [DVs.av, DV.av, BR.av, hρ], impl_ThirdsSolve_fn v169 v170 v171 v172 F' (st_nil hi) ⟨⟨bslc_ok hi (by rw [h0, hρ]; exact rowF32_ok hs (DVs.okAt (DVs.okAt ha 0 rfl) 0 rfl) hv169), bslc_ok hi (by rw [h0, hρ]; exact rowF32_ok hs (DVs.okAt (DVs.okAt ha 0 rfl) 1 rfl) hv170), bslc_ok hi (by rw [h0, hρ]; exact rowF32_ok hs (DVs.okAt (DVs.okAt ha 0 rfl) 2 rfl) hv171), trivial⟩, bslc_ok hi (by rw [h0, hρ]; exact rowF32_ok hs (DVs.okAt ha 1 rfl) hv172), trivial⟩ hy⟩) rfl
    | inr y =>
      simp only [Tree.run, Option.some.injEq, Prod.mk.injEq] at hr
      obtain ⟨rfl, rfl⟩ := hr
      exact call_ok1 hs (fun k => (([a1.av F, a2.av F, a3.av F, a4.av F] : List AV)[k]?).getD .top) [.agg [a1, a2, a3], a4] [.agg [.bslc (BR.root 0) (.f32 v169), .bslc (BR.root 1) (.f32 v170), .bslc (BR.root 2) (.f32 v171)], .bslc (BR.root 3) (.f32 v172)] (fun F' h0 hi hρ => ⟨by simp [DVs.av, DV.av, BR.av, hρ], impl_ThirdsSolve_fn v169 v170 v171 v172 F' (st_nil hi) ⟨⟨bslc_ok hi (by rw [h0, hρ]; exact rowF32_ok hs (DVs.okAt (DVs.okAt ha 0 rfl) 0 rfl) hv169), bslc_ok hi (by rw [h0, hρ]; exact rowF32_ok hs (DVs.okAt (DVs.okAt ha 0 rfl) 1 rfl) hv170), bslc_ok hi (by rw [h0, hρ]; exact rowF32_ok hs (DVs.okAt (DVs.okAt ha 0 rfl) 2 rfl) hv171), trivial⟩, bslc_ok hi (by rw [h0, hρ]; exact rowF32_ok hs (DVs.okAt ha 1 rfl) hv172), trivial⟩ hy⟩) rfl rfl
  · cases hr
/-! impl.ThirdsShared -/
noncomputable def impl_ThirdsShared_nst_l0_T (v157 : List (List Nat)) (v158 : List Nat) (v159 : List (List Nat)) (v160 : List Nat) (v161 : List (List Nat)) (v162 : List Nat) (v163 : List Nat) (s : Int × (List (List Nat)) × (List Nat)) : Tree ((Int × (List (List Nat)) × (List Nat)) ⊕ ((Unit) ⊕ ((List (List Nat)) × (List Nat)))) :=
  (.br (decide (s.1 < (((v158).length : Nat) : Int))) (
  (.grd (inb s.1 ((v158).length)) <|
  (.call (impl_ThirdsSolve_g (nget v157 (nth v158 (Int.toNat s.1))) (nget v159 (nth v160 (Int.toNat s.1))) (nget v161 (nth v162 (Int.toNat s.1))) v163) fun v259 =>
  (.sum v259 (fun v260 =>
  .leaf (.inr (.inl ()))
  ) (fun v261 =>
  (.grd (fits (((s.2.2).length) + (1 : Nat))) <|
  .leaf (.inl (IntKind.i64.wrap (s.1 + (1 : Int)), s.2.1 ++ ([v261] : List (List Nat)), s.2.2 ++ [s.2.1.length + 1])))
  ))))
  ) (
  .leaf (.inr (.inr (s.2.1, s.2.2)))
  ))

noncomputable def impl_ThirdsShared_nst_l0_g (v157 : List (List Nat)) (v158 : List Nat) (v159 : List (List Nat)) (v160 : List Nat) (v161 : List (List Nat)) (v162 : List Nat) (v163 : List Nat) (s0 : Int × (List (List Nat)) × (List Nat)) : Option ((Unit) ⊕ ((List (List Nat)) × (List Nat))) := whileM (fun s => (impl_ThirdsShared_nst_l0_T v157 v158 v159 v160 v161 v162 v163 s).run) s0
def impl_ThirdsShared_nst_l0_E (v157 : List (List Nat)) (v158 : List Nat) (v159 : List (List Nat)) (v160 : List Nat) (v161 : List (List Nat)) (v162 : List Nat) (v163 : List Nat) (v164 : Int) (s : Int × (List (List Nat)) × (List Nat)) : Sd := ([tp,.bslc (BR.root 1) (.f32 v163),tp,tp,tp,tp,tp,tp,.nest 1 0 1 ((s.2.2).length),tp,tp,tp,tp,tp,tp,tp,tp,tp,tp,tp,tp,tp,.nest 0 0 3 ((v158).length),.int .i64 (((v158).length : Nat) : Int),.int .i64 s.1,tp,tp,tp,tp,tp,tp,tp,tp,tp,tp,tp,tp,tp,tp,tp,tp,tp], [.nest [.sl (.f32 v157) v158, .sl (.f32 v159) v160, .sl (.f32 v161) v162] false 0, .nest [.sl (.f32 s.2.1) s.2.2] false 0])
def impl_ThirdsShared_nst_l0_X (v157 : List (List Nat)) (v158 : List Nat) (v159 : List (List Nat)) (v160 : List Nat) (v161 : List (List Nat)) (v162 : List Nat) (v163 : List Nat) (v164 : Int) (x : (Unit) ⊕ ((List (List Nat)) × (List Nat))) : Out := (match x with | .inl x => (.ret, [tp,tp,tp,tp,tp,tp,.nilslc,.lit false,tp,tp,tp,tp,tp,tp,tp,tp,tp,tp,tp,tp,tp,tp,tp,tp,tp,tp,tp,tp,tp,tp,tp,tp,tp,tp,tp,tp,tp,tp,tp,tp,tp,tp], [.nest [.sl (.f32 v157) v158, .sl (.f32 v159) v160, .sl (.f32 v161) v162] false 0]) | .inr x => (.normal, [tp,tp,tp,tp,tp,tp,tp,tp,.nest 1 0 1 ((x.2).length),tp,tp,tp,tp,tp,tp,tp,tp,tp,tp,tp,tp,tp,tp,tp,tp,tp,tp,tp,tp,tp,tp,tp,tp,tp,tp,tp,tp,tp,tp,tp,tp,tp], [.nest [.sl (.f32 v157) v158, .sl (.f32 v159) v160, .sl (.f32 v161) v162] false 0, .nest [.sl (.f32 x.1) x.2] false 0]))
def impl_ThirdsShared_nst_l0_kill : List Nat := KL true [1,1,6,1,13,3,17]
def impl_ThirdsShared_nst_l0_nx : Exit → List Nat
  | .exit 0 => KL true [8,1,33]
  | .ret => KL true [6,2,34]
  | _ => []
noncomputable def impl_ThirdsShared_nst_LO (v157 : List (List Nat)) (v158 : List Nat) (v159 : List (List Nat)) (v160 : List Nat) (v161 : List (List Nat)) (v162 : List Nat) (v163 : List Nat) (v164 : Int) : LOr := fun id e L =>
  match id with
  | 0 => .need (normA 1 impl_ThirdsShared_nst_l0_kill e L = some (impl_ThirdsShared_nst_l0_E v157 v158 v159 v160 v161 v162 v163 v164 ((gI (vAt e 24)), (gPF L (vAt e 8) 0), (gX L (vAt e 8) 0)))) (.call (impl_ThirdsShared_nst_l0_g v157 v158 v159 v160 v161 v162 v163 ((gI (vAt e 24)), (gPF L (vAt e 8) 0), (gX L (vAt e 8) 0))) fun x => .sum x (fun b0 => .leaf (impl_ThirdsShared_nst_l0_X v157 v158 v159 v160 v161 v162 v163 v164 (.inl b0))) (fun c0 => .leaf (impl_ThirdsShared_nst_l0_X v157 v158 v159 v160 v161 v162 v163 v164 (.inr c0))))
  | _ => .fail
noncomputable def impl_ThirdsShared_nst_tab : List (FuncId × DFn × Bool) := [(89, impl_inRange_F, true), (117, impl_ThirdsSolve_F, true)]
theorem impl_ThirdsShared_nst_hO : OrcOk Try.prog (tabD impl_ThirdsShared_nst_tab) (tabM impl_ThirdsShared_nst_tab) := tabD_cons impl_inRange_Fok (tabD_cons impl_ThirdsSolve_Fok (tabD_nil _))
theorem impl_ThirdsShared_nst_l0_be (v157 : List (List Nat)) (v158 : List Nat) (v159 : List (List Nat)) (v160 : List Nat) (v161 : List (List Nat)) (v162 : List Nat) (v163 : List Nat) (v164 : Int) (s : Int × (List (List Nat)) × (List Nat)) : bodyT TT (tabD impl_ThirdsShared_nst_tab) (tabM impl_ThirdsShared_nst_tab) (impl_ThirdsShared_nst_LO v157 v158 v159 v160 v161 v162 v163 v164) 1 impl_ThirdsShared_nst_l0_kill impl_ThirdsShared_nst_l0_nx (bodyOf Try.f46 0) 0 (impl_ThirdsShared_nst_l0_E v157 v158 v159 v160 v161 v162 v163 v164 s) = (impl_ThirdsShared_nst_l0_T v157 v158 v159 v160 v161 v162 v163 s).bind fun y => .leaf (outS (impl_ThirdsShared_nst_l0_E v157 v158 v159 v160 v161 v162 v163 v164) (impl_ThirdsShared_nst_l0_X v157 v158 v159 v160 v161 v162 v163 v164) y) := by kernel_rfl
theorem impl_ThirdsShared_nst_l0_ok (v157 : List (List Nat)) (v158 : List Nat) (v159 : List (List Nat)) (v160 : List Nat) (v161 : List (List Nat)) (v162 : List Nat) (v163 : List Nat) (v164 : Int) : LSound Try.prog 1 (impl_ThirdsShared_nst_LO v157 v158 v159 v160 v161 v162 v163 v164) 0 (bodyOf Try.f46 0) := by
  intro e L out h
  exact lo_ok (E := impl_ThirdsShared_nst_l0_E v157 v158 v159 v160 v161 v162 v163 v164) (gT := impl_ThirdsShared_nst_l0_T v157 v158 v159 v160 v161 v162 v163) (X := impl_ThirdsShared_nst_l0_X v157 v158 v159 v160 v161 v162 v163 v164) (s0 := ((gI (vAt e 24)), (gPF L (vAt e 8) 0), (gX L (vAt e 8) 0))) tok impl_ThirdsShared_nst_hO mixed (LoopsOk_eq (l := []) (by kernel_rfl) trivial) (impl_ThirdsShared_nst_l0_be v157 v158 v159 v160 v161 v162 v163 v164) rfl (by intro x; (cases x with | inl b => rfl | inr x => exact rfl)) h
noncomputable def impl_ThirdsShared_nst_T (v157 : List (List Nat)) (v158 : List Nat) (v159 : List (List Nat)) (v160 : List Nat) (v161 : List (List Nat)) (v162 : List Nat) (v163 : List Nat) (v164 : Int) : Tree ((Unit) ⊕ ((List (List Nat)) × (List Nat))) :=
  (.br (decide ((8 : Int) < (((v158).length : Nat) : Int))) (
  .leaf (.inl ())
  ) (
  (.br (!(impl_inRange_v v164 (1 : Int) (8 : Int))) (
  .leaf (.inl ())
  ) (
  (.need (some (impl_ThirdsShared_nst_l0_E v157 v158 v159 v160 v161 v162 v163 v164 ((0 : Int), ([] : List (List Nat)), ([] : List Nat))) = some (impl_ThirdsShared_nst_l0_E v157 v158 v159 v160 v161 v162 v163 v164 ((0 : Int), ([] : List (List Nat)), ([] : List Nat)))) <|
  (.call (impl_ThirdsShared_nst_l0_g v157 v158 v159 v160 v161 v162 v163 ((0 : Int), ([] : List (List Nat)), ([] : List Nat))) fun v262 =>
  (.sum v262 (fun v263 =>
  .leaf (.inl ())
  ) (fun v264 =>
  .leaf (.inr (v264.1, v264.2))
  ))))
  ))
  ))

noncomputable def impl_ThirdsShared_nst_g (v157 : List (List Nat)) (v158 : List Nat) (v159 : List (List Nat)) (v160 : List Nat) (v161 : List (List Nat)) (v162 : List Nat) (v163 : List Nat) (v164 : Int) : Option ((Unit) ⊕ ((List (List Nat)) × (List Nat))) := (impl_ThirdsShared_nst_T v157 v158 v159 v160 v161 v162 v163 v164).run
def impl_ThirdsShared_nst_enc (v157 : List (List Nat)) (v158 : List Nat) (v159 : List (List Nat)) (v160 : List Nat) (v161 : List (List Nat)) (v162 : List Nat) (v163 : List Nat) (v164 : Int) (y : (Unit) ⊕ ((List (List Nat)) × (List Nat))) : Rs := (match y with | .inl y => (.tup [.nilslc, .lit false], [.nest [.sl (.f32 v157) v158, .sl (.f32 v159) v160, .sl (.f32 v161) v162] false 0]) | .inr y => (.tup [.nest 1 0 1 ((y.2).length), .lit true], [.nest [.sl (.f32 v157) v158, .sl (.f32 v159) v160, .sl (.f32 v161) v162] false 0, .nest [.sl (.f32 y.1) y.2] false 0]))
theorem impl_ThirdsShared_nst_den (v157 : List (List Nat)) (v158 : List Nat) (v159 : List (List Nat)) (v160 : List Nat) (v161 : List (List Nat)) (v162 : List Nat) (v163 : List Nat) (v164 : Int) : (den TT (tabD impl_ThirdsShared_nst_tab) (tabM impl_ThirdsShared_nst_tab) (impl_ThirdsShared_nst_LO v157 v158 v159 v160 v161 v162 v163 v164) (codeOf Try.f46) ([.nest 0 0 3 ((v158).length), .bslc (BR.root 1) (.f32 v163), .int .i64 v164] ++ List.replicate (Try.f46.ntmps - ([.nest 0 0 3 ((v158).length), .bslc (BR.root 1) (.f32 v163), .int .i64 v164] : List DV).length) .undef) [.nest [.sl (.f32 v157) v158, .sl (.f32 v159) v160, .sl (.f32 v161) v162] false 0]).bind (retD TT Try.f46.results.toList 1) = (impl_ThirdsShared_nst_T v157 v158 v159 v160 v161 v162 v163 v164).bind fun y => .leaf (impl_ThirdsShared_nst_enc v157 v158 v159 v160 v161 v162 v163 v164 y) := by kernel_rfl
theorem impl_ThirdsShared_nst_fn (v157 : List (List Nat)) (v158 : List Nat) (v159 : List (List Nat)) (v160 : List Nat) (v161 : List (List Nat)) (v162 : List Nat) (v163 : List Nat) (v164 : Int) (F : Fr) (h0 : St F [.nest [.sl (.f32 v157) v158, .sl (.f32 v159) v160, .sl (.f32 v161) v162] false 0] F.H0) (hA : DVs.Ok F [.nest [.sl (.f32 v157) v158, .sl (.f32 v159) v160, .sl (.f32 v161) v162] false 0] [.nest 0 0 3 ((v158).length), .bslc (BR.root 1) (.f32 v163), .int .i64 v164]) {y : (Unit) ⊕ ((List (List Nat)) × (List Nat))} (hy : impl_ThirdsShared_nst_g v157 v158 v159 v160 v161 v162 v163 v164 = some y) : ∃ F' H', Fwd 1 F F' [.nest [.sl (.f32 v157) v158, .sl (.f32 v159) v160, .sl (.f32 v161) v162] false 0] (impl_ThirdsShared_nst_enc v157 v158 v159 v160 v161 v162 v163 v164 y).2 ∧ FnOk Try.prog 46 (DVs.av F [.nest 0 0 3 ((v158).length), .bslc (BR.root 1) (.f32 v163), .int .i64 v164]) F.H0 ((impl_ThirdsShared_nst_enc v157 v158 v159 v160 v161 v162 v163 v164 y).1.av F') H' ∧ St F' (impl_ThirdsShared_nst_enc v157 v158 v159 v160 v161 v162 v163 v164 y).2 H' ∧ (impl_ThirdsShared_nst_enc v157 v158 v159 v160 v161 v162 v163 v164 y).1.Ok F' (impl_ThirdsShared_nst_enc v157 v158 v159 v160 v161 v162 v163 v164 y).2 :=
  fn_fin tok impl_ThirdsShared_nst_hO mixed Try.func46 Try.call46 (by kernel_rfl) (LoopsOk_eq (l := [(0, bodyOf Try.f46 0)]) (by kernel_rfl) ⟨impl_ThirdsShared_nst_l0_ok v157 v158 v159 v160 v161 v162 v163 v164, trivial⟩) (impl_ThirdsShared_nst_den v157 v158 v159 v160 v161 v162 v163 v164) hy h0 hA
noncomputable def impl_ThirdsShared_nst_F : DFn := fun args L =>
  match args with
  | [a1, a2, .int .i64 v164] =>
    optT (nestN L false 3 a1) fun qn0 =>
    (match qn0.2 with
    | [.sl (.f32 v157) v158, .sl (.f32 v159) v160, .sl (.f32 v161) v162] =>
    optT (rowF32 L a2) fun v163 =>
    (match sepB [qn0.1] [a2] with
    | true =>
    .call (impl_ThirdsShared_nst_g v157 v158 v159 v160 v161 v162 v163 v164) fun y => .sum y (fun y0 => .grd (decide ((v158).length = (v158).length)) (.leaf (.tup [.nilslc, .lit false], setB L [(qn0.1, .nest [.sl (.f32 v157) v158, .sl (.f32 v159) v160, .sl (.f32 v161) v162] false (verAt L qn0.1))] ++ []))) (fun z0 => .grd (decide ((v158).length = (v158).length)) (.leaf (.tup [.nest (L.length + 0) 0 1 ((z0.2).length), .lit true], setB L [(qn0.1, .nest [.sl (.f32 v157) v158, .sl (.f32 v159) v160, .sl (.f32 v161) v162] false (verAt L qn0.1))] ++ [.nest [.sl (.f32 z0.1) z0.2] false 0])))
    | false => .fail)
    | _ => .fail)
  | _ => .fail
theorem impl_ThirdsShared_nst_Fok : COk Try.prog 46 impl_ThirdsShared_nst_F false := by
  intro F L H args r L' hs ha hr
  unfold impl_ThirdsShared_nst_F at hr
  split at hr
  · rename_i a1 a2 v164
    obtain ⟨⟨jn0, cn0⟩, hn0, hr⟩ := optT_run hr
    simp only at hr
    split at hr
    · rename_i v157 v158 v159 v160 v161 v162
      obtain ⟨hne0, hnu0, hnl0, hnv0, hnm0, hno0⟩ := nestN_spec hs (DVs.okAt ha 0 rfl) hn0
      obtain ⟨v163, hv163, hr⟩ := optT_run hr
      split at hr
      · rename_i hsep
        obtain ⟨hnd, hsepv⟩ := sepB_spec hsep
        simp only [Tree.run] at hr
        obtain ⟨y, hy, hr⟩ := Option.bind_eq_some_iff.1 hr
        cases y with
        | inl y =>
          try simp only [Tree.run] at hr
          obtain ⟨hl0, hr⟩ := ite_run hr
          simp only [Option.some.injEq, Prod.mk.injEq] at hr
          obtain ⟨rfl, rfl⟩ := hr
          exact mutG_ok hs [a1, a2] ⟨(DVs.okAt ha 0 rfl), (DVs.okAt ha 1 rfl), trivial⟩ [a1, a2, .int .i64 v164] [.nest 0 0 3 ((v158).length), .bslc (BR.root 1) (.f32 v163), .int .i64 v164] [jn0] [verAt L jn0] [.nest [.sl (.f32 v157) v158, .sl (.f32 v159) v160, .sl (.f32 v161) v162] false 0] [.nest [.sl (.f32 v157) v158, .sl (.f32 v159) v160, .sl (.f32 v161) v162] false 0] [.nest [.sl (.f32 v157) v158, .sl (.f32 v159) v160, .sl (.f32 v161) v162] false (verAt L jn0)] [] hnd rfl rfl (fun j hj => by
              simp at hj
              subst hj; exact ex_nest hne0) (fun j hj => by
              simp at hj
              subst hj; exact reach_refs (by simp [DVs.refs, DV.refs, hnu0])) (fun F' h0 hρ ab hpl hS => by
              have ab0 := ab 0 _ rfl;
              have hnx0 : a1.av F = (.nest 0 0 3 ((v158).length) : DV).av F' := nestN_av (hpl 0 _ rfl) hnv0
              refine ⟨fun i j b' h1 h2 => ?_, by simp [DBlk.blk, DVs.av, DV.av, BR.av, hρ, Row.len, hnx0, ab0, ab0], fun hst => impl_ThirdsShared_nst_fn v157 v158 v159 v160 v161 v162 v163 v164 F' hst ⟨(nest_ok0 (i := 0) rfl rfl hnm0), bslcM hS (by rw [hρ]; rfl) (hsepv a2 (by simp)) (DVs.okAt ha 1 rfl) (rowF32_or hv163), trivial, trivial⟩ hy⟩
              rcases i with _ | i
              · simp at h1 h2; subst h1; subst h2; obtain ⟨ver_, hv_⟩ := hne0; exact ⟨_, hv_, .nest _ _ _ _, nest_blk (hpl 0 _ rfl) _ _ _ _, hno0 _ _⟩
              · simp at h1) rfl rfl (fun i j b b' h1 h2 h3 => by
              rcases i with _ | i
              · simp at h1; subst h1; cases h3; exact growN hne0 (by first | exact of_decide_eq_true hl0 | rfl) rfl h2
              · simp at h1)
        | inr y =>
          try simp only [Tree.run] at hr
          obtain ⟨hl0, hr⟩ := ite_run hr
          simp only [Option.some.injEq, Prod.mk.injEq] at hr
          obtain ⟨rfl, rfl⟩ := hr
          exact mutG_ok hs [a1, a2] ⟨(DVs.okAt ha 0 rfl), (DVs.okAt ha 1 rfl), trivial⟩ [a1, a2, .int .i64 v164] [.nest 0 0 3 ((v158).length), .bslc (BR.root 1) (.f32 v163), .int .i64 v164] [jn0] [verAt L jn0] [.nest [.sl (.f32 v157) v158, .sl (.f32 v159) v160, .sl (.f32 v161) v162] false 0] [.nest [.sl (.f32 v157) v158, .sl (.f32 v159) v160, .sl (.f32 v161) v162] false 0, .nest [.sl (.f32 y.1) y.2] false 0] [.nest [.sl (.f32 v157) v158, .sl (.f32 v159) v160, .sl (.f32 v161) v162] false (verAt L jn0)] [.nest [.sl (.f32 y.1) y.2] false 0] hnd rfl rfl (fun j hj => by
              simp at hj
              subst hj; exact ex_nest hne0) (fun j hj => by
              simp at hj
              subst hj; exact reach_refs (by simp [DVs.refs, DV.refs, hnu0])) (fun F' h0 hρ ab hpl hS => by
              have ab0 := ab 0 _ rfl;
              have hnx0 : a1.av F = (.nest 0 0 3 ((v158).length) : DV).av F' := nestN_av (hpl 0 _ rfl) hnv0
              refine ⟨fun i j b' h1 h2 => ?_, by simp [DBlk.blk, DVs.av, DV.av, BR.av, hρ, Row.len, hnx0, ab0, ab0], fun hst => impl_ThirdsShared_nst_fn v157 v158 v159 v160 v161 v162 v163 v164 F' hst ⟨(nest_ok0 (i := 0) rfl rfl hnm0), bslcM hS (by rw [hρ]; rfl) (hsepv a2 (by simp)) (DVs.okAt ha 1 rfl) (rowF32_or hv163), trivial, trivial⟩ hy⟩
              rcases i with _ | i
              · simp at h1 h2; subst h1; subst h2; obtain ⟨ver_, hv_⟩ := hne0; exact ⟨_, hv_, .nest _ _ _ _, nest_blk (hpl 0 _ rfl) _ _ _ _, hno0 _ _⟩
              · simp at h1) rfl rfl (fun i j b b' h1 h2 h3 => by
              rcases i with _ | i
              · simp at h1; subst h1; cases h3; exact growN hne0 (by first | exact of_decide_eq_true hl0 | rfl) rfl h2
              · simp at h1)
      · cases hr
    · cases hr
  · cases hr
/-! laws.eqFloat32SS -/
noncomputable def laws_eqFloat32SS_l0_T (s : Unit) : Tree ((Unit) ⊕ (Unit)) :=
  (.br (decide ((0 : Int) < (0 : Int))) (
  .fail
  ) (
  .leaf (.inr ())
  ))

noncomputable def laws_eqFloat32SS_l0_g (s0 : Unit) : Option (Unit) := whileM (fun s => (laws_eqFloat32SS_l0_T s).run) s0
def laws_eqFloat32SS_l0_E (s : Unit) : Sd := ([.nilslc,.nilslc,tp,tp,tp,.int .i64 (0 : Int),tp,tp,tp,tp,tp,tp,tp,tp,tp,tp,tp,tp,tp,tp,tp,tp,tp,tp,tp,tp,tp], [])
def laws_eqFloat32SS_l0_X (x : Unit) : Out := (.normal, [tp,tp,tp,tp,tp,tp,tp,tp,tp,tp,tp,tp,tp,tp,tp,tp,tp,tp,tp,tp,tp,tp,tp,tp,tp,tp,tp], [])
def laws_eqFloat32SS_l0_kill : List Nat := KL true [0,2,3,1,21]
def laws_eqFloat32SS_l0_nx : Exit → List Nat
  | .exit 0 => KL true [27]
  | .ret => KL true [4,1,22]
  | _ => []
noncomputable def laws_eqFloat32SS_LO : LOr := fun id e L =>
  match id with
  | 0 => .need (normA 0 laws_eqFloat32SS_l0_kill e L = some (laws_eqFloat32SS_l0_E ())) (.call (laws_eqFloat32SS_l0_g ()) fun x => .leaf (laws_eqFloat32SS_l0_X x))
  | _ => .fail
noncomputable def laws_eqFloat32SS_tab : List (FuncId × DFn × Bool) := []
theorem laws_eqFloat32SS_hO : OrcOk Try.prog (tabD laws_eqFloat32SS_tab) (tabM laws_eqFloat32SS_tab) := tabD_nil _
theorem laws_eqFloat32SS_l0_be (s : Unit) : bodyT TT (tabD laws_eqFloat32SS_tab) (tabM laws_eqFloat32SS_tab) (laws_eqFloat32SS_LO) 0 laws_eqFloat32SS_l0_kill laws_eqFloat32SS_l0_nx (bodyOf Try.f47 0) 0 (laws_eqFloat32SS_l0_E s) = (laws_eqFloat32SS_l0_T s).bind fun y => .leaf (outS (laws_eqFloat32SS_l0_E) (laws_eqFloat32SS_l0_X) y) := by kernel_rfl
theorem laws_eqFloat32SS_l0_ok : LSound Try.prog 0 (laws_eqFloat32SS_LO) 0 (bodyOf Try.f47 0) := by
  intro e L out h
  exact lo_ok (E := laws_eqFloat32SS_l0_E) (gT := laws_eqFloat32SS_l0_T) (X := laws_eqFloat32SS_l0_X) (s0 := ()) tok laws_eqFloat32SS_hO mixed (LoopsOk_eq (l := []) (by kernel_rfl) trivial) (laws_eqFloat32SS_l0_be) rfl (by intro x; rfl) h
noncomputable def laws_eqFloat32SS_T : Tree (Bool) :=
  (.br (!decide ((0 : Int) = (0 : Int))) (
  .leaf false
  ) (
  (.need (some (laws_eqFloat32SS_l0_E ()) = some (laws_eqFloat32SS_l0_E ())) <|
  (.call (laws_eqFloat32SS_l0_g ()) fun v269 =>
  .leaf true))
  ))

noncomputable def laws_eqFloat32SS_g : Option (Bool) := (laws_eqFloat32SS_T).run
def laws_eqFloat32SS_enc (y : Bool) : Rs := (.bool y, [])
theorem laws_eqFloat32SS_den : (den TT (tabD laws_eqFloat32SS_tab) (tabM laws_eqFloat32SS_tab) (laws_eqFloat32SS_LO) (codeOf Try.f47) ([.nilslc, .nilslc] ++ List.replicate (Try.f47.ntmps - ([.nilslc, .nilslc] : List DV).length) .undef) []).bind (retD TT Try.f47.results.toList 0) = (laws_eqFloat32SS_T).bind fun y => .leaf (laws_eqFloat32SS_enc y) := by kernel_rfl
theorem laws_eqFloat32SS_fn (F : Fr) (h0 : St F [] F.H0) (hA : DVs.Ok F [] [.nilslc, .nilslc]) {y : Bool} (hy : laws_eqFloat32SS_g = some y) : ∃ F' H', Fwd 0 F F' [] (laws_eqFloat32SS_enc y).2 ∧ FnOk Try.prog 47 (DVs.av F [.nilslc, .nilslc]) F.H0 ((laws_eqFloat32SS_enc y).1.av F') H' ∧ St F' (laws_eqFloat32SS_enc y).2 H' ∧ (laws_eqFloat32SS_enc y).1.Ok F' (laws_eqFloat32SS_enc y).2 :=
  fn_fin tok laws_eqFloat32SS_hO mixed Try.func47 Try.call47 (by kernel_rfl) (LoopsOk_eq (l := [(0, bodyOf Try.f47 0)]) (by kernel_rfl) ⟨laws_eqFloat32SS_l0_ok, trivial⟩) (laws_eqFloat32SS_den) hy h0 hA
noncomputable def laws_eqFloat32SS_F : DFn := fun args L =>
  match args with
  | [.nilslc, .nilslc] =>
    .call (laws_eqFloat32SS_g) fun y => .leaf (.bool y, L)
  | _ => .fail
theorem laws_eqFloat32SS_Fok : COk Try.prog 47 laws_eqFloat32SS_F true := by
  intro F L H args r L' hs ha hr
  unfold laws_eqFloat32SS_F at hr
  split at hr
  · skip
    simp only [Tree.run] at hr
    obtain ⟨y, hy, hr⟩ := Option.bind_eq_some_iff.1 hr
    simp only [Tree.run, Option.some.injEq, Prod.mk.injEq] at hr
    obtain ⟨rfl, rfl⟩ := hr
    exact call_ok0 hs (fun k => (([] : List AV)[k]?).getD .top) [.nilslc, .nilslc] [.nilslc, .nilslc] (fun F' h0 hi hρ => ⟨by simp [DVs.av, DV.av, BR.av, hρ], laws_eqFloat32SS_fn  F' (st_nil hi) ⟨trivial, trivial, trivial⟩ hy⟩) rfl
  · cases hr
/-! laws.sameFloat -/
noncomputable def laws_sameFloat_LO (v294 : Nat) (v295 : Nat) : LOr := fun id e L =>
  match id with
  | _ => .fail
noncomputable def laws_sameFloat_tab : List (FuncId × DFn × Bool) := []
theorem laws_sameFloat_hO : OrcOk Try.prog (tabD laws_sameFloat_tab) (tabM laws_sameFloat_tab) := tabD_nil _
noncomputable def laws_sameFloat_T (v294 : Nat) (v295 : Nat) : Tree (Bool) :=
  (.br (!feq .f64 v294 v294) (
  (.br (!feq .f64 v294 v294) (
  .leaf (!feq .f64 v295 v295)
  ) (
  .leaf false
  ))
  ) (
  (.br (!feq .f64 v295 v295) (
  (.br (!feq .f64 v294 v294) (
  .leaf (!feq .f64 v295 v295)
  ) (
  .leaf false
  ))
  ) (
  (.br (feq .f64 v294 (0 : Nat)) (
  (.br (feq .f64 v295 (0 : Nat)) (
  .leaf ((fgrt .f64 (fdiv .f64 (4607182418800017408 : Nat) v294) (0 : Nat)) == (fgrt .f64 (fdiv .f64 (4607182418800017408 : Nat) v295) (0 : Nat)))
  ) (
  .leaf (feq .f64 v294 v295)
  ))
  ) (
  .leaf (feq .f64 v294 v295)
  ))
  ))
  ))

noncomputable def laws_sameFloat_g (v294 : Nat) (v295 : Nat) : Option (Bool) := (laws_sameFloat_T v294 v295).run
def laws_sameFloat_enc (v294 : Nat) (v295 : Nat) (y : Bool) : Rs := (.bool y, [])
theorem laws_sameFloat_den (v294 : Nat) (v295 : Nat) : (den TT (tabD laws_sameFloat_tab) (tabM laws_sameFloat_tab) (laws_sameFloat_LO v294 v295) (codeOf Try.f119) ([.flt .f64 v294, .flt .f64 v295] ++ List.replicate (Try.f119.ntmps - ([.flt .f64 v294, .flt .f64 v295] : List DV).length) .undef) []).bind (retD TT Try.f119.results.toList 0) = (laws_sameFloat_T v294 v295).bind fun y => .leaf (laws_sameFloat_enc v294 v295 y) := by kernel_rfl
theorem laws_sameFloat_fn (v294 : Nat) (v295 : Nat) (F : Fr) (h0 : St F [] F.H0) (hA : DVs.Ok F [] [.flt .f64 v294, .flt .f64 v295]) {y : Bool} (hy : laws_sameFloat_g v294 v295 = some y) : ∃ F' H', Fwd 0 F F' [] (laws_sameFloat_enc v294 v295 y).2 ∧ FnOk Try.prog 119 (DVs.av F [.flt .f64 v294, .flt .f64 v295]) F.H0 ((laws_sameFloat_enc v294 v295 y).1.av F') H' ∧ St F' (laws_sameFloat_enc v294 v295 y).2 H' ∧ (laws_sameFloat_enc v294 v295 y).1.Ok F' (laws_sameFloat_enc v294 v295 y).2 :=
  fn_fin tok laws_sameFloat_hO mixed Try.func119 Try.call119 (by kernel_rfl) (LoopsOk_eq (l := []) (by kernel_rfl) trivial) (laws_sameFloat_den v294 v295) hy h0 hA
def laws_sameFloat_v (v294 : Nat) (v295 : Nat) : Bool :=
  if (!feq .f64 v294 v294) = true then (
  if (!feq .f64 v294 v294) = true then (
  !feq .f64 v295 v295
  ) else (
  false
  )
  ) else (
  if (!feq .f64 v295 v295) = true then (
  if (!feq .f64 v294 v294) = true then (
  !feq .f64 v295 v295
  ) else (
  false
  )
  ) else (
  if (feq .f64 v294 (0 : Nat)) = true then (
  if (feq .f64 v295 (0 : Nat)) = true then (
  (fgrt .f64 (fdiv .f64 (4607182418800017408 : Nat) v294) (0 : Nat)) == (fgrt .f64 (fdiv .f64 (4607182418800017408 : Nat) v295) (0 : Nat))
  ) else (
  feq .f64 v294 v295
  )
  ) else (
  feq .f64 v294 v295
  )
  )
  )
theorem laws_sameFloat_tot (v294 : Nat) (v295 : Nat) : laws_sameFloat_g v294 v295 = some (laws_sameFloat_v v294 v295) := by
  unfold laws_sameFloat_g laws_sameFloat_T laws_sameFloat_v
  simp only [Tree.run]
  repeat' (first | rfl | split)
noncomputable def laws_sameFloat_F : DFn := fun args L =>
  match args with
  | [.flt .f64 v294, .flt .f64 v295] =>
    .leaf (.bool (laws_sameFloat_v v294 v295), L)
  | _ => .fail
theorem laws_sameFloat_Fok : COk Try.prog 119 laws_sameFloat_F true := by
  intro F L H args r L' hs ha hr
  unfold laws_sameFloat_F at hr
  split at hr
  · rename_i v294 v295
    have hy := laws_sameFloat_tot v294 v295
    generalize laws_sameFloat_v v294 v295 = y at hy hr
    simp only [Tree.run, Option.some.injEq, Prod.mk.injEq] at hr
    obtain ⟨rfl, rfl⟩ := hr
    exact call_ok0 hs (fun k => (([] : List AV)[k]?).getD .top) [.flt .f64 v294, .flt .f64 v295] [.flt .f64 v294, .flt .f64 v295] (fun F' h0 hi hρ => ⟨by simp [DVs.av, DV.av, BR.av, hρ], laws_sameFloat_fn v294 v295 F' (st_nil hi) ⟨trivial, trivial, trivial⟩ hy⟩) rfl
  · cases hr
/-! laws.eqFloat32S -/
noncomputable def laws_eqFloat32S_l0_T (v291 : List Nat) (v292 : List Nat) (s : Int) : Tree ((Int) ⊕ ((Unit) ⊕ (Unit))) :=
  (.br (decide (s < ((v291.length : Nat) : Int))) (
  (.grd (inb s v291.length) <|
  (.grd (inb s v292.length) <|
  (.br (!(laws_sameFloat_v (wid (nth v291 (Int.toNat s))) (wid (nth v292 (Int.toNat s))))) (
  .leaf (.inr (.inl ()))
  ) (
  .leaf (.inl (IntKind.i64.wrap (s + (1 : Int))))
  ))))
  ) (
  .leaf (.inr (.inr ()))
  ))

noncomputable def laws_eqFloat32S_l0_g (v291 : List Nat) (v292 : List Nat) (s0 : Int) : Option ((Unit) ⊕ (Unit)) := whileM (fun s => (laws_eqFloat32S_l0_T v291 v292 s).run) s0
def laws_eqFloat32S_l0_E (v291 : List Nat) (v292 : List Nat) (s : Int) : Sd := ([.bslc (BR.root 0) (.f32 v291),.bslc (BR.root 1) (.f32 v292),tp,tp,tp,.int .i64 s,tp,tp,tp,tp,tp,tp,tp,tp,tp,tp,tp,tp,tp,tp,tp,tp,tp,tp,tp,tp,tp,tp,tp], [])
def laws_eqFloat32S_l0_X (v291 : List Nat) (v292 : List Nat) (x : (Unit) ⊕ (Unit)) : Out := (match x with | .inl x => (.ret, [tp,tp,tp,tp,.lit false,tp,tp,tp,tp,tp,tp,tp,tp,tp,tp,tp,tp,tp,tp,tp,tp,tp,tp,tp,tp,tp,tp,tp,tp], []) | .inr x => (.normal, [tp,tp,tp,tp,tp,tp,tp,tp,tp,tp,tp,tp,tp,tp,tp,tp,tp,tp,tp,tp,tp,tp,tp,tp,tp,tp,tp,tp,tp], []))
def laws_eqFloat32S_l0_kill : List Nat := KL true [0,2,3,1,23]
def laws_eqFloat32S_l0_nx : Exit → List Nat
  | .exit 0 => KL true [29]
  | .ret => KL true [4,1,24]
  | _ => []
noncomputable def laws_eqFloat32S_LO (v291 : List Nat) (v292 : List Nat) : LOr := fun id e L =>
  match id with
  | 0 => .need (normA 0 laws_eqFloat32S_l0_kill e L = some (laws_eqFloat32S_l0_E v291 v292 (gI (vAt e 5)))) (.call (laws_eqFloat32S_l0_g v291 v292 (gI (vAt e 5))) fun x => .sum x (fun b0 => .leaf (laws_eqFloat32S_l0_X v291 v292 (.inl b0))) (fun c0 => .leaf (laws_eqFloat32S_l0_X v291 v292 (.inr c0))))
  | _ => .fail
noncomputable def laws_eqFloat32S_tab : List (FuncId × DFn × Bool) := [(119, laws_sameFloat_F, true)]
theorem laws_eqFloat32S_hO : OrcOk Try.prog (tabD laws_eqFloat32S_tab) (tabM laws_eqFloat32S_tab) := tabD_cons laws_sameFloat_Fok (tabD_nil _)
theorem laws_eqFloat32S_l0_be (v291 : List Nat) (v292 : List Nat) (s : Int) : bodyT TT (tabD laws_eqFloat32S_tab) (tabM laws_eqFloat32S_tab) (laws_eqFloat32S_LO v291 v292) 0 laws_eqFloat32S_l0_kill laws_eqFloat32S_l0_nx (bodyOf Try.f49 0) 0 (laws_eqFloat32S_l0_E v291 v292 s) = (laws_eqFloat32S_l0_T v291 v292 s).bind fun y => .leaf (outS (laws_eqFloat32S_l0_E v291 v292) (laws_eqFloat32S_l0_X v291 v292) y) := by kernel_rfl
theorem laws_eqFloat32S_l0_ok (v291 : List Nat) (v292 : List Nat) : LSound Try.prog 0 (laws_eqFloat32S_LO v291 v292) 0 (bodyOf Try.f49 0) := by
  intro e L out h
  exact lo_ok (E := laws_eqFloat32S_l0_E v291 v292) (gT := laws_eqFloat32S_l0_T v291 v292) (X := laws_eqFloat32S_l0_X v291 v292) (s0 := (gI (vAt e 5))) tok laws_eqFloat32S_hO mixed (LoopsOk_eq (l := []) (by kernel_rfl) trivial) (laws_eqFloat32S_l0_be v291 v292) rfl (by intro x; (cases x with | inl b => rfl | inr x => exact rfl)) h
noncomputable def laws_eqFloat32S_T (v291 : List Nat) (v292 : List Nat) : Tree (Bool) :=
  (.br (!decide (((v291.length : Nat) : Int) = ((v292.length : Nat) : Int))) (
  .leaf false
  ) (
  (.need (some (laws_eqFloat32S_l0_E v291 v292 (0 : Int)) = some (laws_eqFloat32S_l0_E v291 v292 (0 : Int))) <|
  (.call (laws_eqFloat32S_l0_g v291 v292 (0 : Int)) fun v298 =>
  (.sum v298 (fun v299 =>
  .leaf false
  ) (fun v300 =>
  .leaf true
  ))))
  ))

noncomputable def laws_eqFloat32S_g (v291 : List Nat) (v292 : List Nat) : Option (Bool) := (laws_eqFloat32S_T v291 v292).run
def laws_eqFloat32S_enc (v291 : List Nat) (v292 : List Nat) (y : Bool) : Rs := (.bool y, [])
theorem laws_eqFloat32S_den (v291 : List Nat) (v292 : List Nat) : (den TT (tabD laws_eqFloat32S_tab) (tabM laws_eqFloat32S_tab) (laws_eqFloat32S_LO v291 v292) (codeOf Try.f49) ([.bslc (BR.root 0) (.f32 v291), .bslc (BR.root 1) (.f32 v292)] ++ List.replicate (Try.f49.ntmps - ([.bslc (BR.root 0) (.f32 v291), .bslc (BR.root 1) (.f32 v292)] : List DV).length) .undef) []).bind (retD TT Try.f49.results.toList 0) = (laws_eqFloat32S_T v291 v292).bind fun y => .leaf (laws_eqFloat32S_enc v291 v292 y) := by kernel_rfl
theorem laws_eqFloat32S_fn (v291 : List Nat) (v292 : List Nat) (F : Fr) (h0 : St F [] F.H0) (hA : DVs.Ok F [] [.bslc (BR.root 0) (.f32 v291), .bslc (BR.root 1) (.f32 v292)]) {y : Bool} (hy : laws_eqFloat32S_g v291 v292 = some y) : ∃ F' H', Fwd 0 F F' [] (laws_eqFloat32S_enc v291 v292 y).2 ∧ FnOk Try.prog 49 (DVs.av F [.bslc (BR.root 0) (.f32 v291), .bslc (BR.root 1) (.f32 v292)]) F.H0 ((laws_eqFloat32S_enc v291 v292 y).1.av F') H' ∧ St F' (laws_eqFloat32S_enc v291 v292 y).2 H' ∧ (laws_eqFloat32S_enc v291 v292 y).1.Ok F' (laws_eqFloat32S_enc v291 v292 y).2 :=
  fn_fin tok laws_eqFloat32S_hO mixed Try.func49 Try.call49 (by kernel_rfl) (LoopsOk_eq (l := [(0, bodyOf Try.f49 0)]) (by kernel_rfl) ⟨laws_eqFloat32S_l0_ok v291 v292, trivial⟩) (laws_eqFloat32S_den v291 v292) hy h0 hA
noncomputable def laws_eqFloat32S_F : DFn := fun args L =>
  match args with
  | [a1, a2] =>
    optT (rowF32 L a1) fun v291 =>
    optT (rowF32 L a2) fun v292 =>
    .call (laws_eqFloat32S_g v291 v292) fun y => .leaf (.bool y, L)
  | _ => .fail
theorem laws_eqFloat32S_Fok : COk Try.prog 49 laws_eqFloat32S_F true := by
  intro F L H args r L' hs ha hr
  unfold laws_eqFloat32S_F at hr
  split at hr
  · rename_i a1 a2
    obtain ⟨v291, hv291, hr⟩ := optT_run hr
    obtain ⟨v292, hv292, hr⟩ := optT_run hr
    simp only [Tree.run] at hr
    obtain ⟨y, hy, hr⟩ := Option.bind_eq_some_iff.1 hr
    simp only [Tree.run, Option.some.injEq, Prod.mk.injEq] at hr
    obtain ⟨rfl, rfl⟩ := hr
    exact call_ok0 hs (fun k => (([a1.av F, a2.av F] : List AV)[k]?).getD .top) [a1, a2] [.bslc (BR.root 0) (.f32 v291), .bslc (BR.root 1) (.f32 v292)] (fun F' h0 hi hρ => ⟨by simp [DVs.av, DV.av, BR.av, hρ], laws_eqFloat32S_fn v291 v292 F' (st_nil hi) ⟨bslc_ok hi (by rw [h0, hρ]; exact rowF32_ok hs (DVs.okAt ha 0 rfl) hv291), bslc_ok hi (by rw [h0, hρ]; exact rowF32_ok hs (DVs.okAt ha 1 rfl) hv292), trivial⟩ hy⟩) rfl
  · cases hr
/-! laws.eqThirds -/
noncomputable def laws_eqThirds_LO (v285 : List Nat) (v286 : List Nat) (v287 : List Nat) (v288 : List Nat) (v289 : List Nat) (v290 : List Nat) : LOr := fun id e L =>
  match id with
  | _ => .fail
noncomputable def laws_eqThirds_tab : List (FuncId × DFn × Bool) := [(49, laws_eqFloat32S_F, true)]
theorem laws_eqThirds_hO : OrcOk Try.prog (tabD laws_eqThirds_tab) (tabM laws_eqThirds_tab) := tabD_cons laws_eqFloat32S_Fok (tabD_nil _)
noncomputable def laws_eqThirds_T (v285 : List Nat) (v286 : List Nat) (v287 : List Nat) (v288 : List Nat) (v289 : List Nat) (v290 : List Nat) : Tree (Bool) :=
  (.call (laws_eqFloat32S_g v285 v288) fun v301 =>
  (.br (!v301) (
  .leaf false
  ) (
  (.call (laws_eqFloat32S_g v286 v289) fun v302 =>
  (.br (!v302) (
  .leaf false
  ) (
  (.call (laws_eqFloat32S_g v287 v290) fun v303 =>
  (.br (!v303) (
  .leaf false
  ) (
  .leaf true
  )))
  )))
  )))

noncomputable def laws_eqThirds_g (v285 : List Nat) (v286 : List Nat) (v287 : List Nat) (v288 : List Nat) (v289 : List Nat) (v290 : List Nat) : Option (Bool) := (laws_eqThirds_T v285 v286 v287 v288 v289 v290).run
def laws_eqThirds_enc (v285 : List Nat) (v286 : List Nat) (v287 : List Nat) (v288 : List Nat) (v289 : List Nat) (v290 : List Nat) (y : Bool) : Rs := (.bool y, [])
theorem laws_eqThirds_den (v285 : List Nat) (v286 : List Nat) (v287 : List Nat) (v288 : List Nat) (v289 : List Nat) (v290 : List Nat) : (den TT (tabD laws_eqThirds_tab) (tabM laws_eqThirds_tab) (laws_eqThirds_LO v285 v286 v287 v288 v289 v290) (codeOf Try.f118) ([.agg [.bslc (BR.root 0) (.f32 v285), .bslc (BR.root 1) (.f32 v286), .bslc (BR.root 2) (.f32 v287)], .agg [.bslc (BR.root 3) (.f32 v288), .bslc (BR.root 4) (.f32 v289), .bslc (BR.root 5) (.f32 v290)]] ++ List.replicate (Try.f118.ntmps - ([.agg [.bslc (BR.root 0) (.f32 v285), .bslc (BR.root 1) (.f32 v286), .bslc (BR.root 2) (.f32 v287)], .agg [.bslc (BR.root 3) (.f32 v288), .bslc (BR.root 4) (.f32 v289), .bslc (BR.root 5) (.f32 v290)]] : List DV).length) .undef) []).bind (retD TT Try.f118.results.toList 0) = (laws_eqThirds_T v285 v286 v287 v288 v289 v290).bind fun y => .leaf (laws_eqThirds_enc v285 v286 v287 v288 v289 v290 y) := by kernel_rfl
theorem laws_eqThirds_fn (v285 : List Nat) (v286 : List Nat) (v287 : List Nat) (v288 : List Nat) (v289 : List Nat) (v290 : List Nat) (F : Fr) (h0 : St F [] F.H0) (hA : DVs.Ok F [] [.agg [.bslc (BR.root 0) (.f32 v285), .bslc (BR.root 1) (.f32 v286), .bslc (BR.root 2) (.f32 v287)], .agg [.bslc (BR.root 3) (.f32 v288), .bslc (BR.root 4) (.f32 v289), .bslc (BR.root 5) (.f32 v290)]]) {y : Bool} (hy : laws_eqThirds_g v285 v286 v287 v288 v289 v290 = some y) : ∃ F' H', Fwd 0 F F' [] (laws_eqThirds_enc v285 v286 v287 v288 v289 v290 y).2 ∧ FnOk Try.prog 118 (DVs.av F [.agg [.bslc (BR.root 0) (.f32 v285), .bslc (BR.root 1) (.f32 v286), .bslc (BR.root 2) (.f32 v287)], .agg [.bslc (BR.root 3) (.f32 v288), .bslc (BR.root 4) (.f32 v289), .bslc (BR.root 5) (.f32 v290)]]) F.H0 ((laws_eqThirds_enc v285 v286 v287 v288 v289 v290 y).1.av F') H' ∧ St F' (laws_eqThirds_enc v285 v286 v287 v288 v289 v290 y).2 H' ∧ (laws_eqThirds_enc v285 v286 v287 v288 v289 v290 y).1.Ok F' (laws_eqThirds_enc v285 v286 v287 v288 v289 v290 y).2 :=
  fn_fin tok laws_eqThirds_hO mixed Try.func118 Try.call118 (by kernel_rfl) (LoopsOk_eq (l := []) (by kernel_rfl) trivial) (laws_eqThirds_den v285 v286 v287 v288 v289 v290) hy h0 hA
noncomputable def laws_eqThirds_F : DFn := fun args L =>
  match args with
  | [.agg [a1, a2, a3], .agg [a4, a5, a6]] =>
    optT (rowF32 L a1) fun v285 =>
    optT (rowF32 L a2) fun v286 =>
    optT (rowF32 L a3) fun v287 =>
    optT (rowF32 L a4) fun v288 =>
    optT (rowF32 L a5) fun v289 =>
    optT (rowF32 L a6) fun v290 =>
    .call (laws_eqThirds_g v285 v286 v287 v288 v289 v290) fun y => .leaf (.bool y, L)
  | _ => .fail
theorem laws_eqThirds_Fok : COk Try.prog 118 laws_eqThirds_F true := by
  intro F L H args r L' hs ha hr
  unfold laws_eqThirds_F at hr
  split at hr
  · rename_i a1 a2 a3 a4 a5 a6
    obtain ⟨v285, hv285, hr⟩ := optT_run hr
    obtain ⟨v286, hv286, hr⟩ := optT_run hr
    obtain ⟨v287, hv287, hr⟩ := optT_run hr
    obtain ⟨v288, hv288, hr⟩ := optT_run hr
    obtain ⟨v289, hv289, hr⟩ := optT_run hr
    obtain ⟨v290, hv290, hr⟩ := optT_run hr
    simp only [Tree.run] at hr
    obtain ⟨y, hy, hr⟩ := Option.bind_eq_some_iff.1 hr
    simp only [Tree.run, Option.some.injEq, Prod.mk.injEq] at hr
    obtain ⟨rfl, rfl⟩ := hr
    exact call_ok0 hs (fun k => (([a1.av F, a2.av F, a3.av F, a4.av F, a5.av F, a6.av F] : List AV)[k]?).getD .top) [.agg [a1, a2, a3], .agg [a4, a5, a6]] [.agg [.bslc (BR.root 0) (.f32 v285), .bslc (BR.root 1) (.f32 v286), .bslc (BR.root 2) (.f32 v287)], .agg [.bslc (BR.root 3) (.f32 v288), .bslc (BR.root 4) (.f32 v289), .bslc (BR.root 5) (.f32 v290)]] (fun F' h0 hi hρ => ⟨by simp [DVs.av, DV.av, BR.av, hρ], laws_eqThirds_fn v285 v286 v287 v288 v289 v290 F' (st_nil hi) ⟨⟨bslc_ok hi (by rw [h0, hρ]; exact rowF32_ok hs (DVs.okAt (DVs.okAt ha 0 rfl) 0 rfl) hv285), bslc_ok hi (by rw [h0, hρ]; exact rowF32_ok hs (DVs.okAt (DVs.okAt ha 0 rfl) 1 rfl) hv286), bslc_ok hi (by rw [h0, hρ]; exact rowF32_ok hs (DVs.okAt (DVs.okAt ha 0 rfl) 2 rfl) hv287), trivial⟩, ⟨bslc_ok hi (by rw [h0, hρ]; exact rowF32_ok hs (DVs.okAt (DVs.okAt ha 1 rfl) 0 rfl) hv288), bslc_ok hi (by rw [h0, hρ]; exact rowF32_ok hs (DVs.okAt (DVs.okAt ha 1 rfl) 1 rfl) hv289), bslc_ok hi (by rw [h0, hρ]; exact rowF32_ok hs (DVs.okAt (DVs.okAt ha 1 rfl) 2 rfl) hv290), trivial⟩, trivial⟩ hy⟩) rfl
  · cases hr
/-! laws.eqThirdsS -/
noncomputable def laws_eqThirdsS_nst_l0_T (v272 : List (List Nat)) (v273 : List Nat) (v274 : List (List Nat)) (v275 : List Nat) (v276 : List (List Nat)) (v277 : List Nat) (v278 : List (List Nat)) (v279 : List Nat) (v280 : List (List Nat)) (v281 : List Nat) (v282 : List (List Nat)) (v283 : List Nat) (s : Int) : Tree ((Int) ⊕ ((Unit) ⊕ (Unit))) :=
  (.br (decide (s < (((v273).length : Nat) : Int))) (
  (.grd (inb s ((v273).length)) <|
  (.grd (inb s ((v279).length)) <|
  (.call (laws_eqThirds_g (nget v272 (nth v273 (Int.toNat s))) (nget v274 (nth v275 (Int.toNat s))) (nget v276 (nth v277 (Int.toNat s))) (nget v278 (nth v279 (Int.toNat s))) (nget v280 (nth v281 (Int.toNat s))) (nget v282 (nth v283 (Int.toNat s)))) fun v308 =>
  (.br (!v308) (
  .leaf (.inr (.inl ()))
  ) (
  .leaf (.inl (IntKind.i64.wrap (s + (1 : Int))))
  )))))
  ) (
  .leaf (.inr (.inr ()))
  ))

noncomputable def laws_eqThirdsS_nst_l0_g (v272 : List (List Nat)) (v273 : List Nat) (v274 : List (List Nat)) (v275 : List Nat) (v276 : List (List Nat)) (v277 : List Nat) (v278 : List (List Nat)) (v279 : List Nat) (v280 : List (List Nat)) (v281 : List Nat) (v282 : List (List Nat)) (v283 : List Nat) (s0 : Int) : Option ((Unit) ⊕ (Unit)) := whileM (fun s => (laws_eqThirdsS_nst_l0_T v272 v273 v274 v275 v276 v277 v278 v279 v280 v281 v282 v283 s).run) s0
def laws_eqThirdsS_nst_l0_E (v272 : List (List Nat)) (v273 : List Nat) (v274 : List (List Nat)) (v275 : List Nat) (v276 : List (List Nat)) (v277 : List Nat) (v278 : List (List Nat)) (v279 : List Nat) (v280 : List (List Nat)) (v281 : List Nat) (v282 : List (List Nat)) (v283 : List Nat) (s : Int) : Sd := ([.nest 0 0 3 ((v273).length),.nest 1 0 3 ((v279).length),tp,tp,tp,.int .i64 s,tp,tp,tp,tp,tp,tp,tp,tp,tp,tp,tp,tp,tp,tp,tp,tp,tp,tp,tp,tp,tp], [.nest [.sl (.f32 v272) v273, .sl (.f32 v274) v275, .sl (.f32 v276) v277] false 0, .nest [.sl (.f32 v278) v279, .sl (.f32 v280) v281, .sl (.f32 v282) v283] false 0])
def laws_eqThirdsS_nst_l0_X (v272 : List (List Nat)) (v273 : List Nat) (v274 : List (List Nat)) (v275 : List Nat) (v276 : List (List Nat)) (v277 : List Nat) (v278 : List (List Nat)) (v279 : List Nat) (v280 : List (List Nat)) (v281 : List Nat) (v282 : List (List Nat)) (v283 : List Nat) (x : (Unit) ⊕ (Unit)) : Out := (match x with | .inl x => (.ret, [tp,tp,tp,tp,.lit false,tp,tp,tp,tp,tp,tp,tp,tp,tp,tp,tp,tp,tp,tp,tp,tp,tp,tp,tp,tp,tp,tp], [.nest [.sl (.f32 v272) v273, .sl (.f32 v274) v275, .sl (.f32 v276) v277] false 0, .nest [.sl (.f32 v278) v279, .sl (.f32 v280) v281, .sl (.f32 v282) v283] false 0]) | .inr x => (.normal, [tp,tp,tp,tp,tp,tp,tp,tp,tp,tp,tp,tp,tp,tp,tp,tp,tp,tp,tp,tp,tp,tp,tp,tp,tp,tp,tp], [.nest [.sl (.f32 v272) v273, .sl (.f32 v274) v275, .sl (.f32 v276) v277] false 0, .nest [.sl (.f32 v278) v279, .sl (.f32 v280) v281, .sl (.f32 v282) v283] false 0]))
def laws_eqThirdsS_nst_l0_kill : List Nat := KL true [0,2,3,1,21]
def laws_eqThirdsS_nst_l0_nx : Exit → List Nat
  | .exit 0 => KL true [27]
  | .ret => KL true [4,1,22]
  | _ => []
noncomputable def laws_eqThirdsS_nst_LO (v272 : List (List Nat)) (v273 : List Nat) (v274 : List (List Nat)) (v275 : List Nat) (v276 : List (List Nat)) (v277 : List Nat) (v278 : List (List Nat)) (v279 : List Nat) (v280 : List (List Nat)) (v281 : List Nat) (v282 : List (List Nat)) (v283 : List Nat) : LOr := fun id e L =>
  match id with
  | 0 => .need (normA 2 laws_eqThirdsS_nst_l0_kill e L = some (laws_eqThirdsS_nst_l0_E v272 v273 v274 v275 v276 v277 v278 v279 v280 v281 v282 v283 (gI (vAt e 5)))) (.call (laws_eqThirdsS_nst_l0_g v272 v273 v274 v275 v276 v277 v278 v279 v280 v281 v282 v283 (gI (vAt e 5))) fun x => .sum x (fun b0 => .leaf (laws_eqThirdsS_nst_l0_X v272 v273 v274 v275 v276 v277 v278 v279 v280 v281 v282 v283 (.inl b0))) (fun c0 => .leaf (laws_eqThirdsS_nst_l0_X v272 v273 v274 v275 v276 v277 v278 v279 v280 v281 v282 v283 (.inr c0))))
  | _ => .fail
noncomputable def laws_eqThirdsS_nst_tab : List (FuncId × DFn × Bool) := [(118, laws_eqThirds_F, true)]
theorem laws_eqThirdsS_nst_hO : OrcOk Try.prog (tabD laws_eqThirdsS_nst_tab) (tabM laws_eqThirdsS_nst_tab) := tabD_cons laws_eqThirds_Fok (tabD_nil _)
theorem laws_eqThirdsS_nst_l0_be (v272 : List (List Nat)) (v273 : List Nat) (v274 : List (List Nat)) (v275 : List Nat) (v276 : List (List Nat)) (v277 : List Nat) (v278 : List (List Nat)) (v279 : List Nat) (v280 : List (List Nat)) (v281 : List Nat) (v282 : List (List Nat)) (v283 : List Nat) (s : Int) : bodyT TT (tabD laws_eqThirdsS_nst_tab) (tabM laws_eqThirdsS_nst_tab) (laws_eqThirdsS_nst_LO v272 v273 v274 v275 v276 v277 v278 v279 v280 v281 v282 v283) 2 laws_eqThirdsS_nst_l0_kill laws_eqThirdsS_nst_l0_nx (bodyOf Try.f48 0) 0 (laws_eqThirdsS_nst_l0_E v272 v273 v274 v275 v276 v277 v278 v279 v280 v281 v282 v283 s) = (laws_eqThirdsS_nst_l0_T v272 v273 v274 v275 v276 v277 v278 v279 v280 v281 v282 v283 s).bind fun y => .leaf (outS (laws_eqThirdsS_nst_l0_E v272 v273 v274 v275 v276 v277 v278 v279 v280 v281 v282 v283) (laws_eqThirdsS_nst_l0_X v272 v273 v274 v275 v276 v277 v278 v279 v280 v281 v282 v283) y) := by kernel_rfl
theorem laws_eqThirdsS_nst_l0_ok (v272 : List (List Nat)) (v273 : List Nat) (v274 : List (List Nat)) (v275 : List Nat) (v276 : List (List Nat)) (v277 : List Nat) (v278 : List (List Nat)) (v279 : List Nat) (v280 : List (List Nat)) (v281 : List Nat) (v282 : List (List Nat)) (v283 : List Nat) : LSound Try.prog 2 (laws_eqThirdsS_nst_LO v272 v273 v274 v275 v276 v277 v278 v279 v280 v281 v282 v283) 0 (bodyOf Try.f48 0) := by
  intro e L out h
  exact lo_ok (E := laws_eqThirdsS_nst_l0_E v272 v273 v274 v275 v276 v277 v278 v279 v280 v281 v282 v283) (gT := laws_eqThirdsS_nst_l0_T v272 v273 v274 v275 v276 v277 v278 v279 v280 v281 v282 v283) (X := laws_eqThirdsS_nst_l0_X v272 v273 v274 v275 v276 v277 v278 v279 v280 v281 v282 v283) (s0 := (gI (vAt e 5))) tok laws_eqThirdsS_nst_hO mixed (LoopsOk_eq (l := []) (by kernel_rfl) trivial) (laws_eqThirdsS_nst_l0_be v272 v273 v274 v275 v276 v277 v278 v279 v280 v281 v282 v283) rfl (by intro x; (cases x with | inl b => rfl | inr x => exact rfl)) h
noncomputable def laws_eqThirdsS_nst_T (v272 : List (List Nat)) (v273 : List Nat) (v274 : List (List Nat)) (v275 : List Nat) (v276 : List (List Nat)) (v277 : List Nat) (v278 : List (List Nat)) (v279 : List Nat) (v280 : List (List Nat)) (v281 : List Nat) (v282 : List (List Nat)) (v283 : List Nat) : Tree (Bool) :=
  (.br (!decide ((((v273).length : Nat) : Int) = (((v279).length : Nat) : Int))) (
  .leaf false
  ) (
  (.need (some (laws_eqThirdsS_nst_l0_E v272 v273 v274 v275 v276 v277 v278 v279 v280 v281 v282 v283 (0 : Int)) = some (laws_eqThirdsS_nst_l0_E v272 v273 v274 v275 v276 v277 v278 v279 v280 v281 v282 v283 (0 : Int))) <|
  (.call (laws_eqThirdsS_nst_l0_g v272 v273 v274 v275 v276 v277 v278 v279 v280 v281 v282 v283 (0 : Int)) fun v309 =>
  (.sum v309 (fun v310 =>
  .leaf false
  ) (fun v311 =>
  .leaf true
  ))))
  ))

noncomputable def laws_eqThirdsS_nst_g (v272 : List (List Nat)) (v273 : List Nat) (v274 : List (List Nat)) (v275 : List Nat) (v276 : List (List Nat)) (v277 : List Nat) (v278 : List (List Nat)) (v279 : List Nat) (v280 : List (List Nat)) (v281 : List Nat) (v282 : List (List Nat)) (v283 : List Nat) : Option (Bool) := (laws_eqThirdsS_nst_T v272 v273 v274 v275 v276 v277 v278 v279 v280 v281 v282 v283).run
def laws_eqThirdsS_nst_enc (v272 : List (List Nat)) (v273 : List Nat) (v274 : List (List Nat)) (v275 : List Nat) (v276 : List (List Nat)) (v277 : List Nat) (v278 : List (List Nat)) (v279 : List Nat) (v280 : List (List Nat)) (v281 : List Nat) (v282 : List (List Nat)) (v283 : List Nat) (y : Bool) : Rs := (.bool y, [.nest [.sl (.f32 v272) v273, .sl (.f32 v274) v275, .sl (.f32 v276) v277] false 0, .nest [.sl (.f32 v278) v279, .sl (.f32 v280) v281, .sl (.f32 v282) v283] false 0])
theorem laws_eqThirdsS_nst_den (v272 : List (List Nat)) (v273 : List Nat) (v274 : List (List Nat)) (v275 : List Nat) (v276 : List (List Nat)) (v277 : List Nat) (v278 : List (List Nat)) (v279 : List Nat) (v280 : List (List Nat)) (v281 : List Nat) (v282 : List (List Nat)) (v283 : List Nat) : (den TT (tabD laws_eqThirdsS_nst_tab) (tabM laws_eqThirdsS_nst_tab) (laws_eqThirdsS_nst_LO v272 v273 v274 v275 v276 v277 v278 v279 v280 v281 v282 v283) (codeOf Try.f48) ([.nest 0 0 3 ((v273).length), .nest 1 0 3 ((v279).length)] ++ List.replicate (Try.f48.ntmps - ([.nest 0 0 3 ((v273).length), .nest 1 0 3 ((v279).length)] : List DV).length) .undef) [.nest [.sl (.f32 v272) v273, .sl (.f32 v274) v275, .sl (.f32 v276) v277] false 0, .nest [.sl (.f32 v278) v279, .sl (.f32 v280) v281, .sl (.f32 v282) v283] false 0]).bind (retD TT Try.f48.results.toList 2) = (laws_eqThirdsS_nst_T v272 v273 v274 v275 v276 v277 v278 v279 v280 v281 v282 v283).bind fun y => .leaf (laws_eqThirdsS_nst_enc v272 v273 v274 v275 v276 v277 v278 v279 v280 v281 v282 v283 y) := by kernel_rfl
theorem laws_eqThirdsS_nst_fn (v272 : List (List Nat)) (v273 : List Nat) (v274 : List (List Nat)) (v275 : List Nat) (v276 : List (List Nat)) (v277 : List Nat) (v278 : List (List Nat)) (v279 : List Nat) (v280 : List (List Nat)) (v281 : List Nat) (v282 : List (List Nat)) (v283 : List Nat) (F : Fr) (h0 : St F [.nest [.sl (.f32 v272) v273, .sl (.f32 v274) v275, .sl (.f32 v276) v277] false 0, .nest [.sl (.f32 v278) v279, .sl (.f32 v280) v281, .sl (.f32 v282) v283] false 0] F.H0) (hA : DVs.Ok F [.nest [.sl (.f32 v272) v273, .sl (.f32 v274) v275, .sl (.f32 v276) v277] false 0, .nest [.sl (.f32 v278) v279, .sl (.f32 v280) v281, .sl (.f32 v282) v283] false 0] [.nest 0 0 3 ((v273).length), .nest 1 0 3 ((v279).length)]) {y : Bool} (hy : laws_eqThirdsS_nst_g v272 v273 v274 v275 v276 v277 v278 v279 v280 v281 v282 v283 = some y) : ∃ F' H', Fwd 2 F F' [.nest [.sl (.f32 v272) v273, .sl (.f32 v274) v275, .sl (.f32 v276) v277] false 0, .nest [.sl (.f32 v278) v279, .sl (.f32 v280) v281, .sl (.f32 v282) v283] false 0] (laws_eqThirdsS_nst_enc v272 v273 v274 v275 v276 v277 v278 v279 v280 v281 v282 v283 y).2 ∧ FnOk Try.prog 48 (DVs.av F [.nest 0 0 3 ((v273).length), .nest 1 0 3 ((v279).length)]) F.H0 ((laws_eqThirdsS_nst_enc v272 v273 v274 v275 v276 v277 v278 v279 v280 v281 v282 v283 y).1.av F') H' ∧ St F' (laws_eqThirdsS_nst_enc v272 v273 v274 v275 v276 v277 v278 v279 v280 v281 v282 v283 y).2 H' ∧ (laws_eqThirdsS_nst_enc v272 v273 v274 v275 v276 v277 v278 v279 v280 v281 v282 v283 y).1.Ok F' (laws_eqThirdsS_nst_enc v272 v273 v274 v275 v276 v277 v278 v279 v280 v281 v282 v283 y).2 :=
  fn_fin tok laws_eqThirdsS_nst_hO mixed Try.func48 Try.call48 (by kernel_rfl) (LoopsOk_eq (l := [(0, bodyOf Try.f48 0)]) (by kernel_rfl) ⟨laws_eqThirdsS_nst_l0_ok v272 v273 v274 v275 v276 v277 v278 v279 v280 v281 v282 v283, trivial⟩) (laws_eqThirdsS_nst_den v272 v273 v274 v275 v276 v277 v278 v279 v280 v281 v282 v283) hy h0 hA
noncomputable def laws_eqThirdsS_nst_F : DFn := fun args L =>
  match args with
  | [a1, a2] =>
    optT (nestN L false 3 a1) fun qn0 =>
    (match qn0.2 with
    | [.sl (.f32 v272) v273, .sl (.f32 v274) v275, .sl (.f32 v276) v277] =>
    optT (nestN L false 3 a2) fun qn1 =>
    (match qn1.2 with
    | [.sl (.f32 v278) v279, .sl (.f32 v280) v281, .sl (.f32 v282) v283] =>
    (match sepB [qn0.1, qn1.1] [] with
    | true =>
    .call (laws_eqThirdsS_nst_g v272 v273 v274 v275 v276 v277 v278 v279 v280 v281 v282 v283) fun y => .grd (decide ((v273).length = (v273).length)) (.grd (decide ((v279).length = (v279).length)) (.leaf (.bool y, setB L [(qn0.1, .nest [.sl (.f32 v272) v273, .sl (.f32 v274) v275, .sl (.f32 v276) v277] false (verAt L qn0.1)), (qn1.1, .nest [.sl (.f32 v278) v279, .sl (.f32 v280) v281, .sl (.f32 v282) v283] false (verAt L qn1.1))] ++ [])))
    | false => .fail)
    | _ => .fail)
    | _ => .fail)
  | _ => .fail
theorem laws_eqThirdsS_nst_Fok : COk Try.prog 48 laws_eqThirdsS_nst_F false := by
  intro F L H args r L' hs ha hr
  unfold laws_eqThirdsS_nst_F at hr
  split at hr
  · rename_i a1 a2
    obtain ⟨⟨jn0, cn0⟩, hn0, hr⟩ := optT_run hr
    simp only at hr
    split at hr
    · rename_i v272 v273 v274 v275 v276 v277
      obtain ⟨hne0, hnu0, hnl0, hnv0, hnm0, hno0⟩ := nestN_spec hs (DVs.okAt ha 0 rfl) hn0
      obtain ⟨⟨jn1, cn1⟩, hn1, hr⟩ := optT_run hr
      simp only at hr
      split at hr
      · rename_i v278 v279 v280 v281 v282 v283
        obtain ⟨hne1, hnu1, hnl1, hnv1, hnm1, hno1⟩ := nestN_spec hs (DVs.okAt ha 1 rfl) hn1
        split at hr
        · rename_i hsep
          obtain ⟨hnd, hsepv⟩ := sepB_spec hsep
          simp only [Tree.run] at hr
          obtain ⟨y, hy, hr⟩ := Option.bind_eq_some_iff.1 hr
          try simp only [Tree.run] at hr
          obtain ⟨hl0, hr⟩ := ite_run hr
          obtain ⟨hl1, hr⟩ := ite_run hr
          simp only [Option.some.injEq, Prod.mk.injEq] at hr
          obtain ⟨rfl, rfl⟩ := hr
          exact mutG_ok hs [a1, a2] ⟨(DVs.okAt ha 0 rfl), (DVs.okAt ha 1 rfl), trivial⟩ [a1, a2] [.nest 0 0 3 ((v273).length), .nest 1 0 3 ((v279).length)] [jn0, jn1] [verAt L jn0, verAt L jn1] [.nest [.sl (.f32 v272) v273, .sl (.f32 v274) v275, .sl (.f32 v276) v277] false 0, .nest [.sl (.f32 v278) v279, .sl (.f32 v280) v281, .sl (.f32 v282) v283] false 0] [.nest [.sl (.f32 v272) v273, .sl (.f32 v274) v275, .sl (.f32 v276) v277] false 0, .nest [.sl (.f32 v278) v279, .sl (.f32 v280) v281, .sl (.f32 v282) v283] false 0] [.nest [.sl (.f32 v272) v273, .sl (.f32 v274) v275, .sl (.f32 v276) v277] false (verAt L jn0), .nest [.sl (.f32 v278) v279, .sl (.f32 v280) v281, .sl (.f32 v282) v283] false (verAt L jn1)] [] hnd rfl rfl (fun j hj => by
              simp at hj
              rcases hj with rfl | rfl
              · exact ex_nest hne0
              · exact ex_nest hne1) (fun j hj => by
              simp at hj
              rcases hj with rfl | rfl
              · exact reach_refs (by simp [DVs.refs, DV.refs, hnu0])
              · exact reach_refs (by simp [DVs.refs, DV.refs, hnu1])) (fun F' h0 hρ ab hpl hS => by
              have ab0 := ab 0 _ rfl; have ab1 := ab 1 _ rfl;
              have hnx0 : a1.av F = (.nest 0 0 3 ((v273).length) : DV).av F' := nestN_av (hpl 0 _ rfl) hnv0
              have hnx1 : a2.av F = (.nest 1 0 3 ((v279).length) : DV).av F' := nestN_av (hpl 1 _ rfl) hnv1
              refine ⟨fun i j b' h1 h2 => ?_, by simp [DBlk.blk, DVs.av, DV.av, BR.av, hρ, Row.len, hnx0, hnx1, ab0, ab0, ab1, ab1], fun hst => laws_eqThirdsS_nst_fn v272 v273 v274 v275 v276 v277 v278 v279 v280 v281 v282 v283 F' hst ⟨(nest_ok0 (i := 0) rfl rfl hnm0), (nest_ok0 (i := 1) rfl rfl hnm1), trivial⟩ hy⟩
              rcases i with _ | _ | i
              · simp at h1 h2; subst h1; subst h2; obtain ⟨ver_, hv_⟩ := hne0; exact ⟨_, hv_, .nest _ _ _ _, nest_blk (hpl 0 _ rfl) _ _ _ _, hno0 _ _⟩
              · simp at h1 h2; subst h1; subst h2; obtain ⟨ver_, hv_⟩ := hne1; exact ⟨_, hv_, .nest _ _ _ _, nest_blk (hpl 1 _ rfl) _ _ _ _, hno1 _ _⟩
              · simp at h1) rfl rfl (fun i j b b' h1 h2 h3 => by
              rcases i with _ | _ | i
              · simp at h1; subst h1; cases h3; exact growN hne0 (by first | exact of_decide_eq_true hl0 | rfl) rfl h2
              · simp at h1; subst h1; cases h3; exact growN hne1 (by first | exact of_decide_eq_true hl1 | rfl) rfl h2
              · simp at h1)
        · cases hr
      · cases hr
    · cases hr
  · cases hr
/-! laws.markFloat32S -/
noncomputable def laws_markFloat32S_l0_T (s : Int × Int × (List Nat)) : Tree ((Int × Int × (List Nat)) ⊕ (Int × (List Nat))) :=
  (.br (decide (s.2.1 < (((s.2.2).length : Nat) : Int))) (
  (.grd (inb s.2.1 ((s.2.2).length)) <|
  .leaf (.inl (IntKind.i64.wrap (s.1 + (1 : Int)), IntKind.i64.wrap (s.2.1 + (1 : Int)), List.set s.2.2 (Int.toNat s.2.1) (fofint .f32 s.1))))
  ) (
  .leaf (.inr (s.1, s.2.2))
  ))

noncomputable def laws_markFloat32S_l0_g (s0 : Int × Int × (List Nat)) : Option (Int × (List Nat)) := whileM (fun s => (laws_markFloat32S_l0_T s).run) s0
def laws_markFloat32S_l0_E (v328 : List Nat) (v329 : Int) (s : Int × Int × (List Nat)) : Sd := ([.own 0 0 ((s.2.2).length),.int .i64 s.1,tp,tp,tp,.int .i64 s.2.1,tp,tp,tp,tp,tp,tp,tp,tp,tp,tp,tp,tp,tp,tp], [.row (.f32 s.2.2) 0])
def laws_markFloat32S_l0_X (v328 : List Nat) (v329 : Int) (x : Int × (List Nat)) : Out := (.normal, [tp,.int .i64 x.1,tp,tp,tp,tp,tp,tp,tp,tp,tp,tp,tp,tp,tp,tp,tp,tp,tp,tp], [.row (.f32 x.2) 0])
def laws_markFloat32S_l0_kill : List Nat := KL true [0,2,3,1,14]
def laws_markFloat32S_l0_nx : Exit → List Nat
  | .exit 0 => KL true [1,1,18]
  | .ret => KL true [4,1,15]
  | _ => []
noncomputable def laws_markFloat32S_LO (v328 : List Nat) (v329 : Int) : LOr := fun id e L =>
  match id with
  | 0 => .need (normA 1 laws_markFloat32S_l0_kill e L = some (laws_markFloat32S_l0_E v328 v329 ((gI (vAt e 1)), (gI (vAt e 5)), (gRF L (vAt e 0))))) (.call (laws_markFloat32S_l0_g ((gI (vAt e 1)), (gI (vAt e 5)), (gRF L (vAt e 0)))) fun x => .leaf (laws_markFloat32S_l0_X v328 v329 x))
  | _ => .fail
noncomputable def laws_markFloat32S_tab : List (FuncId × DFn × Bool) := []
theorem laws_markFloat32S_hO : OrcOk Try.prog (tabD laws_markFloat32S_tab) (tabM laws_markFloat32S_tab) := tabD_nil _
theorem laws_markFloat32S_l0_be (v328 : List Nat) (v329 : Int) (s : Int × Int × (List Nat)) : bodyT TT (tabD laws_markFloat32S_tab) (tabM laws_markFloat32S_tab) (laws_markFloat32S_LO v328 v329) 1 laws_markFloat32S_l0_kill laws_markFloat32S_l0_nx (bodyOf Try.f51 0) 0 (laws_markFloat32S_l0_E v328 v329 s) = (laws_markFloat32S_l0_T s).bind fun y => .leaf (outS (laws_markFloat32S_l0_E v328 v329) (laws_markFloat32S_l0_X v328 v329) y) := by kernel_rfl
theorem laws_markFloat32S_l0_ok (v328 : List Nat) (v329 : Int) : LSound Try.prog 1 (laws_markFloat32S_LO v328 v329) 0 (bodyOf Try.f51 0) := by
  intro e L out h
  exact lo_ok (E := laws_markFloat32S_l0_E v328 v329) (gT := laws_markFloat32S_l0_T) (X := laws_markFloat32S_l0_X v328 v329) (s0 := ((gI (vAt e 1)), (gI (vAt e 5)), (gRF L (vAt e 0)))) tok laws_markFloat32S_hO mixed (LoopsOk_eq (l := []) (by kernel_rfl) trivial) (laws_markFloat32S_l0_be v328 v329) rfl (by intro x; rfl) h
noncomputable def laws_markFloat32S_T (v328 : List Nat) (v329 : Int) : Tree (Int × (List Nat)) :=
  (.need (some (laws_markFloat32S_l0_E v328 v329 (v329, (0 : Int), v328)) = some (laws_markFloat32S_l0_E v328 v329 (v329, (0 : Int), v328))) <|
  (.call (laws_markFloat32S_l0_g (v329, (0 : Int), v328)) fun v338 =>
  .leaf (v338.1, v338.2)))

noncomputable def laws_markFloat32S_g (v328 : List Nat) (v329 : Int) : Option (Int × (List Nat)) := (laws_markFloat32S_T v328 v329).run
def laws_markFloat32S_enc (v328 : List Nat) (v329 : Int) (y : Int × (List Nat)) : Rs := (.int .i64 y.1, [.row (.f32 y.2) 0])
theorem laws_markFloat32S_den (v328 : List Nat) (v329 : Int) : (den TT (tabD laws_markFloat32S_tab) (tabM laws_markFloat32S_tab) (laws_markFloat32S_LO v328 v329) (codeOf Try.f51) ([.own 0 0 v328.length, .int .i64 v329] ++ List.replicate (Try.f51.ntmps - ([.own 0 0 v328.length, .int .i64 v329] : List DV).length) .undef) [.row (.f32 v328) 0]).bind (retD TT Try.f51.results.toList 1) = (laws_markFloat32S_T v328 v329).bind fun y => .leaf (laws_markFloat32S_enc v328 v329 y) := by kernel_rfl
theorem laws_markFloat32S_fn (v328 : List Nat) (v329 : Int) (F : Fr) (h0 : St F [.row (.f32 v328) 0] F.H0) (hA : DVs.Ok F [.row (.f32 v328) 0] [.own 0 0 v328.length, .int .i64 v329]) {y : Int × (List Nat)} (hy : laws_markFloat32S_g v328 v329 = some y) : ∃ F' H', Fwd 1 F F' [.row (.f32 v328) 0] (laws_markFloat32S_enc v328 v329 y).2 ∧ FnOk Try.prog 51 (DVs.av F [.own 0 0 v328.length, .int .i64 v329]) F.H0 ((laws_markFloat32S_enc v328 v329 y).1.av F') H' ∧ St F' (laws_markFloat32S_enc v328 v329 y).2 H' ∧ (laws_markFloat32S_enc v328 v329 y).1.Ok F' (laws_markFloat32S_enc v328 v329 y).2 :=
  fn_fin tok laws_markFloat32S_hO mixed Try.func51 Try.call51 (by kernel_rfl) (LoopsOk_eq (l := [(0, bodyOf Try.f51 0)]) (by kernel_rfl) ⟨laws_markFloat32S_l0_ok v328 v329, trivial⟩) (laws_markFloat32S_den v328 v329) hy h0 hA
noncomputable def laws_markFloat32S_F : DFn := fun args L =>
  match args with
  | [a1, .int .i64 v329] =>
    optT (ownF32 L a1) fun qv328 =>
    (match sepB [qv328.1] [] with
    | true =>
    .call (laws_markFloat32S_g qv328.2 v329) fun y => .grd (decide (y.2.length = qv328.2.length)) (.leaf (.int .i64 y.1, setRows L ([qv328.1].zip [.f32 y.2])))
    | false => .fail)
  | _ => .fail
theorem laws_markFloat32S_Fok : COk Try.prog 51 laws_markFloat32S_F false := by
  intro F L H args r L' hs ha hr
  unfold laws_markFloat32S_F at hr
  split at hr
  · rename_i a1 v329
    obtain ⟨⟨jv328, v328⟩, hqv328, hr⟩ := optT_run hr
    simp only at hr
    split at hr
    · rename_i hsep
      obtain ⟨hnd, hsepv⟩ := sepB_spec hsep
      simp only [Tree.run] at hr
      obtain ⟨y, hy, hr⟩ := Option.bind_eq_some_iff.1 hr
      try simp only [Tree.run] at hr
      obtain ⟨hl0, hr⟩ := ite_run hr
      simp only [Option.some.injEq, Prod.mk.injEq] at hr
      obtain ⟨rfl, rfl⟩ := hr
      obtain ⟨hr0, hu0, ha0, hb0⟩ := (ownR_spec (DVs.okAt ha 0 rfl) (ownF32_or hqv328))
      exact mut_ok hs (fun k => (([a1.av F] : List AV)[k]?).getD .top) [a1, .int .i64 v329] [.own 0 0 v328.length, .int .i64 v329] [jv328] [.f32 v328] [.f32 y.2] hnd rfl rfl (fun i j q h1 h2 => by
          rcases i with _ | i
          · simp at h1 h2; subst h1; subst h2; exact hr0
          · simp at h1) (fun i q q' h1 h2 => by
          rcases i with _ | i
          · simp at h1 h2; subst h1; subst h2; first | exact of_decide_eq_true hl0 | rfl
          · simp at h1) (fun j hj => by simp at hj; subst hj; simp [DVs.refs, DV.refs, hu0]) (fun F' h0 hρ ab hst hS => ⟨by (have ab0 := ab 0 _ rfl; simp [DVs.av, DV.av, BR.av, hρ, Row.len, ha0, ab0]), by
          obtain ⟨F1, H1, k0, k1, k2, _⟩ := laws_markFloat32S_fn v328 v329 F' hst ⟨⟨_, rfl, Nat.le_refl _, Nat.le_refl _, fun _ => rfl, (ownR_spec (DVs.okAt ha 0 rfl) (ownF32_or hqv328)).2.2.2⟩, trivial, trivial⟩ hy
          exact ⟨F1, H1, k0, k1, k2⟩⟩) (fun F1 F2 => rfl) (fun F L' => trivial)
    · cases hr
  · cases hr
/-! laws.markFloat32S -/
noncomputable def laws_markFloat32S_nst_l0_T (v345 : Nat) (s : Int × Int × (List (List Nat))) : Tree ((Int × Int × (List (List Nat))) ⊕ (Int × (List (List Nat)))) :=
  (.br (decide (s.2.1 < (((nget s.2.2 v345).length : Nat) : Int))) (
  (.grd (inb s.2.1 ((nget s.2.2 v345).length)) <|
  .leaf (.inl (IntKind.i64.wrap (s.1 + (1 : Int)), IntKind.i64.wrap (s.2.1 + (1 : Int)), List.set s.2.2 (v345 - 1) (List.set (nget s.2.2 v345) (Int.toNat s.2.1) (fofint .f32 s.1)))))
  ) (
  .leaf (.inr (s.1, s.2.2))
  ))

noncomputable def laws_markFloat32S_nst_l0_g (v345 : Nat) (s0 : Int × Int × (List (List Nat))) : Option (Int × (List (List Nat))) := whileM (fun s => (laws_markFloat32S_nst_l0_T v345 s).run) s0
def laws_markFloat32S_nst_l0_E (v339 : List (List Nat)) (v340 : List Nat) (v341 : List (List Nat)) (v342 : List Nat) (v343 : List (List Nat)) (v344 : List Nat) (v345 : Nat) (v346 : Int) (s : Int × Int × (List (List Nat))) : Sd := ([.inn 0 0 v345 ((nget s.2.2 v345).length),.int .i64 s.1,tp,tp,tp,.int .i64 s.2.1,tp,tp,tp,tp,tp,tp,tp,tp,tp,tp,tp,tp,tp,tp], [.nest [.sl (.f32 s.2.2) v340, .sl (.f32 v341) v342, .sl (.f32 v343) v344] false 0])
def laws_markFloat32S_nst_l0_X (v339 : List (List Nat)) (v340 : List Nat) (v341 : List (List Nat)) (v342 : List Nat) (v343 : List (List Nat)) (v344 : List Nat) (v345 : Nat) (v346 : Int) (x : Int × (List (List Nat))) : Out := (.normal, [tp,.int .i64 x.1,tp,tp,tp,tp,tp,tp,tp,tp,tp,tp,tp,tp,tp,tp,tp,tp,tp,tp], [.nest [.sl (.f32 x.2) v340, .sl (.f32 v341) v342, .sl (.f32 v343) v344] false 0])
def laws_markFloat32S_nst_l0_kill : List Nat := KL true [0,2,3,1,14]
def laws_markFloat32S_nst_l0_nx : Exit → List Nat
  | .exit 0 => KL true [1,1,18]
  | .ret => KL true [4,1,15]
  | _ => []
noncomputable def laws_markFloat32S_nst_LO (v339 : List (List Nat)) (v340 : List Nat) (v341 : List (List Nat)) (v342 : List Nat) (v343 : List (List Nat)) (v344 : List Nat) (v345 : Nat) (v346 : Int) : LOr := fun id e L =>
  match id with
  | 0 => .need (normA 1 laws_markFloat32S_nst_l0_kill e L = some (laws_markFloat32S_nst_l0_E v339 v340 v341 v342 v343 v344 v345 v346 ((gI (vAt e 1)), (gI (vAt e 5)), (gPF L (vAt e 0) 0)))) (.call (laws_markFloat32S_nst_l0_g v345 ((gI (vAt e 1)), (gI (vAt e 5)), (gPF L (vAt e 0) 0))) fun x => .leaf (laws_markFloat32S_nst_l0_X v339 v340 v341 v342 v343 v344 v345 v346 x))
  | _ => .fail
noncomputable def laws_markFloat32S_nst_tab : List (FuncId × DFn × Bool) := []
theorem laws_markFloat32S_nst_hO : OrcOk Try.prog (tabD laws_markFloat32S_nst_tab) (tabM laws_markFloat32S_nst_tab) := tabD_nil _
theorem laws_markFloat32S_nst_l0_be (v339 : List (List Nat)) (v340 : List Nat) (v341 : List (List Nat)) (v342 : List Nat) (v343 : List (List Nat)) (v344 : List Nat) (v345 : Nat) (v346 : Int) (s : Int × Int × (List (List Nat))) : bodyT TT (tabD laws_markFloat32S_nst_tab) (tabM laws_markFloat32S_nst_tab) (laws_markFloat32S_nst_LO v339 v340 v341 v342 v343 v344 v345 v346) 1 laws_markFloat32S_nst_l0_kill laws_markFloat32S_nst_l0_nx (bodyOf Try.f51 0) 0 (laws_markFloat32S_nst_l0_E v339 v340 v341 v342 v343 v344 v345 v346 s) = (laws_markFloat32S_nst_l0_T v345 s).bind fun y => .leaf (outS (laws_markFloat32S_nst_l0_E v339 v340 v341 v342 v343 v344 v345 v346) (laws_markFloat32S_nst_l0_X v339 v340 v341 v342 v343 v344 v345 v346) y) := by kernel_rfl
theorem laws_markFloat32S_nst_l0_ok (v339 : List (List Nat)) (v340 : List Nat) (v341 : List (List Nat)) (v342 : List Nat) (v343 : List (List Nat)) (v344 : List Nat) (v345 : Nat) (v346 : Int) : LSound Try.prog 1 (laws_markFloat32S_nst_LO v339 v340 v341 v342 v343 v344 v345 v346) 0 (bodyOf Try.f51 0) := by
  intro e L out h
  exact lo_ok (E := laws_markFloat32S_nst_l0_E v339 v340 v341 v342 v343 v344 v345 v346) (gT := laws_markFloat32S_nst_l0_T v345) (X := laws_markFloat32S_nst_l0_X v339 v340 v341 v342 v343 v344 v345 v346) (s0 := ((gI (vAt e 1)), (gI (vAt e 5)), (gPF L (vAt e 0) 0))) tok laws_markFloat32S_nst_hO mixed (LoopsOk_eq (l := []) (by kernel_rfl) trivial) (laws_markFloat32S_nst_l0_be v339 v340 v341 v342 v343 v344 v345 v346) rfl (by intro x; rfl) h
noncomputable def laws_markFloat32S_nst_T (v339 : List (List Nat)) (v340 : List Nat) (v341 : List (List Nat)) (v342 : List Nat) (v343 : List (List Nat)) (v344 : List Nat) (v345 : Nat) (v346 : Int) : Tree (Int × (List (List Nat))) :=
  (.need (some (laws_markFloat32S_nst_l0_E v339 v340 v341 v342 v343 v344 v345 v346 (v346, (0 : Int), v339)) = some (laws_markFloat32S_nst_l0_E v339 v340 v341 v342 v343 v344 v345 v346 (v346, (0 : Int), v339))) <|
  (.call (laws_markFloat32S_nst_l0_g v345 (v346, (0 : Int), v339)) fun v355 =>
  .leaf (v355.1, v355.2)))

noncomputable def laws_markFloat32S_nst_g (v339 : List (List Nat)) (v340 : List Nat) (v341 : List (List Nat)) (v342 : List Nat) (v343 : List (List Nat)) (v344 : List Nat) (v345 : Nat) (v346 : Int) : Option (Int × (List (List Nat))) := (laws_markFloat32S_nst_T v339 v340 v341 v342 v343 v344 v345 v346).run
def laws_markFloat32S_nst_enc (v339 : List (List Nat)) (v340 : List Nat) (v341 : List (List Nat)) (v342 : List Nat) (v343 : List (List Nat)) (v344 : List Nat) (v345 : Nat) (v346 : Int) (y : Int × (List (List Nat))) : Rs := (.int .i64 y.1, [.nest [.sl (.f32 y.2) v340, .sl (.f32 v341) v342, .sl (.f32 v343) v344] false 0])
theorem laws_markFloat32S_nst_den (v339 : List (List Nat)) (v340 : List Nat) (v341 : List (List Nat)) (v342 : List Nat) (v343 : List (List Nat)) (v344 : List Nat) (v345 : Nat) (v346 : Int) : (den TT (tabD laws_markFloat32S_nst_tab) (tabM laws_markFloat32S_nst_tab) (laws_markFloat32S_nst_LO v339 v340 v341 v342 v343 v344 v345 v346) (codeOf Try.f51) ([.inn 0 0 v345 ((nget v339 v345).length), .int .i64 v346] ++ List.replicate (Try.f51.ntmps - ([.inn 0 0 v345 ((nget v339 v345).length), .int .i64 v346] : List DV).length) .undef) [.nest [.sl (.f32 v339) v340, .sl (.f32 v341) v342, .sl (.f32 v343) v344] false 0]).bind (retD TT Try.f51.results.toList 1) = (laws_markFloat32S_nst_T v339 v340 v341 v342 v343 v344 v345 v346).bind fun y => .leaf (laws_markFloat32S_nst_enc v339 v340 v341 v342 v343 v344 v345 v346 y) := by kernel_rfl
theorem laws_markFloat32S_nst_fn (v339 : List (List Nat)) (v340 : List Nat) (v341 : List (List Nat)) (v342 : List Nat) (v343 : List (List Nat)) (v344 : List Nat) (v345 : Nat) (v346 : Int) (F : Fr) (h0 : St F [.nest [.sl (.f32 v339) v340, .sl (.f32 v341) v342, .sl (.f32 v343) v344] false 0] F.H0) (hA : DVs.Ok F [.nest [.sl (.f32 v339) v340, .sl (.f32 v341) v342, .sl (.f32 v343) v344] false 0] [.inn 0 0 v345 ((nget v339 v345).length), .int .i64 v346]) {y : Int × (List (List Nat))} (hy : laws_markFloat32S_nst_g v339 v340 v341 v342 v343 v344 v345 v346 = some y) : ∃ F' H', Fwd 1 F F' [.nest [.sl (.f32 v339) v340, .sl (.f32 v341) v342, .sl (.f32 v343) v344] false 0] (laws_markFloat32S_nst_enc v339 v340 v341 v342 v343 v344 v345 v346 y).2 ∧ FnOk Try.prog 51 (DVs.av F [.inn 0 0 v345 ((nget v339 v345).length), .int .i64 v346]) F.H0 ((laws_markFloat32S_nst_enc v339 v340 v341 v342 v343 v344 v345 v346 y).1.av F') H' ∧ St F' (laws_markFloat32S_nst_enc v339 v340 v341 v342 v343 v344 v345 v346 y).2 H' ∧ (laws_markFloat32S_nst_enc v339 v340 v341 v342 v343 v344 v345 v346 y).1.Ok F' (laws_markFloat32S_nst_enc v339 v340 v341 v342 v343 v344 v345 v346 y).2 :=
  fn_fin tok laws_markFloat32S_nst_hO mixed Try.func51 Try.call51 (by kernel_rfl) (LoopsOk_eq (l := [(0, bodyOf Try.f51 0)]) (by kernel_rfl) ⟨laws_markFloat32S_nst_l0_ok v339 v340 v341 v342 v343 v344 v345 v346, trivial⟩) (laws_markFloat32S_nst_den v339 v340 v341 v342 v343 v344 v345 v346) hy h0 hA
noncomputable def laws_markFloat32S_nst_F : DFn := fun args L =>
  match args with
  | [a1, .int .i64 v346] =>
    optT (nestI L false 3 a1) fun qn0 =>
    (match qn0.2 with
    | [.sl (.f32 v339) v340, .sl (.f32 v341) v342, .sl (.f32 v343) v344] =>
    optT (innK qn0.1 0 a1) fun v345 =>
    (match sepB [qn0.1] [] with
    | true =>
    .call (laws_markFloat32S_nst_g v339 v340 v341 v342 v343 v344 v345 v346) fun y => .grd (decide ((v340).length = (v340).length)) (.leaf (.int .i64 y.1, setB L [(qn0.1, .nest [.sl (.f32 y.2) v340, .sl (.f32 v341) v342, .sl (.f32 v343) v344] false (verAt L qn0.1))] ++ []))
    | false => .fail)
    | _ => .fail)
  | _ => .fail
theorem laws_markFloat32S_nst_Fok : COk Try.prog 51 laws_markFloat32S_nst_F false := by
  intro F L H args r L' hs ha hr
  unfold laws_markFloat32S_nst_F at hr
  split at hr
  · rename_i a1 v346
    obtain ⟨⟨jn0, cn0⟩, hn0, hr⟩ := optT_run hr
    simp only at hr
    split at hr
    · rename_i v339 v340 v341 v342 v343 v344
      obtain ⟨hne0, hnu0, hnl0, hno0⟩ := nestI_spec hs hn0
      obtain ⟨v345, hk0, hr⟩ := optT_run hr
      have hik0 := innK_spec (c := 0) (DVs.okAt ha 0 rfl) hk0 hne0 rfl
      split at hr
      · rename_i hsep
        obtain ⟨hnd, hsepv⟩ := sepB_spec hsep
        simp only [Tree.run] at hr
        obtain ⟨y, hy, hr⟩ := Option.bind_eq_some_iff.1 hr
        try simp only [Tree.run] at hr
        obtain ⟨hl0, hr⟩ := ite_run hr
        simp only [Option.some.injEq, Prod.mk.injEq] at hr
        obtain ⟨rfl, rfl⟩ := hr
        exact mutG_ok hs [a1] ⟨(DVs.okAt ha 0 rfl), trivial⟩ [a1, .int .i64 v346] [.inn 0 0 v345 ((nget v339 v345).length), .int .i64 v346] [jn0] [verAt L jn0] [.nest [.sl (.f32 v339) v340, .sl (.f32 v341) v342, .sl (.f32 v343) v344] false 0] [.nest [.sl (.f32 y.2) v340, .sl (.f32 v341) v342, .sl (.f32 v343) v344] false 0] [.nest [.sl (.f32 y.2) v340, .sl (.f32 v341) v342, .sl (.f32 v343) v344] false (verAt L jn0)] [] hnd rfl rfl (fun j hj => by
            simp at hj
            subst hj; exact ex_nest hne0) (fun j hj => by
            simp at hj
            subst hj; exact reach_refs (by simp [DVs.refs, DV.refs, hnu0])) (fun F' h0 hρ ab hpl hS => by
            have ab0 := ab 0 _ rfl;
            have hnx0 : a1.av F = (.inn 0 0 v345 ((nget v339 v345).length) : DV).av F' := innK_av (hpl 0 _ rfl) hik0.1
            refine ⟨fun i j b' h1 h2 => ?_, by simp [DBlk.blk, DVs.av, DV.av, BR.av, hρ, Row.len, hnx0, ab0, ab0], fun hst => laws_markFloat32S_nst_fn v339 v340 v341 v342 v343 v344 v345 v346 F' hst ⟨(innK_ok (i := 0) rfl rfl hik0.2.1 hik0.2.2), trivial, trivial⟩ hy⟩
            rcases i with _ | i
            · simp at h1 h2; subst h1; subst h2; obtain ⟨ver_, hv_⟩ := hne0; exact ⟨_, hv_, .nest _ _ _ _, nest_blk (hpl 0 _ rfl) _ _ _ _, hno0 _ _⟩
            · simp at h1) rfl rfl (fun i j b b' h1 h2 h3 => by
            rcases i with _ | i
            · simp at h1; subst h1; cases h3; exact growN hne0 (by first | exact of_decide_eq_true hl0 | rfl) rfl h2
            · simp at h1)
      · cases hr
    · cases hr
  · cases hr
/-! laws.markFloat32S -/
noncomputable def laws_markFloat32S_nst_i1_l0_T (v363 : Nat) (s : Int × Int × (List (List Nat))) : Tree ((Int × Int × (List (List Nat))) ⊕ (Int × (List (List Nat)))) :=
  (.br (decide (s.2.1 < (((nget s.2.2 v363).length : Nat) : Int))) (
  (.grd (inb s.2.1 ((nget s.2.2 v363).length)) <|
  .leaf (.inl (IntKind.i64.wrap (s.1 + (1 : Int)), IntKind.i64.wrap (s.2.1 + (1 : Int)), List.set s.2.2 (v363 - 1) (List.set (nget s.2.2 v363) (Int.toNat s.2.1) (fofint .f32 s.1)))))
  ) (
  .leaf (.inr (s.1, s.2.2))
  ))

noncomputable def laws_markFloat32S_nst_i1_l0_g (v363 : Nat) (s0 : Int × Int × (List (List Nat))) : Option (Int × (List (List Nat))) := whileM (fun s => (laws_markFloat32S_nst_i1_l0_T v363 s).run) s0
def laws_markFloat32S_nst_i1_l0_E (v357 : List (List Nat)) (v358 : List Nat) (v359 : List (List Nat)) (v360 : List Nat) (v361 : List (List Nat)) (v362 : List Nat) (v363 : Nat) (v364 : Int) (s : Int × Int × (List (List Nat))) : Sd := ([.inn 0 1 v363 ((nget s.2.2 v363).length),.int .i64 s.1,tp,tp,tp,.int .i64 s.2.1,tp,tp,tp,tp,tp,tp,tp,tp,tp,tp,tp,tp,tp,tp], [.nest [.sl (.f32 v357) v358, .sl (.f32 s.2.2) v360, .sl (.f32 v361) v362] false 0])
def laws_markFloat32S_nst_i1_l0_X (v357 : List (List Nat)) (v358 : List Nat) (v359 : List (List Nat)) (v360 : List Nat) (v361 : List (List Nat)) (v362 : List Nat) (v363 : Nat) (v364 : Int) (x : Int × (List (List Nat))) : Out := (.normal, [tp,.int .i64 x.1,tp,tp,tp,tp,tp,tp,tp,tp,tp,tp,tp,tp,tp,tp,tp,tp,tp,tp], [.nest [.sl (.f32 v357) v358, .sl (.f32 x.2) v360, .sl (.f32 v361) v362] false 0])
def laws_markFloat32S_nst_i1_l0_kill : List Nat := KL true [0,2,3,1,14]
def laws_markFloat32S_nst_i1_l0_nx : Exit → List Nat
  | .exit 0 => KL true [1,1,18]
  | .ret => KL true [4,1,15]
  | _ => []
noncomputable def laws_markFloat32S_nst_i1_LO (v357 : List (List Nat)) (v358 : List Nat) (v359 : List (List Nat)) (v360 : List Nat) (v361 : List (List Nat)) (v362 : List Nat) (v363 : Nat) (v364 : Int) : LOr := fun id e L =>
  match id with
  | 0 => .need (normA 1 laws_markFloat32S_nst_i1_l0_kill e L = some (laws_markFloat32S_nst_i1_l0_E v357 v358 v359 v360 v361 v362 v363 v364 ((gI (vAt e 1)), (gI (vAt e 5)), (gPF L (vAt e 0) 1)))) (.call (laws_markFloat32S_nst_i1_l0_g v363 ((gI (vAt e 1)), (gI (vAt e 5)), (gPF L (vAt e 0) 1))) fun x => .leaf (laws_markFloat32S_nst_i1_l0_X v357 v358 v359 v360 v361 v362 v363 v364 x))
  | _ => .fail
noncomputable def laws_markFloat32S_nst_i1_tab : List (FuncId × DFn × Bool) := []
theorem laws_markFloat32S_nst_i1_hO : OrcOk Try.prog (tabD laws_markFloat32S_nst_i1_tab) (tabM laws_markFloat32S_nst_i1_tab) := tabD_nil _
theorem laws_markFloat32S_nst_i1_l0_be (v357 : List (List Nat)) (v358 : List Nat) (v359 : List (List Nat)) (v360 : List Nat) (v361 : List (List Nat)) (v362 : List Nat) (v363 : Nat) (v364 : Int) (s : Int × Int × (List (List Nat))) : bodyT TT (tabD laws_markFloat32S_nst_i1_tab) (tabM laws_markFloat32S_nst_i1_tab) (laws_markFloat32S_nst_i1_LO v357 v358 v359 v360 v361 v362 v363 v364) 1 laws_markFloat32S_nst_i1_l0_kill laws_markFloat32S_nst_i1_l0_nx (bodyOf Try.f51 0) 0 (laws_markFloat32S_nst_i1_l0_E v357 v358 v359 v360 v361 v362 v363 v364 s) = (laws_markFloat32S_nst_i1_l0_T v363 s).bind fun y => .leaf (outS (laws_markFloat32S_nst_i1_l0_E v357 v358 v359 v360 v361 v362 v363 v364) (laws_markFloat32S_nst_i1_l0_X v357 v358 v359 v360 v361 v362 v363 v364) y) := by kernel_rfl
theorem laws_markFloat32S_nst_i1_l0_ok (v357 : List (List Nat)) (v358 : List Nat) (v359 : List (List Nat)) (v360 : List Nat) (v361 : List (List Nat)) (v362 : List Nat) (v363 : Nat) (v364 : Int) : LSound Try.prog 1 (laws_markFloat32S_nst_i1_LO v357 v358 v359 v360 v361 v362 v363 v364) 0 (bodyOf Try.f51 0) := by
  intro e L out h
  exact lo_ok (E := laws_markFloat32S_nst_i1_l0_E v357 v358 v359 v360 v361 v362 v363 v364) (gT := laws_markFloat32S_nst_i1_l0_T v363) (X := laws_markFloat32S_nst_i1_l0_X v357 v358 v359 v360 v361 v362 v363 v364) (s0 := ((gI (vAt e 1)), (gI (vAt e 5)), (gPF L (vAt e 0) 1))) tok laws_markFloat32S_nst_i1_hO mixed (LoopsOk_eq (l := []) (by kernel_rfl) trivial) (laws_markFloat32S_nst_i1_l0_be v357 v358 v359 v360 v361 v362 v363 v364) rfl (by intro x; rfl) h
noncomputable def laws_markFloat32S_nst_i1_T (v357 : List (List Nat)) (v358 : List Nat) (v359 : List (List Nat)) (v360 : List Nat) (v361 : List (List Nat)) (v362 : List Nat) (v363 : Nat) (v364 : Int) : Tree (Int × (List (List Nat))) :=
  (.need (some (laws_markFloat32S_nst_i1_l0_E v357 v358 v359 v360 v361 v362 v363 v364 (v364, (0 : Int), v359)) = some (laws_markFloat32S_nst_i1_l0_E v357 v358 v359 v360 v361 v362 v363 v364 (v364, (0 : Int), v359))) <|
  (.call (laws_markFloat32S_nst_i1_l0_g v363 (v364, (0 : Int), v359)) fun v373 =>
  .leaf (v373.1, v373.2)))

noncomputable def laws_markFloat32S_nst_i1_g (v357 : List (List Nat)) (v358 : List Nat) (v359 : List (List Nat)) (v360 : List Nat) (v361 : List (List Nat)) (v362 : List Nat) (v363 : Nat) (v364 : Int) : Option (Int × (List (List Nat))) := (laws_markFloat32S_nst_i1_T v357 v358 v359 v360 v361 v362 v363 v364).run
def laws_markFloat32S_nst_i1_enc (v357 : List (List Nat)) (v358 : List Nat) (v359 : List (List Nat)) (v360 : List Nat) (v361 : List (List Nat)) (v362 : List Nat) (v363 : Nat) (v364 : Int) (y : Int × (List (List Nat))) : Rs := (.int .i64 y.1, [.nest [.sl (.f32 v357) v358, .sl (.f32 y.2) v360, .sl (.f32 v361) v362] false 0])
theorem laws_markFloat32S_nst_i1_den (v357 : List (List Nat)) (v358 : List Nat) (v359 : List (List Nat)) (v360 : List Nat) (v361 : List (List Nat)) (v362 : List Nat) (v363 : Nat) (v364 : Int) : (den TT (tabD laws_markFloat32S_nst_i1_tab) (tabM laws_markFloat32S_nst_i1_tab) (laws_markFloat32S_nst_i1_LO v357 v358 v359 v360 v361 v362 v363 v364) (codeOf Try.f51) ([.inn 0 1 v363 ((nget v359 v363).length), .int .i64 v364] ++ List.replicate (Try.f51.ntmps - ([.inn 0 1 v363 ((nget v359 v363).length), .int .i64 v364] : List DV).length) .undef) [.nest [.sl (.f32 v357) v358, .sl (.f32 v359) v360, .sl (.f32 v361) v362] false 0]).bind (retD TT Try.f51.results.toList 1) = (laws_markFloat32S_nst_i1_T v357 v358 v359 v360 v361 v362 v363 v364).bind fun y => .leaf (laws_markFloat32S_nst_i1_enc v357 v358 v359 v360 v361 v362 v363 v364 y) := by kernel_rfl
theorem laws_markFloat32S_nst_i1_fn (v357 : List (List Nat)) (v358 : List Nat) (v359 : List (List Nat)) (v360 : List Nat) (v361 : List (List Nat)) (v362 : List Nat) (v363 : Nat) (v364 : Int) (F : Fr) (h0 : St F [.nest [.sl (.f32 v357) v358, .sl (.f32 v359) v360, .sl (.f32 v361) v362] false 0] F.H0) (hA : DVs.Ok F [.nest [.sl (.f32 v357) v358, .sl (.f32 v359) v360, .sl (.f32 v361) v362] false 0] [.inn 0 1 v363 ((nget v359 v363).length), .int .i64 v364]) {y : Int × (List (List Nat))} (hy : laws_markFloat32S_nst_i1_g v357 v358 v359 v360 v361 v362 v363 v364 = some y) : ∃ F' H', Fwd 1 F F' [.nest [.sl (.f32 v357) v358, .sl (.f32 v359) v360, .sl (.f32 v361) v362] false 0] (laws_markFloat32S_nst_i1_enc v357 v358 v359 v360 v361 v362 v363 v364 y).2 ∧ FnOk Try.prog 51 (DVs.av F [.inn 0 1 v363 ((nget v359 v363).length), .int .i64 v364]) F.H0 ((laws_markFloat32S_nst_i1_enc v357 v358 v359 v360 v361 v362 v363 v364 y).1.av F') H' ∧ St F' (laws_markFloat32S_nst_i1_enc v357 v358 v359 v360 v361 v362 v363 v364 y).2 H' ∧ (laws_markFloat32S_nst_i1_enc v357 v358 v359 v360 v361 v362 v363 v364 y).1.Ok F' (laws_markFloat32S_nst_i1_enc v357 v358 v359 v360 v361 v362 v363 v364 y).2 :=
  fn_fin tok laws_markFloat32S_nst_i1_hO mixed Try.func51 Try.call51 (by kernel_rfl) (LoopsOk_eq (l := [(0, bodyOf Try.f51 0)]) (by kernel_rfl) ⟨laws_markFloat32S_nst_i1_l0_ok v357 v358 v359 v360 v361 v362 v363 v364, trivial⟩) (laws_markFloat32S_nst_i1_den v357 v358 v359 v360 v361 v362 v363 v364) hy h0 hA
noncomputable def laws_markFloat32S_nst_i1_F : DFn := fun args L =>
  match args with
  | [a1, .int .i64 v364] =>
    optT (nestI L false 3 a1) fun qn0 =>
    (match qn0.2 with
    | [.sl (.f32 v357) v358, .sl (.f32 v359) v360, .sl (.f32 v361) v362] =>
    optT (innK qn0.1 1 a1) fun v363 =>
    (match sepB [qn0.1] [] with
    | true =>
    .call (laws_markFloat32S_nst_i1_g v357 v358 v359 v360 v361 v362 v363 v364) fun y => .grd (decide ((v358).length = (v358).length)) (.leaf (.int .i64 y.1, setB L [(qn0.1, .nest [.sl (.f32 v357) v358, .sl (.f32 y.2) v360, .sl (.f32 v361) v362] false (verAt L qn0.1))] ++ []))
    | false => .fail)
    | _ => .fail)
  | _ => .fail
theorem laws_markFloat32S_nst_i1_Fok : COk Try.prog 51 laws_markFloat32S_nst_i1_F false := by
  intro F L H args r L' hs ha hr
  unfold laws_markFloat32S_nst_i1_F at hr
  split at hr
  · rename_i a1 v364
    obtain ⟨⟨jn0, cn0⟩, hn0, hr⟩ := optT_run hr
    simp only at hr
    split at hr
    · rename_i v357 v358 v359 v360 v361 v362
      obtain ⟨hne0, hnu0, hnl0, hno0⟩ := nestI_spec hs hn0
      obtain ⟨v363, hk0, hr⟩ := optT_run hr
      have hik0 := innK_spec (c := 1) (DVs.okAt ha 0 rfl) hk0 hne0 rfl
      split at hr
      · rename_i hsep
        obtain ⟨hnd, hsepv⟩ := sepB_spec hsep
        simp only [Tree.run] at hr
        obtain ⟨y, hy, hr⟩ := Option.bind_eq_some_iff.1 hr
        try simp only [Tree.run] at hr
        obtain ⟨hl0, hr⟩ := ite_run hr
        simp only [Option.some.injEq, Prod.mk.injEq] at hr
        obtain ⟨rfl, rfl⟩ := hr
        exact mutG_ok hs [a1] ⟨(DVs.okAt ha 0 rfl), trivial⟩ [a1, .int .i64 v364] [.inn 0 1 v363 ((nget v359 v363).length), .int .i64 v364] [jn0] [verAt L jn0] [.nest [.sl (.f32 v357) v358, .sl (.f32 v359) v360, .sl (.f32 v361) v362] false 0] [.nest [.sl (.f32 v357) v358, .sl (.f32 y.2) v360, .sl (.f32 v361) v362] false 0] [.nest [.sl (.f32 v357) v358, .sl (.f32 y.2) v360, .sl (.f32 v361) v362] false (verAt L jn0)] [] hnd rfl rfl (fun j hj => by
            simp at hj
            subst hj; exact ex_nest hne0) (fun j hj => by
            simp at hj
            subst hj; exact reach_refs (by simp [DVs.refs, DV.refs, hnu0])) (fun F' h0 hρ ab hpl hS => by
            have ab0 := ab 0 _ rfl;
            have hnx0 : a1.av F = (.inn 0 1 v363 ((nget v359 v363).length) : DV).av F' := innK_av (hpl 0 _ rfl) hik0.1
            refine ⟨fun i j b' h1 h2 => ?_, by simp [DBlk.blk, DVs.av, DV.av, BR.av, hρ, Row.len, hnx0, ab0, ab0], fun hst => laws_markFloat32S_nst_i1_fn v357 v358 v359 v360 v361 v362 v363 v364 F' hst ⟨(innK_ok (i := 0) rfl rfl hik0.2.1 hik0.2.2), trivial, trivial⟩ hy⟩
            rcases i with _ | i
            · simp at h1 h2; subst h1; subst h2; obtain ⟨ver_, hv_⟩ := hne0; exact ⟨_, hv_, .nest _ _ _ _, nest_blk (hpl 0 _ rfl) _ _ _ _, hno0 _ _⟩
            · simp at h1) rfl rfl (fun i j b b' h1 h2 h3 => by
            rcases i with _ | i
            · simp at h1; subst h1; cases h3; exact growN hne0 (by first | exact of_decide_eq_true hl0 | rfl) rfl h2
            · simp at h1)
      · cases hr
    · cases hr
  · cases hr
/-! laws.markFloat32S -/
noncomputable def laws_markFloat32S_nst_i2_l0_T (v381 : Nat) (s : Int × Int × (List (List Nat))) : Tree ((Int × Int × (List (List Nat))) ⊕ (Int × (List (List Nat)))) :=
  (.br (decide (s.2.1 < (((nget s.2.2 v381).length : Nat) : Int))) (
  (.grd (inb s.2.1 ((nget s.2.2 v381).length)) <|
  .leaf (.inl (IntKind.i64.wrap (s.1 + (1 : Int)), IntKind.i64.wrap (s.2.1 + (1 : Int)), List.set s.2.2 (v381 - 1) (List.set (nget s.2.2 v381) (Int.toNat s.2.1) (fofint .f32 s.1)))))
  ) (
  .leaf (.inr (s.1, s.2.2))
  ))

noncomputable def laws_markFloat32S_nst_i2_l0_g (v381 : Nat) (s0 : Int × Int × (List (List Nat))) : Option (Int × (List (List Nat))) := whileM (fun s => (laws_markFloat32S_nst_i2_l0_T v381 s).run) s0
def laws_markFloat32S_nst_i2_l0_E (v375 : List (List Nat)) (v376 : List Nat) (v377 : List (List Nat)) (v378 : List Nat) (v379 : List (List Nat)) (v380 : List Nat) (v381 : Nat) (v382 : Int) (s : Int × Int × (List (List Nat))) : Sd := ([.inn 0 2 v381 ((nget s.2.2 v381).length),.int .i64 s.1,tp,tp,tp,.int .i64 s.2.1,tp,tp,tp,tp,tp,tp,tp,tp,tp,tp,tp,tp,tp,tp], [.nest [.sl (.f32 v375) v376, .sl (.f32 v377) v378, .sl (.f32 s.2.2) v380] false 0])
def laws_markFloat32S_nst_i2_l0_X (v375 : List (List Nat)) (v376 : List Nat) (v377 : List (List Nat)) (v378 : List Nat) (v379 : List (List Nat)) (v380 : List Nat) (v381 : Nat) (v382 : Int) (x : Int × (List (List Nat))) : Out := (.normal, [tp,.int .i64 x.1,tp,tp,tp,tp,tp,tp,tp,tp,tp,tp,tp,tp,tp,tp,tp,tp,tp,tp], [.nest [.sl (.f32 v375) v376, .sl (.f32 v377) v378, .sl (.f32 x.2) v380] false 0])
def laws_markFloat32S_nst_i2_l0_kill : List Nat := KL true [0,2,3,1,14]
def laws_markFloat32S_nst_i2_l0_nx : Exit → List Nat
  | .exit 0 => KL true [1,1,18]
  | .ret => KL true [4,1,15]
  | _ => []
noncomputable def laws_markFloat32S_nst_i2_LO (v375 : List (List Nat)) (v376 : List Nat) (v377 : List (List Nat)) (v378 : List Nat) (v379 : List (List Nat)) (v380 : List Nat) (v381 : Nat) (v382 : Int) : LOr := fun id e L =>
  match id with
  | 0 => .need (normA 1 laws_markFloat32S_nst_i2_l0_kill e L = some (laws_markFloat32S_nst_i2_l0_E v375 v376 v377 v378 v379 v380 v381 v382 ((gI (vAt e 1)), (gI (vAt e 5)), (gPF L (vAt e 0) 2)))) (.call (laws_markFloat32S_nst_i2_l0_g v381 ((gI (vAt e 1)), (gI (vAt e 5)), (gPF L (vAt e 0) 2))) fun x => .leaf (laws_markFloat32S_nst_i2_l0_X v375 v376 v377 v378 v379 v380 v381 v382 x))
  | _ => .fail
noncomputable def laws_markFloat32S_nst_i2_tab : List (FuncId × DFn × Bool) := []
theorem laws_markFloat32S_nst_i2_hO : OrcOk Try.prog (tabD laws_markFloat32S_nst_i2_tab) (tabM laws_markFloat32S_nst_i2_tab) := tabD_nil _
theorem laws_markFloat32S_nst_i2_l0_be (v375 : List (List Nat)) (v376 : List Nat) (v377 : List (List Nat)) (v378 : List Nat) (v379 : List (List Nat)) (v380 : List Nat) (v381 : Nat) (v382 : Int) (s : Int × Int × (List (List Nat))) : bodyT TT (tabD laws_markFloat32S_nst_i2_tab) (tabM laws_markFloat32S_nst_i2_tab) (laws_markFloat32S_nst_i2_LO v375 v376 v377 v378 v379 v380 v381 v382) 1 laws_markFloat32S_nst_i2_l0_kill laws_markFloat32S_nst_i2_l0_nx (bodyOf Try.f51 0) 0 (laws_markFloat32S_nst_i2_l0_E v375 v376 v377 v378 v379 v380 v381 v382 s) = (laws_markFloat32S_nst_i2_l0_T v381 s).bind fun y => .leaf (outS (laws_markFloat32S_nst_i2_l0_E v375 v376 v377 v378 v379 v380 v381 v382) (laws_markFloat32S_nst_i2_l0_X v375 v376 v377 v378 v379 v380 v381 v382) y) := by kernel_rfl
theorem laws_markFloat32S_nst_i2_l0_ok (v375 : List (List Nat)) (v376 : List Nat) (v377 : List (List Nat)) (v378 : List Nat) (v379 : List (List Nat)) (v380 : List Nat) (v381 : Nat) (v382 : Int) : LSound Try.prog 1 (laws_markFloat32S_nst_i2_LO v375 v376 v377 v378 v379 v380 v381 v382) 0 (bodyOf Try.f51 0) := by
  intro e L out h
  exact lo_ok (E := laws_markFloat32S_nst_i2_l0_E v375 v376 v377 v378 v379 v380 v381 v382) (gT := laws_markFloat32S_nst_i2_l0_T v381) (X := laws_markFloat32S_nst_i2_l0_X v375 v376 v377 v378 v379 v380 v381 v382) (s0 := ((gI (vAt e 1)), (gI (vAt e 5)), (gPF L (vAt e 0) 2))) tok laws_markFloat32S_nst_i2_hO mixed (LoopsOk_eq (l := []) (by kernel_rfl) trivial) (laws_markFloat32S_nst_i2_l0_be v375 v376 v377 v378 v379 v380 v381 v382) rfl (by intro x; rfl) h
noncomputable def laws_markFloat32S_nst_i2_T (v375 : List (List Nat)) (v376 : List Nat) (v377 : List (List Nat)) (v378 : List Nat) (v379 : List (List Nat)) (v380 : List Nat) (v381 : Nat) (v382 : Int) : Tree (Int × (List (List Nat))) :=
  (.need (some (laws_markFloat32S_nst_i2_l0_E v375 v376 v377 v378 v379 v380 v381 v382 (v382, (0 : Int), v379)) = some (laws_markFloat32S_nst_i2_l0_E v375 v376 v377 v378 v379 v380 v381 v382 (v382, (0 : Int), v379))) <|
  (.call (laws_markFloat32S_nst_i2_l0_g v381 (v382, (0 : Int), v379)) fun v391 =>
  .leaf (v391.1, v391.2)))

noncomputable def laws_markFloat32S_nst_i2_g (v375 : List (List Nat)) (v376 : List Nat) (v377 : List (List Nat)) (v378 : List Nat) (v379 : List (List Nat)) (v380 : List Nat) (v381 : Nat) (v382 : Int) : Option (Int × (List (List Nat))) := (laws_markFloat32S_nst_i2_T v375 v376 v377 v378 v379 v380 v381 v382).run
def laws_markFloat32S_nst_i2_enc (v375 : List (List Nat)) (v376 : List Nat) (v377 : List (List Nat)) (v378 : List Nat) (v379 : List (List Nat)) (v380 : List Nat) (v381 : Nat) (v382 : Int) (y : Int × (List (List Nat))) : Rs := (.int .i64 y.1, [.nest [.sl (.f32 v375) v376, .sl (.f32 v377) v378, .sl (.f32 y.2) v380] false 0])
theorem laws_markFloat32S_nst_i2_den (v375 : List (List Nat)) (v376 : List Nat) (v377 : List (List Nat)) (v378 : List Nat) (v379 : List (List Nat)) (v380 : List Nat) (v381 : Nat) (v382 : Int) : (den TT (tabD laws_markFloat32S_nst_i2_tab) (tabM laws_markFloat32S_nst_i2_tab) (laws_markFloat32S_nst_i2_LO v375 v376 v377 v378 v379 v380 v381 v382) (codeOf Try.f51) ([.inn 0 2 v381 ((nget v379 v381).length), .int .i64 v382] ++ List.replicate (Try.f51.ntmps - ([.inn 0 2 v381 ((nget v379 v381).length), .int .i64 v382] : List DV).length) .undef) [.nest [.sl (.f32 v375) v376, .sl (.f32 v377) v378, .sl (.f32 v379) v380] false 0]).bind (retD TT Try.f51.results.toList 1) = (laws_markFloat32S_nst_i2_T v375 v376 v377 v378 v379 v380 v381 v382).bind fun y => .leaf (laws_markFloat32S_nst_i2_enc v375 v376 v377 v378 v379 v380 v381 v382 y) := by kernel_rfl
theorem laws_markFloat32S_nst_i2_fn (v375 : List (List Nat)) (v376 : List Nat) (v377 : List (List Nat)) (v378 : List Nat) (v379 : List (List Nat)) (v380 : List Nat) (v381 : Nat) (v382 : Int) (F : Fr) (h0 : St F [.nest [.sl (.f32 v375) v376, .sl (.f32 v377) v378, .sl (.f32 v379) v380] false 0] F.H0) (hA : DVs.Ok F [.nest [.sl (.f32 v375) v376, .sl (.f32 v377) v378, .sl (.f32 v379) v380] false 0] [.inn 0 2 v381 ((nget v379 v381).length), .int .i64 v382]) {y : Int × (List (List Nat))} (hy : laws_markFloat32S_nst_i2_g v375 v376 v377 v378 v379 v380 v381 v382 = some y) : ∃ F' H', Fwd 1 F F' [.nest [.sl (.f32 v375) v376, .sl (.f32 v377) v378, .sl (.f32 v379) v380] false 0] (laws_markFloat32S_nst_i2_enc v375 v376 v377 v378 v379 v380 v381 v382 y).2 ∧ FnOk Try.prog 51 (DVs.av F [.inn 0 2 v381 ((nget v379 v381).length), .int .i64 v382]) F.H0 ((laws_markFloat32S_nst_i2_enc v375 v376 v377 v378 v379 v380 v381 v382 y).1.av F') H' ∧ St F' (laws_markFloat32S_nst_i2_enc v375 v376 v377 v378 v379 v380 v381 v382 y).2 H' ∧ (laws_markFloat32S_nst_i2_enc v375 v376 v377 v378 v379 v380 v381 v382 y).1.Ok F' (laws_markFloat32S_nst_i2_enc v375 v376 v377 v378 v379 v380 v381 v382 y).2 :=
  fn_fin tok laws_markFloat32S_nst_i2_hO mixed Try.func51 Try.call51 (by kernel_rfl) (LoopsOk_eq (l := [(0, bodyOf Try.f51 0)]) (by kernel_rfl) ⟨laws_markFloat32S_nst_i2_l0_ok v375 v376 v377 v378 v379 v380 v381 v382, trivial⟩) (laws_markFloat32S_nst_i2_den v375 v376 v377 v378 v379 v380 v381 v382) hy h0 hA
noncomputable def laws_markFloat32S_nst_i2_F : DFn := fun args L =>
  match args with
  | [a1, .int .i64 v382] =>
    optT (nestI L false 3 a1) fun qn0 =>
    (match qn0.2 with
    | [.sl (.f32 v375) v376, .sl (.f32 v377) v378, .sl (.f32 v379) v380] =>
    optT (innK qn0.1 2 a1) fun v381 =>
    (match sepB [qn0.1] [] with
    | true =>
    .call (laws_markFloat32S_nst_i2_g v375 v376 v377 v378 v379 v380 v381 v382) fun y => .grd (decide ((v376).length = (v376).length)) (.leaf (.int .i64 y.1, setB L [(qn0.1, .nest [.sl (.f32 v375) v376, .sl (.f32 v377) v378, .sl (.f32 y.2) v380] false (verAt L qn0.1))] ++ []))
    | false => .fail)
    | _ => .fail)
  | _ => .fail
theorem laws_markFloat32S_nst_i2_Fok : COk Try.prog 51 laws_markFloat32S_nst_i2_F false := by
  intro F L H args r L' hs ha hr
  unfold laws_markFloat32S_nst_i2_F at hr
  split at hr
  · rename_i a1 v382
    obtain ⟨⟨jn0, cn0⟩, hn0, hr⟩ := optT_run hr
    simp only at hr
    split at hr
    · rename_i v375 v376 v377 v378 v379 v380
      obtain ⟨hne0, hnu0, hnl0, hno0⟩ := nestI_spec hs hn0
      obtain ⟨v381, hk0, hr⟩ := optT_run hr
      have hik0 := innK_spec (c := 2) (DVs.okAt ha 0 rfl) hk0 hne0 rfl
      split at hr
      · rename_i hsep
        obtain ⟨hnd, hsepv⟩ := sepB_spec hsep
        simp only [Tree.run] at hr
        obtain ⟨y, hy, hr⟩ := Option.bind_eq_some_iff.1 hr
        try simp only [Tree.run] at hr
        obtain ⟨hl0, hr⟩ := ite_run hr
        simp only [Option.some.injEq, Prod.mk.injEq] at hr
        obtain ⟨rfl, rfl⟩ := hr
        exact mutG_ok hs [a1] ⟨(DVs.okAt ha 0 rfl), trivial⟩ [a1, .int .i64 v382] [.inn 0 2 v381 ((nget v379 v381).length), .int .i64 v382] [jn0] [verAt L jn0] [.nest [.sl (.f32 v375) v376, .sl (.f32 v377) v378, .sl (.f32 v379) v380] false 0] [.nest [.sl (.f32 v375) v376, .sl (.f32 v377) v378, .sl (.f32 y.2) v380] false 0] [.nest [.sl (.f32 v375) v376, .sl (.f32 v377) v378, .sl (.f32 y.2) v380] false (verAt L jn0)] [] hnd rfl rfl (fun j hj => by
            simp at hj
            subst hj; exact ex_nest hne0) (fun j hj => by
            simp at hj
            subst hj; exact reach_refs (by simp [DVs.refs, DV.refs, hnu0])) (fun F' h0 hρ ab hpl hS => by
            have ab0 := ab 0 _ rfl;
            have hnx0 : a1.av F = (.inn 0 2 v381 ((nget v379 v381).length) : DV).av F' := innK_av (hpl 0 _ rfl) hik0.1
            refine ⟨fun i j b' h1 h2 => ?_, by simp [DBlk.blk, DVs.av, DV.av, BR.av, hρ, Row.len, hnx0, ab0, ab0], fun hst => laws_markFloat32S_nst_i2_fn v375 v376 v377 v378 v379 v380 v381 v382 F' hst ⟨(innK_ok (i := 0) rfl rfl hik0.2.1 hik0.2.2), trivial, trivial⟩ hy⟩
            rcases i with _ | i
            · simp at h1 h2; subst h1; subst h2; obtain ⟨ver_, hv_⟩ := hne0; exact ⟨_, hv_, .nest _ _ _ _, nest_blk (hpl 0 _ rfl) _ _ _ _, hno0 _ _⟩
            · simp at h1) rfl rfl (fun i j b b' h1 h2 h3 => by
            rcases i with _ | i
            · simp at h1; subst h1; cases h3; exact growN hne0 (by first | exact of_decide_eq_true hl0 | rfl) rfl h2
            · simp at h1)
      · cases hr
    · cases hr
  · cases hr
/-! laws.markThirdsS -/
noncomputable def laws_markThirdsS_nst_l0_T (v316 : List Nat) (v318 : List Nat) (v320 : List Nat) (s : Int × Int × (List (List Nat)) × (List (List Nat)) × (List (List Nat))) : Tree ((Int × Int × (List (List Nat)) × (List (List Nat)) × (List (List Nat))) ⊕ (Int × (List (List Nat)) × (List (List Nat)) × (List (List Nat)))) :=
  (.br (decide (s.2.1 < (((v316).length : Nat) : Int))) (
  (.grd (inb s.2.1 ((v316).length)) <|
  (.call (laws_markFloat32S_nst_g s.2.2.1 v316 s.2.2.2.1 v318 s.2.2.2.2 v320 (nth v316 (Int.toNat s.2.1)) s.1) fun v406 =>
  (.grd (decide ((v316).length = (v316).length)) <|
  (.grd (inb s.2.1 ((v316).length)) <|
  (.call (laws_markFloat32S_nst_i1_g v406.2 v316 s.2.2.2.1 v318 s.2.2.2.2 v320 (nth v318 (Int.toNat s.2.1)) v406.1) fun v407 =>
  (.grd (decide ((v316).length = (v316).length)) <|
  (.grd (inb s.2.1 ((v316).length)) <|
  (.call (laws_markFloat32S_nst_i2_g v406.2 v316 v407.2 v318 s.2.2.2.2 v320 (nth v320 (Int.toNat s.2.1)) v407.1) fun v408 =>
  (.grd (decide ((v316).length = (v316).length)) <|
  .leaf (.inl (v408.1, IntKind.i64.wrap (s.2.1 + (1 : Int)), v406.2, v407.2, v408.2)))))))))))
  ) (
  .leaf (.inr (s.1, s.2.2.1, s.2.2.2.1, s.2.2.2.2))
  ))

noncomputable def laws_markThirdsS_nst_l0_g (v316 : List Nat) (v318 : List Nat) (v320 : List Nat) (s0 : Int × Int × (List (List Nat)) × (List (List Nat)) × (List (List Nat))) : Option (Int × (List (List Nat)) × (List (List Nat)) × (List (List Nat))) := whileM (fun s => (laws_markThirdsS_nst_l0_T v316 v318 v320 s).run) s0
def laws_markThirdsS_nst_l0_E (v315 : List (List Nat)) (v316 : List Nat) (v317 : List (List Nat)) (v318 : List Nat) (v319 : List (List Nat)) (v320 : List Nat) (v321 : Int) (s : Int × Int × (List (List Nat)) × (List (List Nat)) × (List (List Nat))) : Sd := ([.nest 0 0 3 ((v316).length),.int .i64 s.1,tp,tp,tp,.int .i64 s.2.1,tp,tp,tp,tp,tp,tp,tp,tp,tp,tp,tp,tp,tp,tp,tp,tp,tp,tp,tp,tp,tp,tp,tp,tp,tp,tp,tp,tp], [.nest [.sl (.f32 s.2.2.1) v316, .sl (.f32 s.2.2.2.1) v318, .sl (.f32 s.2.2.2.2) v320] false 0])
def laws_markThirdsS_nst_l0_X (v315 : List (List Nat)) (v316 : List Nat) (v317 : List (List Nat)) (v318 : List Nat) (v319 : List (List Nat)) (v320 : List Nat) (v321 : Int) (x : Int × (List (List Nat)) × (List (List Nat)) × (List (List Nat))) : Out := (.normal, [tp,.int .i64 x.1,tp,tp,tp,tp,tp,tp,tp,tp,tp,tp,tp,tp,tp,tp,tp,tp,tp,tp,tp,tp,tp,tp,tp,tp,tp,tp,tp,tp,tp,tp,tp,tp], [.nest [.sl (.f32 x.2.1) v316, .sl (.f32 x.2.2.1) v318, .sl (.f32 x.2.2.2) v320] false 0])
def laws_markThirdsS_nst_l0_kill : List Nat := KL true [0,2,3,1,28]
def laws_markThirdsS_nst_l0_nx : Exit → List Nat
  | .exit 0 => KL true [1,1,32]
  | .ret => KL true [4,1,29]
  | _ => []
noncomputable def laws_markThirdsS_nst_LO (v315 : List (List Nat)) (v316 : List Nat) (v317 : List (List Nat)) (v318 : List Nat) (v319 : List (List Nat)) (v320 : List Nat) (v321 : Int) : LOr := fun id e L =>
  match id with
  | 0 => .need (normA 1 laws_markThirdsS_nst_l0_kill e L = some (laws_markThirdsS_nst_l0_E v315 v316 v317 v318 v319 v320 v321 ((gI (vAt e 1)), (gI (vAt e 5)), (gPF L (vAt e 0) 0), (gPF L (vAt e 0) 1), (gPF L (vAt e 0) 2)))) (.call (laws_markThirdsS_nst_l0_g v316 v318 v320 ((gI (vAt e 1)), (gI (vAt e 5)), (gPF L (vAt e 0) 0), (gPF L (vAt e 0) 1), (gPF L (vAt e 0) 2))) fun x => .leaf (laws_markThirdsS_nst_l0_X v315 v316 v317 v318 v319 v320 v321 x))
  | _ => .fail
noncomputable def laws_markThirdsS_nst_tab : List (FuncId × DFn × Bool) := [(51, (orD (fun args => match args with | [.inn _ 0 _ _, _] => true | _ => false) laws_markFloat32S_nst_F (orD (fun args => match args with | [.inn _ 1 _ _, _] => true | _ => false) laws_markFloat32S_nst_i1_F laws_markFloat32S_nst_i2_F)), false)]
theorem laws_markThirdsS_nst_hO : OrcOk Try.prog (tabD laws_markThirdsS_nst_tab) (tabM laws_markThirdsS_nst_tab) := tabD_cons (orD_ok laws_markFloat32S_nst_Fok (orD_ok laws_markFloat32S_nst_i1_Fok laws_markFloat32S_nst_i2_Fok)) (tabD_nil _)
theorem laws_markThirdsS_nst_l0_be (v315 : List (List Nat)) (v316 : List Nat) (v317 : List (List Nat)) (v318 : List Nat) (v319 : List (List Nat)) (v320 : List Nat) (v321 : Int) (s : Int × Int × (List (List Nat)) × (List (List Nat)) × (List (List Nat))) : bodyT TT (tabD laws_markThirdsS_nst_tab) (tabM laws_markThirdsS_nst_tab) (laws_markThirdsS_nst_LO v315 v316 v317 v318 v319 v320 v321) 1 laws_markThirdsS_nst_l0_kill laws_markThirdsS_nst_l0_nx (bodyOf Try.f50 0) 0 (laws_markThirdsS_nst_l0_E v315 v316 v317 v318 v319 v320 v321 s) = (laws_markThirdsS_nst_l0_T v316 v318 v320 s).bind fun y => .leaf (outS (laws_markThirdsS_nst_l0_E v315 v316 v317 v318 v319 v320 v321) (laws_markThirdsS_nst_l0_X v315 v316 v317 v318 v319 v320 v321) y) := by kernel_rfl
theorem laws_markThirdsS_nst_l0_ok (v315 : List (List Nat)) (v316 : List Nat) (v317 : List (List Nat)) (v318 : List Nat) (v319 : List (List Nat)) (v320 : List Nat) (v321 : Int) : LSound Try.prog 1 (laws_markThirdsS_nst_LO v315 v316 v317 v318 v319 v320 v321) 0 (bodyOf Try.f50 0) := by
  intro e L out h
  exact lo_ok (E := laws_markThirdsS_nst_l0_E v315 v316 v317 v318 v319 v320 v321) (gT := laws_markThirdsS_nst_l0_T v316 v318 v320) (X := laws_markThirdsS_nst_l0_X v315 v316 v317 v318 v319 v320 v321) (s0 := ((gI (vAt e 1)), (gI (vAt e 5)), (gPF L (vAt e 0) 0), (gPF L (vAt e 0) 1), (gPF L (vAt e 0) 2))) tok laws_markThirdsS_nst_hO mixed (LoopsOk_eq (l := []) (by kernel_rfl) trivial) (laws_markThirdsS_nst_l0_be v315 v316 v317 v318 v319 v320 v321) rfl (by intro x; rfl) h
noncomputable def laws_markThirdsS_nst_T (v315 : List (List Nat)) (v316 : List Nat) (v317 : List (List Nat)) (v318 : List Nat) (v319 : List (List Nat)) (v320 : List Nat) (v321 : Int) : Tree (Int × (List (List Nat)) × (List (List Nat)) × (List (List Nat))) :=
  (.need (some (laws_markThirdsS_nst_l0_E v315 v316 v317 v318 v319 v320 v321 (v321, (0 : Int), v315, v317, v319)) = some (laws_markThirdsS_nst_l0_E v315 v316 v317 v318 v319 v320 v321 (v321, (0 : Int), v315, v317, v319))) <|
  (.call (laws_markThirdsS_nst_l0_g v316 v318 v320 (v321, (0 : Int), v315, v317, v319)) fun v409 =>
  .leaf (v409.1, v409.2.1, v409.2.2.1, v409.2.2.2)))

noncomputable def laws_markThirdsS_nst_g (v315 : List (List Nat)) (v316 : List Nat) (v317 : List (List Nat)) (v318 : List Nat) (v319 : List (List Nat)) (v320 : List Nat) (v321 : Int) : Option (Int × (List (List Nat)) × (List (List Nat)) × (List (List Nat))) := (laws_markThirdsS_nst_T v315 v316 v317 v318 v319 v320 v321).run
def laws_markThirdsS_nst_enc (v315 : List (List Nat)) (v316 : List Nat) (v317 : List (List Nat)) (v318 : List Nat) (v319 : List (List Nat)) (v320 : List Nat) (v321 : Int) (y : Int × (List (List Nat)) × (List (List Nat)) × (List (List Nat))) : Rs := (.int .i64 y.1, [.nest [.sl (.f32 y.2.1) v316, .sl (.f32 y.2.2.1) v318, .sl (.f32 y.2.2.2) v320] false 0])
theorem laws_markThirdsS_nst_den (v315 : List (List Nat)) (v316 : List Nat) (v317 : List (List Nat)) (v318 : List Nat) (v319 : List (List Nat)) (v320 : List Nat) (v321 : Int) : (den TT (tabD laws_markThirdsS_nst_tab) (tabM laws_markThirdsS_nst_tab) (laws_markThirdsS_nst_LO v315 v316 v317 v318 v319 v320 v321) (codeOf Try.f50) ([.nest 0 0 3 ((v316).length), .int .i64 v321] ++ List.replicate (Try.f50.ntmps - ([.nest 0 0 3 ((v316).length), .int .i64 v321] : List DV).length) .undef) [.nest [.sl (.f32 v315) v316, .sl (.f32 v317) v318, .sl (.f32 v319) v320] false 0]).bind (retD TT Try.f50.results.toList 1) = (laws_markThirdsS_nst_T v315 v316 v317 v318 v319 v320 v321).bind fun y => .leaf (laws_markThirdsS_nst_enc v315 v316 v317 v318 v319 v320 v321 y) := by kernel_rfl
theorem laws_markThirdsS_nst_fn (v315 : List (List Nat)) (v316 : List Nat) (v317 : List (List Nat)) (v318 : List Nat) (v319 : List (List Nat)) (v320 : List Nat) (v321 : Int) (F : Fr) (h0 : St F [.nest [.sl (.f32 v315) v316, .sl (.f32 v317) v318, .sl (.f32 v319) v320] false 0] F.H0) (hA : DVs.Ok F [.nest [.sl (.f32 v315) v316, .sl (.f32 v317) v318, .sl (.f32 v319) v320] false 0] [.nest 0 0 3 ((v316).length), .int .i64 v321]) {y : Int × (List (List Nat)) × (List (List Nat)) × (List (List Nat))} (hy : laws_markThirdsS_nst_g v315 v316 v317 v318 v319 v320 v321 = some y) : ∃ F' H', Fwd 1 F F' [.nest [.sl (.f32 v315) v316, .sl (.f32 v317) v318, .sl (.f32 v319) v320] false 0] (laws_markThirdsS_nst_enc v315 v316 v317 v318 v319 v320 v321 y).2 ∧ FnOk Try.prog 50 (DVs.av F [.nest 0 0 3 ((v316).length), .int .i64 v321]) F.H0 ((laws_markThirdsS_nst_enc v315 v316 v317 v318 v319 v320 v321 y).1.av F') H' ∧ St F' (laws_markThirdsS_nst_enc v315 v316 v317 v318 v319 v320 v321 y).2 H' ∧ (laws_markThirdsS_nst_enc v315 v316 v317 v318 v319 v320 v321 y).1.Ok F' (laws_markThirdsS_nst_enc v315 v316 v317 v318 v319 v320 v321 y).2 :=
  fn_fin tok laws_markThirdsS_nst_hO mixed Try.func50 Try.call50 (by kernel_rfl) (LoopsOk_eq (l := [(0, bodyOf Try.f50 0)]) (by kernel_rfl) ⟨laws_markThirdsS_nst_l0_ok v315 v316 v317 v318 v319 v320 v321, trivial⟩) (laws_markThirdsS_nst_den v315 v316 v317 v318 v319 v320 v321) hy h0 hA
noncomputable def laws_markThirdsS_nst_F : DFn := fun args L =>
  match args with
  | [a1, .int .i64 v321] =>
    optT (nestN L false 3 a1) fun qn0 =>
    (match qn0.2 with
    | [.sl (.f32 v315) v316, .sl (.f32 v317) v318, .sl (.f32 v319) v320] =>
    (match sepB [qn0.1] [] with
    | true =>
    .call (laws_markThirdsS_nst_g v315 v316 v317 v318 v319 v320 v321) fun y => .grd (decide ((v316).length = (v316).length)) (.leaf (.int .i64 y.1, setB L [(qn0.1, .nest [.sl (.f32 y.2.1) v316, .sl (.f32 y.2.2.1) v318, .sl (.f32 y.2.2.2) v320] false (verAt L qn0.1))] ++ []))
    | false => .fail)
    | _ => .fail)
  | _ => .fail
theorem laws_markThirdsS_nst_Fok : COk Try.prog 50 laws_markThirdsS_nst_F false := by
  intro F L H args r L' hs ha hr
  unfold laws_markThirdsS_nst_F at hr
  split at hr
  · rename_i a1 v321
    obtain ⟨⟨jn0, cn0⟩, hn0, hr⟩ := optT_run hr
    simp only at hr
    split at hr
    · rename_i v315 v316 v317 v318 v319 v320
      obtain ⟨hne0, hnu0, hnl0, hnv0, hnm0, hno0⟩ := nestN_spec hs (DVs.okAt ha 0 rfl) hn0
      split at hr
      · rename_i hsep
        obtain ⟨hnd, hsepv⟩ := sepB_spec hsep
        simp only [Tree.run] at hr
        obtain ⟨y, hy, hr⟩ := Option.bind_eq_some_iff.1 hr
        try simp only [Tree.run] at hr
        obtain ⟨hl0, hr⟩ := ite_run hr
        simp only [Option.some.injEq, Prod.mk.injEq] at hr
        obtain ⟨rfl, rfl⟩ := hr
        exact mutG_ok hs [a1] ⟨(DVs.okAt ha 0 rfl), trivial⟩ [a1, .int .i64 v321] [.nest 0 0 3 ((v316).length), .int .i64 v321] [jn0] [verAt L jn0] [.nest [.sl (.f32 v315) v316, .sl (.f32 v317) v318, .sl (.f32 v319) v320] false 0] [.nest [.sl (.f32 y.2.1) v316, .sl (.f32 y.2.2.1) v318, .sl (.f32 y.2.2.2) v320] false 0] [.nest [.sl (.f32 y.2.1) v316, .sl (.f32 y.2.2.1) v318, .sl (.f32 y.2.2.2) v320] false (verAt L jn0)] [] hnd rfl rfl (fun j hj => by
            simp at hj
            subst hj; exact ex_nest hne0) (fun j hj => by
            simp at hj
            subst hj; exact reach_refs (by simp [DVs.refs, DV.refs, hnu0])) (fun F' h0 hρ ab hpl hS => by
            have ab0 := ab 0 _ rfl;
            have hnx0 : a1.av F = (.nest 0 0 3 ((v316).length) : DV).av F' := nestN_av (hpl 0 _ rfl) hnv0
            refine ⟨fun i j b' h1 h2 => ?_, by simp [DBlk.blk, DVs.av, DV.av, BR.av, hρ, Row.len, hnx0, ab0, ab0], fun hst => laws_markThirdsS_nst_fn v315 v316 v317 v318 v319 v320 v321 F' hst ⟨(nest_ok0 (i := 0) rfl rfl hnm0), trivial, trivial⟩ hy⟩
            rcases i with _ | i
            · simp at h1 h2; subst h1; subst h2; obtain ⟨ver_, hv_⟩ := hne0; exact ⟨_, hv_, .nest _ _ _ _, nest_blk (hpl 0 _ rfl) _ _ _ _, hno0 _ _⟩
            · simp at h1) rfl rfl (fun i j b b' h1 h2 h3 => by
            rcases i with _ | i
            · simp at h1; subst h1; cases h3; exact growN hne0 (by first | exact of_decide_eq_true hl0 | rfl) rfl h2
            · simp at h1)
      · cases hr
    · cases hr
  · cases hr
/-! laws.markFloat32SS -/
noncomputable def laws_markFloat32SS_l0_T (s : Unit) : Tree ((Unit) ⊕ (Unit)) :=
  (.br (decide ((0 : Int) < (0 : Int))) (
  .fail
  ) (
  .leaf (.inr ())
  ))

noncomputable def laws_markFloat32SS_l0_g (s0 : Unit) : Option (Unit) := whileM (fun s => (laws_markFloat32SS_l0_T s).run) s0
def laws_markFloat32SS_l0_E (v413 : Int) (s : Unit) : Sd := ([.nilslc,.int .i64 v413,tp,tp,tp,.int .i64 (0 : Int),tp,tp,tp,tp,tp,tp,tp,tp,tp,tp,tp,tp,tp], [])
def laws_markFloat32SS_l0_X (v413 : Int) (x : Unit) : Out := (.normal, [tp,.int .i64 v413,tp,tp,tp,tp,tp,tp,tp,tp,tp,tp,tp,tp,tp,tp,tp,tp,tp], [])
def laws_markFloat32SS_l0_kill : List Nat := KL true [0,2,3,1,13]
def laws_markFloat32SS_l0_nx : Exit → List Nat
  | .exit 0 => KL true [1,1,17]
  | .ret => KL true [4,1,14]
  | _ => []
noncomputable def laws_markFloat32SS_LO (v413 : Int) : LOr := fun id e L =>
  match id with
  | 0 => .need (normA 0 laws_markFloat32SS_l0_kill e L = some (laws_markFloat32SS_l0_E v413 ())) (.call (laws_markFloat32SS_l0_g ()) fun x => .leaf (laws_markFloat32SS_l0_X v413 x))
  | _ => .fail
noncomputable def laws_markFloat32SS_tab : List (FuncId × DFn × Bool) := []
theorem laws_markFloat32SS_hO : OrcOk Try.prog (tabD laws_markFloat32SS_tab) (tabM laws_markFloat32SS_tab) := tabD_nil _
theorem laws_markFloat32SS_l0_be (v413 : Int) (s : Unit) : bodyT TT (tabD laws_markFloat32SS_tab) (tabM laws_markFloat32SS_tab) (laws_markFloat32SS_LO v413) 0 laws_markFloat32SS_l0_kill laws_markFloat32SS_l0_nx (bodyOf Try.f52 0) 0 (laws_markFloat32SS_l0_E v413 s) = (laws_markFloat32SS_l0_T s).bind fun y => .leaf (outS (laws_markFloat32SS_l0_E v413) (laws_markFloat32SS_l0_X v413) y) := by kernel_rfl
theorem laws_markFloat32SS_l0_ok (v413 : Int) : LSound Try.prog 0 (laws_markFloat32SS_LO v413) 0 (bodyOf Try.f52 0) := by
  intro e L out h
  exact lo_ok (E := laws_markFloat32SS_l0_E v413) (gT := laws_markFloat32SS_l0_T) (X := laws_markFloat32SS_l0_X v413) (s0 := ()) tok laws_markFloat32SS_hO mixed (LoopsOk_eq (l := []) (by kernel_rfl) trivial) (laws_markFloat32SS_l0_be v413) rfl (by intro x; rfl) h
noncomputable def laws_markFloat32SS_T (v413 : Int) : Tree (Int) :=
  (.need (some (laws_markFloat32SS_l0_E v413 ()) = some (laws_markFloat32SS_l0_E v413 ())) <|
  (.call (laws_markFloat32SS_l0_g ()) fun v416 =>
  .leaf v413))

noncomputable def laws_markFloat32SS_g (v413 : Int) : Option (Int) := (laws_markFloat32SS_T v413).run
def laws_markFloat32SS_enc (v413 : Int) (y : Int) : Rs := (.int .i64 y, [])
theorem laws_markFloat32SS_den (v413 : Int) : (den TT (tabD laws_markFloat32SS_tab) (tabM laws_markFloat32SS_tab) (laws_markFloat32SS_LO v413) (codeOf Try.f52) ([.nilslc, .int .i64 v413] ++ List.replicate (Try.f52.ntmps - ([.nilslc, .int .i64 v413] : List DV).length) .undef) []).bind (retD TT Try.f52.results.toList 0) = (laws_markFloat32SS_T v413).bind fun y => .leaf (laws_markFloat32SS_enc v413 y) := by kernel_rfl
theorem laws_markFloat32SS_fn (v413 : Int) (F : Fr) (h0 : St F [] F.H0) (hA : DVs.Ok F [] [.nilslc, .int .i64 v413]) {y : Int} (hy : laws_markFloat32SS_g v413 = some y) : ∃ F' H', Fwd 0 F F' [] (laws_markFloat32SS_enc v413 y).2 ∧ FnOk Try.prog 52 (DVs.av F [.nilslc, .int .i64 v413]) F.H0 ((laws_markFloat32SS_enc v413 y).1.av F') H' ∧ St F' (laws_markFloat32SS_enc v413 y).2 H' ∧ (laws_markFloat32SS_enc v413 y).1.Ok F' (laws_markFloat32SS_enc v413 y).2 :=
  fn_fin tok laws_markFloat32SS_hO mixed Try.func52 Try.call52 (by kernel_rfl) (LoopsOk_eq (l := [(0, bodyOf Try.f52 0)]) (by kernel_rfl) ⟨laws_markFloat32SS_l0_ok v413, trivial⟩) (laws_markFloat32SS_den v413) hy h0 hA
noncomputable def laws_markFloat32SS_F : DFn := fun args L =>
  match args with
  | [.nilslc, .int .i64 v413] =>
    .call (laws_markFloat32SS_g v413) fun y => .leaf (.int .i64 y, L)
  | _ => .fail
theorem laws_markFloat32SS_Fok : COk Try.prog 52 laws_markFloat32SS_F true := by
  intro F L H args r L' hs ha hr
  unfold laws_markFloat32SS_F at hr
  split at hr
  · rename_i v413
    simp only [Tree.run] at hr
    obtain ⟨y, hy, hr⟩ := Option.bind_eq_some_iff.1 hr
    simp only [Tree.run, Option.some.injEq, Prod.mk.injEq] at hr
    obtain ⟨rfl, rfl⟩ := hr
    exact call_ok0 hs (fun k => (([] : List AV)[k]?).getD .top) [.nilslc, .int .i64 v413] [.nilslc, .int .i64 v413] (fun F' h0 hi hρ => ⟨by simp [DVs.av, DV.av, BR.av, hρ], laws_markFloat32SS_fn v413 F' (st_nil hi) ⟨trivial, trivial, trivial⟩ hy⟩) rfl
  · cases hr
/-! laws.heldFloat32SS -/
noncomputable def laws_heldFloat32SS_l0_T (s : Unit) : Tree ((Unit) ⊕ (Unit)) :=
  (.br (decide ((0 : Int) < (0 : Int))) (
  .fail
  ) (
  .leaf (.inr ())
  ))

noncomputable def laws_heldFloat32SS_l0_g (s0 : Unit) : Option (Unit) := whileM (fun s => (laws_heldFloat32SS_l0_T s).run) s0
def laws_heldFloat32SS_l0_E (v418 : Int) (s : Unit) : Sd := ([.nilslc,.int .i64 v418,tp,tp,tp,.int .i64 (0 : Int),tp,tp,tp,tp,tp,tp,tp,tp,tp,tp,tp,tp,tp,tp,tp], [])
def laws_heldFloat32SS_l0_X (v418 : Int) (x : Unit) : Out := (.normal, [tp,.int .i64 v418,tp,tp,tp,tp,tp,tp,tp,tp,tp,tp,tp,tp,tp,tp,tp,tp,tp,tp,tp], [])
def laws_heldFloat32SS_l0_kill : List Nat := KL true [0,2,3,1,15]
def laws_heldFloat32SS_l0_nx : Exit → List Nat
  | .exit 0 => KL true [1,1,19]
  | .ret => KL true [4,1,16]
  | _ => []
noncomputable def laws_heldFloat32SS_LO (v418 : Int) : LOr := fun id e L =>
  match id with
  | 0 => .need (normA 0 laws_heldFloat32SS_l0_kill e L = some (laws_heldFloat32SS_l0_E v418 ())) (.call (laws_heldFloat32SS_l0_g ()) fun x => .leaf (laws_heldFloat32SS_l0_X v418 x))
  | _ => .fail
noncomputable def laws_heldFloat32SS_tab : List (FuncId × DFn × Bool) := []
theorem laws_heldFloat32SS_hO : OrcOk Try.prog (tabD laws_heldFloat32SS_tab) (tabM laws_heldFloat32SS_tab) := tabD_nil _
theorem laws_heldFloat32SS_l0_be (v418 : Int) (s : Unit) : bodyT TT (tabD laws_heldFloat32SS_tab) (tabM laws_heldFloat32SS_tab) (laws_heldFloat32SS_LO v418) 0 laws_heldFloat32SS_l0_kill laws_heldFloat32SS_l0_nx (bodyOf Try.f53 0) 0 (laws_heldFloat32SS_l0_E v418 s) = (laws_heldFloat32SS_l0_T s).bind fun y => .leaf (outS (laws_heldFloat32SS_l0_E v418) (laws_heldFloat32SS_l0_X v418) y) := by kernel_rfl
theorem laws_heldFloat32SS_l0_ok (v418 : Int) : LSound Try.prog 0 (laws_heldFloat32SS_LO v418) 0 (bodyOf Try.f53 0) := by
  intro e L out h
  exact lo_ok (E := laws_heldFloat32SS_l0_E v418) (gT := laws_heldFloat32SS_l0_T) (X := laws_heldFloat32SS_l0_X v418) (s0 := ()) tok laws_heldFloat32SS_hO mixed (LoopsOk_eq (l := []) (by kernel_rfl) trivial) (laws_heldFloat32SS_l0_be v418) rfl (by intro x; rfl) h
noncomputable def laws_heldFloat32SS_T (v418 : Int) : Tree (Int) :=
  (.need (some (laws_heldFloat32SS_l0_E v418 ()) = some (laws_heldFloat32SS_l0_E v418 ())) <|
  (.call (laws_heldFloat32SS_l0_g ()) fun v421 =>
  .leaf v418))

noncomputable def laws_heldFloat32SS_g (v418 : Int) : Option (Int) := (laws_heldFloat32SS_T v418).run
def laws_heldFloat32SS_enc (v418 : Int) (y : Int) : Rs := (.int .i64 y, [])
theorem laws_heldFloat32SS_den (v418 : Int) : (den TT (tabD laws_heldFloat32SS_tab) (tabM laws_heldFloat32SS_tab) (laws_heldFloat32SS_LO v418) (codeOf Try.f53) ([.nilslc, .int .i64 v418] ++ List.replicate (Try.f53.ntmps - ([.nilslc, .int .i64 v418] : List DV).length) .undef) []).bind (retD TT Try.f53.results.toList 0) = (laws_heldFloat32SS_T v418).bind fun y => .leaf (laws_heldFloat32SS_enc v418 y) := by kernel_rfl
theorem laws_heldFloat32SS_fn (v418 : Int) (F : Fr) (h0 : St F [] F.H0) (hA : DVs.Ok F [] [.nilslc, .int .i64 v418]) {y : Int} (hy : laws_heldFloat32SS_g v418 = some y) : ∃ F' H', Fwd 0 F F' [] (laws_heldFloat32SS_enc v418 y).2 ∧ FnOk Try.prog 53 (DVs.av F [.nilslc, .int .i64 v418]) F.H0 ((laws_heldFloat32SS_enc v418 y).1.av F') H' ∧ St F' (laws_heldFloat32SS_enc v418 y).2 H' ∧ (laws_heldFloat32SS_enc v418 y).1.Ok F' (laws_heldFloat32SS_enc v418 y).2 :=
  fn_fin tok laws_heldFloat32SS_hO mixed Try.func53 Try.call53 (by kernel_rfl) (LoopsOk_eq (l := [(0, bodyOf Try.f53 0)]) (by kernel_rfl) ⟨laws_heldFloat32SS_l0_ok v418, trivial⟩) (laws_heldFloat32SS_den v418) hy h0 hA
noncomputable def laws_heldFloat32SS_F : DFn := fun args L =>
  match args with
  | [.nilslc, .int .i64 v418] =>
    .call (laws_heldFloat32SS_g v418) fun y => .leaf (.int .i64 y, L)
  | _ => .fail
theorem laws_heldFloat32SS_Fok : COk Try.prog 53 laws_heldFloat32SS_F true := by
  intro F L H args r L' hs ha hr
  unfold laws_heldFloat32SS_F at hr
  split at hr
  · rename_i v418
    simp only [Tree.run] at hr
    obtain ⟨y, hy, hr⟩ := Option.bind_eq_some_iff.1 hr
    simp only [Tree.run, Option.some.injEq, Prod.mk.injEq] at hr
    obtain ⟨rfl, rfl⟩ := hr
    exact call_ok0 hs (fun k => (([] : List AV)[k]?).getD .top) [.nilslc, .int .i64 v418] [.nilslc, .int .i64 v418] (fun F' h0 hi hρ => ⟨by simp [DVs.av, DV.av, BR.av, hρ], laws_heldFloat32SS_fn v418 F' (st_nil hi) ⟨trivial, trivial, trivial⟩ hy⟩) rfl
  · cases hr
/-! laws.eqFloat32SS -/
noncomputable def laws_eqFloat32SS_nst_l0_T (v431 : List Nat) (s : Unit) : Tree ((Unit) ⊕ (Unit)) :=
  (.br (decide ((0 : Int) < (((v431).length : Nat) : Int))) (
  (.grd (inb (0 : Int) ((v431).length)) <|
  .fail)
  ) (
  .leaf (.inr ())
  ))

noncomputable def laws_eqFloat32SS_nst_l0_g (v431 : List Nat) (s0 : Unit) : Option (Unit) := whileM (fun s => (laws_eqFloat32SS_nst_l0_T v431 s).run) s0
def laws_eqFloat32SS_nst_l0_E (v430 : List (List Nat)) (v431 : List Nat) (s : Unit) : Sd := ([.nest 0 0 1 ((v431).length),.nilslc,tp,tp,tp,.int .i64 (0 : Int),tp,tp,tp,tp,tp,tp,tp,tp,tp,tp,tp,tp,tp,tp,tp,tp,tp,tp,tp,tp,tp], [.nest [.sl (.f32 v430) v431] false 0])
def laws_eqFloat32SS_nst_l0_X (v430 : List (List Nat)) (v431 : List Nat) (x : Unit) : Out := (.normal, [tp,tp,tp,tp,tp,tp,tp,tp,tp,tp,tp,tp,tp,tp,tp,tp,tp,tp,tp,tp,tp,tp,tp,tp,tp,tp,tp], [.nest [.sl (.f32 v430) v431] false 0])
def laws_eqFloat32SS_nst_l0_kill : List Nat := KL true [0,2,3,1,21]
def laws_eqFloat32SS_nst_l0_nx : Exit → List Nat
  | .exit 0 => KL true [27]
  | .ret => KL true [4,1,22]
  | _ => []
noncomputable def laws_eqFloat32SS_nst_LO (v430 : List (List Nat)) (v431 : List Nat) : LOr := fun id e L =>
  match id with
  | 0 => .need (normA 1 laws_eqFloat32SS_nst_l0_kill e L = some (laws_eqFloat32SS_nst_l0_E v430 v431 ())) (.call (laws_eqFloat32SS_nst_l0_g v431 ()) fun x => .leaf (laws_eqFloat32SS_nst_l0_X v430 v431 x))
  | _ => .fail
noncomputable def laws_eqFloat32SS_nst_tab : List (FuncId × DFn × Bool) := []
theorem laws_eqFloat32SS_nst_hO : OrcOk Try.prog (tabD laws_eqFloat32SS_nst_tab) (tabM laws_eqFloat32SS_nst_tab) := tabD_nil _
theorem laws_eqFloat32SS_nst_l0_be (v430 : List (List Nat)) (v431 : List Nat) (s : Unit) : bodyT TT (tabD laws_eqFloat32SS_nst_tab) (tabM laws_eqFloat32SS_nst_tab) (laws_eqFloat32SS_nst_LO v430 v431) 1 laws_eqFloat32SS_nst_l0_kill laws_eqFloat32SS_nst_l0_nx (bodyOf Try.f47 0) 0 (laws_eqFloat32SS_nst_l0_E v430 v431 s) = (laws_eqFloat32SS_nst_l0_T v431 s).bind fun y => .leaf (outS (laws_eqFloat32SS_nst_l0_E v430 v431) (laws_eqFloat32SS_nst_l0_X v430 v431) y) := by kernel_rfl
theorem laws_eqFloat32SS_nst_l0_ok (v430 : List (List Nat)) (v431 : List Nat) : LSound Try.prog 1 (laws_eqFloat32SS_nst_LO v430 v431) 0 (bodyOf Try.f47 0) := by
  intro e L out h
  exact lo_ok (E := laws_eqFloat32SS_nst_l0_E v430 v431) (gT := laws_eqFloat32SS_nst_l0_T v431) (X := laws_eqFloat32SS_nst_l0_X v430 v431) (s0 := ()) tok laws_eqFloat32SS_nst_hO mixed (LoopsOk_eq (l := []) (by kernel_rfl) trivial) (laws_eqFloat32SS_nst_l0_be v430 v431) rfl (by intro x; rfl) h
noncomputable def laws_eqFloat32SS_nst_T (v430 : List (List Nat)) (v431 : List Nat) : Tree (Bool) :=
  (.br (!decide ((((v431).length : Nat) : Int) = (0 : Int))) (
  .leaf false
  ) (
  (.need (some (laws_eqFloat32SS_nst_l0_E v430 v431 ()) = some (laws_eqFloat32SS_nst_l0_E v430 v431 ())) <|
  (.call (laws_eqFloat32SS_nst_l0_g v431 ()) fun v433 =>
  .leaf true))
  ))

noncomputable def laws_eqFloat32SS_nst_g (v430 : List (List Nat)) (v431 : List Nat) : Option (Bool) := (laws_eqFloat32SS_nst_T v430 v431).run
def laws_eqFloat32SS_nst_enc (v430 : List (List Nat)) (v431 : List Nat) (y : Bool) : Rs := (.bool y, [.nest [.sl (.f32 v430) v431] false 0])
theorem laws_eqFloat32SS_nst_den (v430 : List (List Nat)) (v431 : List Nat) : (den TT (tabD laws_eqFloat32SS_nst_tab) (tabM laws_eqFloat32SS_nst_tab) (laws_eqFloat32SS_nst_LO v430 v431) (codeOf Try.f47) ([.nest 0 0 1 ((v431).length), .nilslc] ++ List.replicate (Try.f47.ntmps - ([.nest 0 0 1 ((v431).length), .nilslc] : List DV).length) .undef) [.nest [.sl (.f32 v430) v431] false 0]).bind (retD TT Try.f47.results.toList 1) = (laws_eqFloat32SS_nst_T v430 v431).bind fun y => .leaf (laws_eqFloat32SS_nst_enc v430 v431 y) := by kernel_rfl
theorem laws_eqFloat32SS_nst_fn (v430 : List (List Nat)) (v431 : List Nat) (F : Fr) (h0 : St F [.nest [.sl (.f32 v430) v431] false 0] F.H0) (hA : DVs.Ok F [.nest [.sl (.f32 v430) v431] false 0] [.nest 0 0 1 ((v431).length), .nilslc]) {y : Bool} (hy : laws_eqFloat32SS_nst_g v430 v431 = some y) : ∃ F' H', Fwd 1 F F' [.nest [.sl (.f32 v430) v431] false 0] (laws_eqFloat32SS_nst_enc v430 v431 y).2 ∧ FnOk Try.prog 47 (DVs.av F [.nest 0 0 1 ((v431).length), .nilslc]) F.H0 ((laws_eqFloat32SS_nst_enc v430 v431 y).1.av F') H' ∧ St F' (laws_eqFloat32SS_nst_enc v430 v431 y).2 H' ∧ (laws_eqFloat32SS_nst_enc v430 v431 y).1.Ok F' (laws_eqFloat32SS_nst_enc v430 v431 y).2 :=
  fn_fin tok laws_eqFloat32SS_nst_hO mixed Try.func47 Try.call47 (by kernel_rfl) (LoopsOk_eq (l := [(0, bodyOf Try.f47 0)]) (by kernel_rfl) ⟨laws_eqFloat32SS_nst_l0_ok v430 v431, trivial⟩) (laws_eqFloat32SS_nst_den v430 v431) hy h0 hA
noncomputable def laws_eqFloat32SS_nst_F : DFn := fun args L =>
  match args with
  | [a1, .nilslc] =>
    optT (nestN L false 1 a1) fun qn0 =>
    (match qn0.2 with
    | [.sl (.f32 v430) v431] =>
    (match sepB [qn0.1] [] with
    | true =>
    .call (laws_eqFloat32SS_nst_g v430 v431) fun y => .grd (decide ((v431).length = (v431).length)) (.leaf (.bool y, setB L [(qn0.1, .nest [.sl (.f32 v430) v431] false (verAt L qn0.1))] ++ []))
    | false => .fail)
    | _ => .fail)
  | _ => .fail
theorem laws_eqFloat32SS_nst_Fok : COk Try.prog 47 laws_eqFloat32SS_nst_F false := by
  intro F L H args r L' hs ha hr
  unfold laws_eqFloat32SS_nst_F at hr
  split at hr
  · rename_i a1
    obtain ⟨⟨jn0, cn0⟩, hn0, hr⟩ := optT_run hr
    simp only at hr
    split at hr
    · rename_i v430 v431
      obtain ⟨hne0, hnu0, hnl0, hnv0, hnm0, hno0⟩ := nestN_spec hs (DVs.okAt ha 0 rfl) hn0
      split at hr
      · rename_i hsep
        obtain ⟨hnd, hsepv⟩ := sepB_spec hsep
        simp only [Tree.run] at hr
        obtain ⟨y, hy, hr⟩ := Option.bind_eq_some_iff.1 hr
        try simp only [Tree.run] at hr
        obtain ⟨hl0, hr⟩ := ite_run hr
        simp only [Option.some.injEq, Prod.mk.injEq] at hr
        obtain ⟨rfl, rfl⟩ := hr
        exact mutG_ok hs [a1] ⟨(DVs.okAt ha 0 rfl), trivial⟩ [a1, .nilslc] [.nest 0 0 1 ((v431).length), .nilslc] [jn0] [verAt L jn0] [.nest [.sl (.f32 v430) v431] false 0] [.nest [.sl (.f32 v430) v431] false 0] [.nest [.sl (.f32 v430) v431] false (verAt L jn0)] [] hnd rfl rfl (fun j hj => by
            simp at hj
            subst hj; exact ex_nest hne0) (fun j hj => by
            simp at hj
            subst hj; exact reach_refs (by simp [DVs.refs, DV.refs, hnu0])) (fun F' h0 hρ ab hpl hS => by
            have ab0 := ab 0 _ rfl;
            have hnx0 : a1.av F = (.nest 0 0 1 ((v431).length) : DV).av F' := nestN_av (hpl 0 _ rfl) hnv0
            refine ⟨fun i j b' h1 h2 => ?_, by simp [DBlk.blk, DVs.av, DV.av, BR.av, hρ, Row.len, hnx0, ab0, ab0], fun hst => laws_eqFloat32SS_nst_fn v430 v431 F' hst ⟨(nest_ok0 (i := 0) rfl rfl hnm0), trivial, trivial⟩ hy⟩
            rcases i with _ | i
            · simp at h1 h2; subst h1; subst h2; obtain ⟨ver_, hv_⟩ := hne0; exact ⟨_, hv_, .nest _ _ _ _, nest_blk (hpl 0 _ rfl) _ _ _ _, hno0 _ _⟩
            · simp at h1) rfl rfl (fun i j b b' h1 h2 h3 => by
            rcases i with _ | i
            · simp at h1; subst h1; cases h3; exact growN hne0 (by first | exact of_decide_eq_true hl0 | rfl) rfl h2
            · simp at h1)
      · cases hr
    · cases hr
  · cases hr
/-! laws.markFloat32S -/
noncomputable def laws_markFloat32S_nst_i3_l0_T (v451 : Nat) (s : Int × Int × (List (List Nat))) : Tree ((Int × Int × (List (List Nat))) ⊕ (Int × (List (List Nat)))) :=
  (.br (decide (s.2.1 < (((nget s.2.2 v451).length : Nat) : Int))) (
  (.grd (inb s.2.1 ((nget s.2.2 v451).length)) <|
  .leaf (.inl (IntKind.i64.wrap (s.1 + (1 : Int)), IntKind.i64.wrap (s.2.1 + (1 : Int)), List.set s.2.2 (v451 - 1) (List.set (nget s.2.2 v451) (Int.toNat s.2.1) (fofint .f32 s.1)))))
  ) (
  .leaf (.inr (s.1, s.2.2))
  ))

noncomputable def laws_markFloat32S_nst_i3_l0_g (v451 : Nat) (s0 : Int × Int × (List (List Nat))) : Option (Int × (List (List Nat))) := whileM (fun s => (laws_markFloat32S_nst_i3_l0_T v451 s).run) s0
def laws_markFloat32S_nst_i3_l0_E (v449 : List (List Nat)) (v450 : List Nat) (v451 : Nat) (v452 : Int) (s : Int × Int × (List (List Nat))) : Sd := ([.inn 0 0 v451 ((nget s.2.2 v451).length),.int .i64 s.1,tp,tp,tp,.int .i64 s.2.1,tp,tp,tp,tp,tp,tp,tp,tp,tp,tp,tp,tp,tp,tp], [.nest [.sl (.f32 s.2.2) v450] false 0])
def laws_markFloat32S_nst_i3_l0_X (v449 : List (List Nat)) (v450 : List Nat) (v451 : Nat) (v452 : Int) (x : Int × (List (List Nat))) : Out := (.normal, [tp,.int .i64 x.1,tp,tp,tp,tp,tp,tp,tp,tp,tp,tp,tp,tp,tp,tp,tp,tp,tp,tp], [.nest [.sl (.f32 x.2) v450] false 0])
def laws_markFloat32S_nst_i3_l0_kill : List Nat := KL true [0,2,3,1,14]
def laws_markFloat32S_nst_i3_l0_nx : Exit → List Nat
  | .exit 0 => KL true [1,1,18]
  | .ret => KL true [4,1,15]
  | _ => []
noncomputable def laws_markFloat32S_nst_i3_LO (v449 : List (List Nat)) (v450 : List Nat) (v451 : Nat) (v452 : Int) : LOr := fun id e L =>
  match id with
  | 0 => .need (normA 1 laws_markFloat32S_nst_i3_l0_kill e L = some (laws_markFloat32S_nst_i3_l0_E v449 v450 v451 v452 ((gI (vAt e 1)), (gI (vAt e 5)), (gPF L (vAt e 0) 0)))) (.call (laws_markFloat32S_nst_i3_l0_g v451 ((gI (vAt e 1)), (gI (vAt e 5)), (gPF L (vAt e 0) 0))) fun x => .leaf (laws_markFloat32S_nst_i3_l0_X v449 v450 v451 v452 x))
  | _ => .fail
noncomputable def laws_markFloat32S_nst_i3_tab : List (FuncId × DFn × Bool) := []
theorem laws_markFloat32S_nst_i3_hO : OrcOk Try.prog (tabD laws_markFloat32S_nst_i3_tab) (tabM laws_markFloat32S_nst_i3_tab) := tabD_nil _
theorem laws_markFloat32S_nst_i3_l0_be (v449 : List (List Nat)) (v450 : List Nat) (v451 : Nat) (v452 : Int) (s : Int × Int × (List (List Nat))) : bodyT TT (tabD laws_markFloat32S_nst_i3_tab) (tabM laws_markFloat32S_nst_i3_tab) (laws_markFloat32S_nst_i3_LO v449 v450 v451 v452) 1 laws_markFloat32S_nst_i3_l0_kill laws_markFloat32S_nst_i3_l0_nx (bodyOf Try.f51 0) 0 (laws_markFloat32S_nst_i3_l0_E v449 v450 v451 v452 s) = (laws_markFloat32S_nst_i3_l0_T v451 s).bind fun y => .leaf (outS (laws_markFloat32S_nst_i3_l0_E v449 v450 v451 v452) (laws_markFloat32S_nst_i3_l0_X v449 v450 v451 v452) y) := by kernel_rfl
theorem laws_markFloat32S_nst_i3_l0_ok (v449 : List (List Nat)) (v450 : List Nat) (v451 : Nat) (v452 : Int) : LSound Try.prog 1 (laws_markFloat32S_nst_i3_LO v449 v450 v451 v452) 0 (bodyOf Try.f51 0) := by
  intro e L out h
  exact lo_ok (E := laws_markFloat32S_nst_i3_l0_E v449 v450 v451 v452) (gT := laws_markFloat32S_nst_i3_l0_T v451) (X := laws_markFloat32S_nst_i3_l0_X v449 v450 v451 v452) (s0 := ((gI (vAt e 1)), (gI (vAt e 5)), (gPF L (vAt e 0) 0))) tok laws_markFloat32S_nst_i3_hO mixed (LoopsOk_eq (l := []) (by kernel_rfl) trivial) (laws_markFloat32S_nst_i3_l0_be v449 v450 v451 v452) rfl (by intro x; rfl) h
noncomputable def laws_markFloat32S_nst_i3_T (v449 : List (List Nat)) (v450 : List Nat) (v451 : Nat) (v452 : Int) : Tree (Int × (List (List Nat))) :=
  (.need (some (laws_markFloat32S_nst_i3_l0_E v449 v450 v451 v452 (v452, (0 : Int), v449)) = some (laws_markFloat32S_nst_i3_l0_E v449 v450 v451 v452 (v452, (0 : Int), v449))) <|
  (.call (laws_markFloat32S_nst_i3_l0_g v451 (v452, (0 : Int), v449)) fun v461 =>
  .leaf (v461.1, v461.2)))

noncomputable def laws_markFloat32S_nst_i3_g (v449 : List (List Nat)) (v450 : List Nat) (v451 : Nat) (v452 : Int) : Option (Int × (List (List Nat))) := (laws_markFloat32S_nst_i3_T v449 v450 v451 v452).run
def laws_markFloat32S_nst_i3_enc (v449 : List (List Nat)) (v450 : List Nat) (v451 : Nat) (v452 : Int) (y : Int × (List (List Nat))) : Rs := (.int .i64 y.1, [.nest [.sl (.f32 y.2) v450] false 0])
theorem laws_markFloat32S_nst_i3_den (v449 : List (List Nat)) (v450 : List Nat) (v451 : Nat) (v452 : Int) : (den TT (tabD laws_markFloat32S_nst_i3_tab) (tabM laws_markFloat32S_nst_i3_tab) (laws_markFloat32S_nst_i3_LO v449 v450 v451 v452) (codeOf Try.f51) ([.inn 0 0 v451 ((nget v449 v451).length), .int .i64 v452] ++ List.replicate (Try.f51.ntmps - ([.inn 0 0 v451 ((nget v449 v451).length), .int .i64 v452] : List DV).length) .undef) [.nest [.sl (.f32 v449) v450] false 0]).bind (retD TT Try.f51.results.toList 1) = (laws_markFloat32S_nst_i3_T v449 v450 v451 v452).bind fun y => .leaf (laws_markFloat32S_nst_i3_enc v449 v450 v451 v452 y) := by kernel_rfl
theorem laws_markFloat32S_nst_i3_fn (v449 : List (List Nat)) (v450 : List Nat) (v451 : Nat) (v452 : Int) (F : Fr) (h0 : St F [.nest [.sl (.f32 v449) v450] false 0] F.H0) (hA : DVs.Ok F [.nest [.sl (.f32 v449) v450] false 0] [.inn 0 0 v451 ((nget v449 v451).length), .int .i64 v452]) {y : Int × (List (List Nat))} (hy : laws_markFloat32S_nst_i3_g v449 v450 v451 v452 = some y) : ∃ F' H', Fwd 1 F F' [.nest [.sl (.f32 v449) v450] false 0] (laws_markFloat32S_nst_i3_enc v449 v450 v451 v452 y).2 ∧ FnOk Try.prog 51 (DVs.av F [.inn 0 0 v451 ((nget v449 v451).length), .int .i64 v452]) F.H0 ((laws_markFloat32S_nst_i3_enc v449 v450 v451 v452 y).1.av F') H' ∧ St F' (laws_markFloat32S_nst_i3_enc v449 v450 v451 v452 y).2 H' ∧ (laws_markFloat32S_nst_i3_enc v449 v450 v451 v452 y).1.Ok F' (laws_markFloat32S_nst_i3_enc v449 v450 v451 v452 y).2 :=
  fn_fin tok laws_markFloat32S_nst_i3_hO mixed Try.func51 Try.call51 (by kernel_rfl) (LoopsOk_eq (l := [(0, bodyOf Try.f51 0)]) (by kernel_rfl) ⟨laws_markFloat32S_nst_i3_l0_ok v449 v450 v451 v452, trivial⟩) (laws_markFloat32S_nst_i3_den v449 v450 v451 v452) hy h0 hA
noncomputable def laws_markFloat32S_nst_i3_F : DFn := fun args L =>
  match args with
  | [a1, .int .i64 v452] =>
    optT (nestI L false 1 a1) fun qn0 =>
    (match qn0.2 with
    | [.sl (.f32 v449) v450] =>
    optT (innK qn0.1 0 a1) fun v451 =>
    (match sepB [qn0.1] [] with
    | true =>
    .call (laws_markFloat32S_nst_i3_g v449 v450 v451 v452) fun y => .grd (decide ((v450).length = (v450).length)) (.leaf (.int .i64 y.1, setB L [(qn0.1, .nest [.sl (.f32 y.2) v450] false (verAt L qn0.1))] ++ []))
    | false => .fail)
    | _ => .fail)
  | _ => .fail
theorem laws_markFloat32S_nst_i3_Fok : COk Try.prog 51 laws_markFloat32S_nst_i3_F false := by
  intro F L H args r L' hs ha hr
  unfold laws_markFloat32S_nst_i3_F at hr
  split at hr
  · rename_i a1 v452
    obtain ⟨⟨jn0, cn0⟩, hn0, hr⟩ := optT_run hr
    simp only at hr
    split at hr
    · rename_i v449 v450
      obtain ⟨hne0, hnu0, hnl0, hno0⟩ := nestI_spec hs hn0
      obtain ⟨v451, hk0, hr⟩ := optT_run hr
      have hik0 := innK_spec (c := 0) (DVs.okAt ha 0 rfl) hk0 hne0 rfl
      split at hr
      · rename_i hsep
        obtain ⟨hnd, hsepv⟩ := sepB_spec hsep
        simp only [Tree.run] at hr
        obtain ⟨y, hy, hr⟩ := Option.bind_eq_some_iff.1 hr
        try simp only [Tree.run] at hr
        obtain ⟨hl0, hr⟩ := ite_run hr
        simp only [Option.some.injEq, Prod.mk.injEq] at hr
        obtain ⟨rfl, rfl⟩ := hr
        exact mutG_ok hs [a1] ⟨(DVs.okAt ha 0 rfl), trivial⟩ [a1, .int .i64 v452] [.inn 0 0 v451 ((nget v449 v451).length), .int .i64 v452] [jn0] [verAt L jn0] [.nest [.sl (.f32 v449) v450] false 0] [.nest [.sl (.f32 y.2) v450] false 0] [.nest [.sl (.f32 y.2) v450] false (verAt L jn0)] [] hnd rfl rfl (fun j hj => by
            simp at hj
            subst hj; exact ex_nest hne0) (fun j hj => by
            simp at hj
            subst hj; exact reach_refs (by simp [DVs.refs, DV.refs, hnu0])) (fun F' h0 hρ ab hpl hS => by
            have ab0 := ab 0 _ rfl;
            have hnx0 : a1.av F = (.inn 0 0 v451 ((nget v449 v451).length) : DV).av F' := innK_av (hpl 0 _ rfl) hik0.1
            refine ⟨fun i j b' h1 h2 => ?_, by simp [DBlk.blk, DVs.av, DV.av, BR.av, hρ, Row.len, hnx0, ab0, ab0], fun hst => laws_markFloat32S_nst_i3_fn v449 v450 v451 v452 F' hst ⟨(innK_ok (i := 0) rfl rfl hik0.2.1 hik0.2.2), trivial, trivial⟩ hy⟩
            rcases i with _ | i
            · simp at h1 h2; subst h1; subst h2; obtain ⟨ver_, hv_⟩ := hne0; exact ⟨_, hv_, .nest _ _ _ _, nest_blk (hpl 0 _ rfl) _ _ _ _, hno0 _ _⟩
            · simp at h1) rfl rfl (fun i j b b' h1 h2 h3 => by
            rcases i with _ | i
            · simp at h1; subst h1; cases h3; exact growN hne0 (by first | exact of_decide_eq_true hl0 | rfl) rfl h2
            · simp at h1)
      · cases hr
    · cases hr
  · cases hr
/-! laws.markFloat32SS -/
noncomputable def laws_markFloat32SS_nst_l0_T (v445 : List Nat) (s : Int × Int × (List (List Nat))) : Tree ((Int × Int × (List (List Nat))) ⊕ (Int × (List (List Nat)))) :=
  (.br (decide (s.2.1 < (((v445).length : Nat) : Int))) (
  (.grd (inb s.2.1 ((v445).length)) <|
  (.call (laws_markFloat32S_nst_i3_g s.2.2 v445 (nth v445 (Int.toNat s.2.1)) s.1) fun v470 =>
  (.grd (decide ((v445).length = (v445).length)) <|
  .leaf (.inl (v470.1, IntKind.i64.wrap (s.2.1 + (1 : Int)), v470.2)))))
  ) (
  .leaf (.inr (s.1, s.2.2))
  ))

noncomputable def laws_markFloat32SS_nst_l0_g (v445 : List Nat) (s0 : Int × Int × (List (List Nat))) : Option (Int × (List (List Nat))) := whileM (fun s => (laws_markFloat32SS_nst_l0_T v445 s).run) s0
def laws_markFloat32SS_nst_l0_E (v444 : List (List Nat)) (v445 : List Nat) (v446 : Int) (s : Int × Int × (List (List Nat))) : Sd := ([.nest 0 0 1 ((v445).length),.int .i64 s.1,tp,tp,tp,.int .i64 s.2.1,tp,tp,tp,tp,tp,tp,tp,tp,tp,tp,tp,tp,tp], [.nest [.sl (.f32 s.2.2) v445] false 0])
def laws_markFloat32SS_nst_l0_X (v444 : List (List Nat)) (v445 : List Nat) (v446 : Int) (x : Int × (List (List Nat))) : Out := (.normal, [tp,.int .i64 x.1,tp,tp,tp,tp,tp,tp,tp,tp,tp,tp,tp,tp,tp,tp,tp,tp,tp], [.nest [.sl (.f32 x.2) v445] false 0])
def laws_markFloat32SS_nst_l0_kill : List Nat := KL true [0,2,3,1,13]
def laws_markFloat32SS_nst_l0_nx : Exit → List Nat
  | .exit 0 => KL true [1,1,17]
  | .ret => KL true [4,1,14]
  | _ => []
noncomputable def laws_markFloat32SS_nst_LO (v444 : List (List Nat)) (v445 : List Nat) (v446 : Int) : LOr := fun id e L =>
  match id with
  | 0 => .need (normA 1 laws_markFloat32SS_nst_l0_kill e L = some (laws_markFloat32SS_nst_l0_E v444 v445 v446 ((gI (vAt e 1)), (gI (vAt e 5)), (gPF L (vAt e 0) 0)))) (.call (laws_markFloat32SS_nst_l0_g v445 ((gI (vAt e 1)), (gI (vAt e 5)), (gPF L (vAt e 0) 0))) fun x => .leaf (laws_markFloat32SS_nst_l0_X v444 v445 v446 x))
  | _ => .fail
noncomputable def laws_markFloat32SS_nst_tab : List (FuncId × DFn × Bool) := [(51, laws_markFloat32S_nst_i3_F, false)]
theorem laws_markFloat32SS_nst_hO : OrcOk Try.prog (tabD laws_markFloat32SS_nst_tab) (tabM laws_markFloat32SS_nst_tab) := tabD_cons laws_markFloat32S_nst_i3_Fok (tabD_nil _)
theorem laws_markFloat32SS_nst_l0_be (v444 : List (List Nat)) (v445 : List Nat) (v446 : Int) (s : Int × Int × (List (List Nat))) : bodyT TT (tabD laws_markFloat32SS_nst_tab) (tabM laws_markFloat32SS_nst_tab) (laws_markFloat32SS_nst_LO v444 v445 v446) 1 laws_markFloat32SS_nst_l0_kill laws_markFloat32SS_nst_l0_nx (bodyOf Try.f52 0) 0 (laws_markFloat32SS_nst_l0_E v444 v445 v446 s) = (laws_markFloat32SS_nst_l0_T v445 s).bind fun y => .leaf (outS (laws_markFloat32SS_nst_l0_E v444 v445 v446) (laws_markFloat32SS_nst_l0_X v444 v445 v446) y) := by kernel_rfl
theorem laws_markFloat32SS_nst_l0_ok (v444 : List (List Nat)) (v445 : List Nat) (v446 : Int) : LSound Try.prog 1 (laws_markFloat32SS_nst_LO v444 v445 v446) 0 (bodyOf Try.f52 0) := by
  intro e L out h
  exact lo_ok (E := laws_markFloat32SS_nst_l0_E v444 v445 v446) (gT := laws_markFloat32SS_nst_l0_T v445) (X := laws_markFloat32SS_nst_l0_X v444 v445 v446) (s0 := ((gI (vAt e 1)), (gI (vAt e 5)), (gPF L (vAt e 0) 0))) tok laws_markFloat32SS_nst_hO mixed (LoopsOk_eq (l := []) (by kernel_rfl) trivial) (laws_markFloat32SS_nst_l0_be v444 v445 v446) rfl (by intro x; rfl) h
noncomputable def laws_markFloat32SS_nst_T (v444 : List (List Nat)) (v445 : List Nat) (v446 : Int) : Tree (Int × (List (List Nat))) :=
  (.need (some (laws_markFloat32SS_nst_l0_E v444 v445 v446 (v446, (0 : Int), v444)) = some (laws_markFloat32SS_nst_l0_E v444 v445 v446 (v446, (0 : Int), v444))) <|
  (.call (laws_markFloat32SS_nst_l0_g v445 (v446, (0 : Int), v444)) fun v471 =>
  .leaf (v471.1, v471.2)))

noncomputable def laws_markFloat32SS_nst_g (v444 : List (List Nat)) (v445 : List Nat) (v446 : Int) : Option (Int × (List (List Nat))) := (laws_markFloat32SS_nst_T v444 v445 v446).run
def laws_markFloat32SS_nst_enc (v444 : List (List Nat)) (v445 : List Nat) (v446 : Int) (y : Int × (List (List Nat))) : Rs := (.int .i64 y.1, [.nest [.sl (.f32 y.2) v445] false 0])
theorem laws_markFloat32SS_nst_den (v444 : List (List Nat)) (v445 : List Nat) (v446 : Int) : (den TT (tabD laws_markFloat32SS_nst_tab) (tabM laws_markFloat32SS_nst_tab) (laws_markFloat32SS_nst_LO v444 v445 v446) (codeOf Try.f52) ([.nest 0 0 1 ((v445).length), .int .i64 v446] ++ List.replicate (Try.f52.ntmps - ([.nest 0 0 1 ((v445).length), .int .i64 v446] : List DV).length) .undef) [.nest [.sl (.f32 v444) v445] false 0]).bind (retD TT Try.f52.results.toList 1) = (laws_markFloat32SS_nst_T v444 v445 v446).bind fun y => .leaf (laws_markFloat32SS_nst_enc v444 v445 v446 y) := by kernel_rfl
theorem laws_markFloat32SS_nst_fn (v444 : List (List Nat)) (v445 : List Nat) (v446 : Int) (F : Fr) (h0 : St F [.nest [.sl (.f32 v444) v445] false 0] F.H0) (hA : DVs.Ok F [.nest [.sl (.f32 v444) v445] false 0] [.nest 0 0 1 ((v445).length), .int .i64 v446]) {y : Int × (List (List Nat))} (hy : laws_markFloat32SS_nst_g v444 v445 v446 = some y) : ∃ F' H', Fwd 1 F F' [.nest [.sl (.f32 v444) v445] false 0] (laws_markFloat32SS_nst_enc v444 v445 v446 y).2 ∧ FnOk Try.prog 52 (DVs.av F [.nest 0 0 1 ((v445).length), .int .i64 v446]) F.H0 ((laws_markFloat32SS_nst_enc v444 v445 v446 y).1.av F') H' ∧ St F' (laws_markFloat32SS_nst_enc v444 v445 v446 y).2 H' ∧ (laws_markFloat32SS_nst_enc v444 v445 v446 y).1.Ok F' (laws_markFloat32SS_nst_enc v444 v445 v446 y).2 :=
  fn_fin tok laws_markFloat32SS_nst_hO mixed Try.func52 Try.call52 (by kernel_rfl) (LoopsOk_eq (l := [(0, bodyOf Try.f52 0)]) (by kernel_rfl) ⟨laws_markFloat32SS_nst_l0_ok v444 v445 v446, trivial⟩) (laws_markFloat32SS_nst_den v444 v445 v446) hy h0 hA
noncomputable def laws_markFloat32SS_nst_F : DFn := fun args L =>
  match args with
  | [a1, .int .i64 v446] =>
    optT (nestN L false 1 a1) fun qn0 =>
    (match qn0.2 with
    | [.sl (.f32 v444) v445] =>
    (match sepB [qn0.1] [] with
    | true =>
    .call (laws_markFloat32SS_nst_g v444 v445 v446) fun y => .grd (decide ((v445).length = (v445).length)) (.leaf (.int .i64 y.1, setB L [(qn0.1, .nest [.sl (.f32 y.2) v445] false (verAt L qn0.1))] ++ []))
    | false => .fail)
    | _ => .fail)
  | _ => .fail
theorem laws_markFloat32SS_nst_Fok : COk Try.prog 52 laws_markFloat32SS_nst_F false := by
  intro F L H args r L' hs ha hr
  unfold laws_markFloat32SS_nst_F at hr
  split at hr
  · rename_i a1 v446
    obtain ⟨⟨jn0, cn0⟩, hn0, hr⟩ := optT_run hr
    simp only at hr
    split at hr
    · rename_i v444 v445
      obtain ⟨hne0, hnu0, hnl0, hnv0, hnm0, hno0⟩ := nestN_spec hs (DVs.okAt ha 0 rfl) hn0
      split at hr
      · rename_i hsep
        obtain ⟨hnd, hsepv⟩ := sepB_spec hsep
        simp only [Tree.run] at hr
        obtain ⟨y, hy, hr⟩ := Option.bind_eq_some_iff.1 hr
        try simp only [Tree.run] at hr
        obtain ⟨hl0, hr⟩ := ite_run hr
        simp only [Option.some.injEq, Prod.mk.injEq] at hr
        obtain ⟨rfl, rfl⟩ := hr
        exact mutG_ok hs [a1] ⟨(DVs.okAt ha 0 rfl), trivial⟩ [a1, .int .i64 v446] [.nest 0 0 1 ((v445).length), .int .i64 v446] [jn0] [verAt L jn0] [.nest [.sl (.f32 v444) v445] false 0] [.nest [.sl (.f32 y.2) v445] false 0] [.nest [.sl (.f32 y.2) v445] false (verAt L jn0)] [] hnd rfl rfl (fun j hj => by
            simp at hj
            subst hj; exact ex_nest hne0) (fun j hj => by
            simp at hj
            subst hj; exact reach_refs (by simp [DVs.refs, DV.refs, hnu0])) (fun F' h0 hρ ab hpl hS => by
            have ab0 := ab 0 _ rfl;
            have hnx0 : a1.av F = (.nest 0 0 1 ((v445).length) : DV).av F' := nestN_av (hpl 0 _ rfl) hnv0
            refine ⟨fun i j b' h1 h2 => ?_, by simp [DBlk.blk, DVs.av, DV.av, BR.av, hρ, Row.len, hnx0, ab0, ab0], fun hst => laws_markFloat32SS_nst_fn v444 v445 v446 F' hst ⟨(nest_ok0 (i := 0) rfl rfl hnm0), trivial, trivial⟩ hy⟩
            rcases i with _ | i
            · simp at h1 h2; subst h1; subst h2; obtain ⟨ver_, hv_⟩ := hne0; exact ⟨_, hv_, .nest _ _ _ _, nest_blk (hpl 0 _ rfl) _ _ _ _, hno0 _ _⟩
            · simp at h1) rfl rfl (fun i j b b' h1 h2 h3 => by
            rcases i with _ | i
            · simp at h1; subst h1; cases h3; exact growN hne0 (by first | exact of_decide_eq_true hl0 | rfl) rfl h2
            · simp at h1)
      · cases hr
    · cases hr
  · cases hr
/-! laws.heldFloat32S -/
noncomputable def laws_heldFloat32S_l0_T (v478 : List Nat) (s : Int × Int) : Tree ((Int × Int) ⊕ ((Unit) ⊕ (Int))) :=
  (.br (decide (s.2 < ((v478.length : Nat) : Int))) (
  (.grd (inb s.2 v478.length) <|
  (.br (!feq .f32 (nth v478 (Int.toNat s.2)) (fofint .f32 s.1)) (
  .leaf (.inr (.inl ()))
  ) (
  .leaf (.inl (IntKind.i64.wrap (s.1 + (1 : Int)), IntKind.i64.wrap (s.2 + (1 : Int))))
  )))
  ) (
  .leaf (.inr (.inr s.1))
  ))

noncomputable def laws_heldFloat32S_l0_g (v478 : List Nat) (s0 : Int × Int) : Option ((Unit) ⊕ (Int)) := whileM (fun s => (laws_heldFloat32S_l0_T v478 s).run) s0
def laws_heldFloat32S_l0_E (v478 : List Nat) (v479 : Int) (s : Int × Int) : Sd := ([.bslc (BR.root 0) (.f32 v478),.int .i64 s.1,tp,tp,tp,.int .i64 s.2,tp,tp,tp,tp,tp,tp,tp,tp,tp,tp,tp,tp,tp,tp,tp,tp], [])
def laws_heldFloat32S_l0_X (v478 : List Nat) (v479 : Int) (x : (Unit) ⊕ (Int)) : Out := (match x with | .inl x => (.ret, [tp,tp,tp,tp,.int .i64 (-1 : Int),tp,tp,tp,tp,tp,tp,tp,tp,tp,tp,tp,tp,tp,tp,tp,tp,tp], []) | .inr x => (.normal, [tp,.int .i64 x,tp,tp,tp,tp,tp,tp,tp,tp,tp,tp,tp,tp,tp,tp,tp,tp,tp,tp,tp,tp], []))
def laws_heldFloat32S_l0_kill : List Nat := KL true [0,2,3,1,16]
def laws_heldFloat32S_l0_nx : Exit → List Nat
  | .exit 0 => KL true [1,1,20]
  | .ret => KL true [4,1,17]
  | _ => []
noncomputable def laws_heldFloat32S_LO (v478 : List Nat) (v479 : Int) : LOr := fun id e L =>
  match id with
  | 0 => .need (normA 0 laws_heldFloat32S_l0_kill e L = some (laws_heldFloat32S_l0_E v478 v479 ((gI (vAt e 1)), (gI (vAt e 5))))) (.call (laws_heldFloat32S_l0_g v478 ((gI (vAt e 1)), (gI (vAt e 5)))) fun x => .sum x (fun b0 => .leaf (laws_heldFloat32S_l0_X v478 v479 (.inl b0))) (fun c0 => .leaf (laws_heldFloat32S_l0_X v478 v479 (.inr c0))))
  | _ => .fail
noncomputable def laws_heldFloat32S_tab : List (FuncId × DFn × Bool) := []
theorem laws_heldFloat32S_hO : OrcOk Try.prog (tabD laws_heldFloat32S_tab) (tabM laws_heldFloat32S_tab) := tabD_nil _
theorem laws_heldFloat32S_l0_be (v478 : List Nat) (v479 : Int) (s : Int × Int) : bodyT TT (tabD laws_heldFloat32S_tab) (tabM laws_heldFloat32S_tab) (laws_heldFloat32S_LO v478 v479) 0 laws_heldFloat32S_l0_kill laws_heldFloat32S_l0_nx (bodyOf Try.f120 0) 0 (laws_heldFloat32S_l0_E v478 v479 s) = (laws_heldFloat32S_l0_T v478 s).bind fun y => .leaf (outS (laws_heldFloat32S_l0_E v478 v479) (laws_heldFloat32S_l0_X v478 v479) y) := by kernel_rfl
theorem laws_heldFloat32S_l0_ok (v478 : List Nat) (v479 : Int) : LSound Try.prog 0 (laws_heldFloat32S_LO v478 v479) 0 (bodyOf Try.f120 0) := by
  intro e L out h
  exact lo_ok (E := laws_heldFloat32S_l0_E v478 v479) (gT := laws_heldFloat32S_l0_T v478) (X := laws_heldFloat32S_l0_X v478 v479) (s0 := ((gI (vAt e 1)), (gI (vAt e 5)))) tok laws_heldFloat32S_hO mixed (LoopsOk_eq (l := []) (by kernel_rfl) trivial) (laws_heldFloat32S_l0_be v478 v479) rfl (by intro x; (cases x with | inl b => rfl | inr x => exact rfl)) h
noncomputable def laws_heldFloat32S_T (v478 : List Nat) (v479 : Int) : Tree (Int) :=
  (.need (some (laws_heldFloat32S_l0_E v478 v479 (v479, (0 : Int))) = some (laws_heldFloat32S_l0_E v478 v479 (v479, (0 : Int)))) <|
  (.call (laws_heldFloat32S_l0_g v478 (v479, (0 : Int))) fun v486 =>
  (.sum v486 (fun v487 =>
  .leaf (-1 : Int)
  ) (fun v488 =>
  .leaf v488
  ))))

noncomputable def laws_heldFloat32S_g (v478 : List Nat) (v479 : Int) : Option (Int) := (laws_heldFloat32S_T v478 v479).run
def laws_heldFloat32S_enc (v478 : List Nat) (v479 : Int) (y : Int) : Rs := (.int .i64 y, [])
theorem laws_heldFloat32S_den (v478 : List Nat) (v479 : Int) : (den TT (tabD laws_heldFloat32S_tab) (tabM laws_heldFloat32S_tab) (laws_heldFloat32S_LO v478 v479) (codeOf Try.f120) ([.bslc (BR.root 0) (.f32 v478), .int .i64 v479] ++ List.replicate (Try.f120.ntmps - ([.bslc (BR.root 0) (.f32 v478), .int .i64 v479] : List DV).length) .undef) []).bind (retD TT Try.f120.results.toList 0) = (laws_heldFloat32S_T v478 v479).bind fun y => .leaf (laws_heldFloat32S_enc v478 v479 y) := by kernel_rfl
theorem laws_heldFloat32S_fn (v478 : List Nat) (v479 : Int) (F : Fr) (h0 : St F [] F.H0) (hA : DVs.Ok F [] [.bslc (BR.root 0) (.f32 v478), .int .i64 v479]) {y : Int} (hy : laws_heldFloat32S_g v478 v479 = some y) : ∃ F' H', Fwd 0 F F' [] (laws_heldFloat32S_enc v478 v479 y).2 ∧ FnOk Try.prog 120 (DVs.av F [.bslc (BR.root 0) (.f32 v478), .int .i64 v479]) F.H0 ((laws_heldFloat32S_enc v478 v479 y).1.av F') H' ∧ St F' (laws_heldFloat32S_enc v478 v479 y).2 H' ∧ (laws_heldFloat32S_enc v478 v479 y).1.Ok F' (laws_heldFloat32S_enc v478 v479 y).2 :=
  fn_fin tok laws_heldFloat32S_hO mixed Try.func120 Try.call120 (by kernel_rfl) (LoopsOk_eq (l := [(0, bodyOf Try.f120 0)]) (by kernel_rfl) ⟨laws_heldFloat32S_l0_ok v478 v479, trivial⟩) (laws_heldFloat32S_den v478 v479) hy h0 hA
noncomputable def laws_heldFloat32S_F : DFn := fun args L =>
  match args with
  | [a1, .int .i64 v479] =>
    optT (rowF32 L a1) fun v478 =>
    .call (laws_heldFloat32S_g v478 v479) fun y => .leaf (.int .i64 y, L)
  | _ => .fail
theorem laws_heldFloat32S_Fok : COk Try.prog 120 laws_heldFloat32S_F true := by
  intro F L H args r L' hs ha hr
  unfold laws_heldFloat32S_F at hr
  split at hr
  · rename_i a1 v479
    obtain ⟨v478, hv478, hr⟩ := optT_run hr
    simp only [Tree.run] at hr
    obtain ⟨y, hy, hr⟩ := Option.bind_eq_some_iff.1 hr
    simp only [Tree.run, Option.some.injEq, Prod.mk.injEq] at hr
    obtain ⟨rfl, rfl⟩ := hr
    exact call_ok0 hs (fun k => (([a1.av F] : List AV)[k]?).getD .top) [a1, .int .i64 v479] [.bslc (BR.root 0) (.f32 v478), .int .i64 v479] (fun F' h0 hi hρ => ⟨by simp [DVs.av, DV.av, BR.av, hρ], laws_heldFloat32S_fn v478 v479 F' (st_nil hi) ⟨bslc_ok hi (by rw [h0, hρ]; exact rowF32_ok hs (DVs.okAt ha 0 rfl) hv478), trivial, trivial⟩ hy⟩) rfl
  · cases hr
/-! laws.heldFloat32SS -/
noncomputable def laws_heldFloat32SS_nst_l0_T (v473 : List (List Nat)) (v474 : List Nat) (s : Int × Int) : Tree ((Int × Int) ⊕ ((Unit) ⊕ (Int))) :=
  (.br (decide (s.2 < (((v474).length : Nat) : Int))) (
  (.grd (inb s.2 ((v474).length)) <|
  (.call (laws_heldFloat32S_g (nget v473 (nth v474 (Int.toNat s.2))) s.1) fun v495 =>
  (.br (decide (v495 < (0 : Int))) (
  .leaf (.inr (.inl ()))
  ) (
  .leaf (.inl (v495, IntKind.i64.wrap (s.2 + (1 : Int))))
  ))))
  ) (
  .leaf (.inr (.inr s.1))
  ))

noncomputable def laws_heldFloat32SS_nst_l0_g (v473 : List (List Nat)) (v474 : List Nat) (s0 : Int × Int) : Option ((Unit) ⊕ (Int)) := whileM (fun s => (laws_heldFloat32SS_nst_l0_T v473 v474 s).run) s0
def laws_heldFloat32SS_nst_l0_E (v473 : List (List Nat)) (v474 : List Nat) (v475 : Int) (s : Int × Int) : Sd := ([.nest 0 0 1 ((v474).length),.int .i64 s.1,tp,tp,tp,.int .i64 s.2,tp,tp,tp,tp,tp,tp,tp,tp,tp,tp,tp,tp,tp,tp,tp], [.nest [.sl (.f32 v473) v474] false 0])
def laws_heldFloat32SS_nst_l0_X (v473 : List (List Nat)) (v474 : List Nat) (v475 : Int) (x : (Unit) ⊕ (Int)) : Out := (match x with | .inl x => (.ret, [tp,tp,tp,tp,.int .i64 (-1 : Int),tp,tp,tp,tp,tp,tp,tp,tp,tp,tp,tp,tp,tp,tp,tp,tp], [.nest [.sl (.f32 v473) v474] false 0]) | .inr x => (.normal, [tp,.int .i64 x,tp,tp,tp,tp,tp,tp,tp,tp,tp,tp,tp,tp,tp,tp,tp,tp,tp,tp,tp], [.nest [.sl (.f32 v473) v474] false 0]))
def laws_heldFloat32SS_nst_l0_kill : List Nat := KL true [0,2,3,1,15]
def laws_heldFloat32SS_nst_l0_nx : Exit → List Nat
  | .exit 0 => KL true [1,1,19]
  | .ret => KL true [4,1,16]
  | _ => []
noncomputable def laws_heldFloat32SS_nst_LO (v473 : List (List Nat)) (v474 : List Nat) (v475 : Int) : LOr := fun id e L =>
  match id with
  | 0 => .need (normA 1 laws_heldFloat32SS_nst_l0_kill e L = some (laws_heldFloat32SS_nst_l0_E v473 v474 v475 ((gI (vAt e 1)), (gI (vAt e 5))))) (.call (laws_heldFloat32SS_nst_l0_g v473 v474 ((gI (vAt e 1)), (gI (vAt e 5)))) fun x => .sum x (fun b0 => .leaf (laws_heldFloat32SS_nst_l0_X v473 v474 v475 (.inl b0))) (fun c0 => .leaf (laws_heldFloat32SS_nst_l0_X v473 v474 v475 (.inr c0))))
  | _ => .fail
noncomputable def laws_heldFloat32SS_nst_tab : List (FuncId × DFn × Bool) := [(120, laws_heldFloat32S_F, true)]
theorem laws_heldFloat32SS_nst_hO : OrcOk Try.prog (tabD laws_heldFloat32SS_nst_tab) (tabM laws_heldFloat32SS_nst_tab) := tabD_cons laws_heldFloat32S_Fok (tabD_nil _)
theorem laws_heldFloat32SS_nst_l0_be (v473 : List (List Nat)) (v474 : List Nat) (v475 : Int) (s : Int × Int) : bodyT TT (tabD laws_heldFloat32SS_nst_tab) (tabM laws_heldFloat32SS_nst_tab) (laws_heldFloat32SS_nst_LO v473 v474 v475) 1 laws_heldFloat32SS_nst_l0_kill laws_heldFloat32SS_nst_l0_nx (bodyOf Try.f53 0) 0 (laws_heldFloat32SS_nst_l0_E v473 v474 v475 s) = (laws_heldFloat32SS_nst_l0_T v473 v474 s).bind fun y => .leaf (outS (laws_heldFloat32SS_nst_l0_E v473 v474 v475) (laws_heldFloat32SS_nst_l0_X v473 v474 v475) y) := by kernel_rfl
theorem laws_heldFloat32SS_nst_l0_ok (v473 : List (List Nat)) (v474 : List Nat) (v475 : Int) : LSound Try.prog 1 (laws_heldFloat32SS_nst_LO v473 v474 v475) 0 (bodyOf Try.f53 0) := by
  intro e L out h
  exact lo_ok (E := laws_heldFloat32SS_nst_l0_E v473 v474 v475) (gT := laws_heldFloat32SS_nst_l0_T v473 v474) (X := laws_heldFloat32SS_nst_l0_X v473 v474 v475) (s0 := ((gI (vAt e 1)), (gI (vAt e 5)))) tok laws_heldFloat32SS_nst_hO mixed (LoopsOk_eq (l := []) (by kernel_rfl) trivial) (laws_heldFloat32SS_nst_l0_be v473 v474 v475) rfl (by intro x; (cases x with | inl b => rfl | inr x => exact rfl)) h
noncomputable def laws_heldFloat32SS_nst_T (v473 : List (List Nat)) (v474 : List Nat) (v475 : Int) : Tree (Int) :=
  (.need (some (laws_heldFloat32SS_nst_l0_E v473 v474 v475 (v475, (0 : Int))) = some (laws_heldFloat32SS_nst_l0_E v473 v474 v475 (v475, (0 : Int)))) <|
  (.call (laws_heldFloat32SS_nst_l0_g v473 v474 (v475, (0 : Int))) fun v496 =>
  (.sum v496 (fun v497 =>
  .leaf (-1 : Int)
  ) (fun v498 =>
  .leaf v498
  ))))

noncomputable def laws_heldFloat32SS_nst_g (v473 : List (List Nat)) (v474 : List Nat) (v475 : Int) : Option (Int) := (laws_heldFloat32SS_nst_T v473 v474 v475).run
def laws_heldFloat32SS_nst_enc (v473 : List (List Nat)) (v474 : List Nat) (v475 : Int) (y : Int) : Rs := (.int .i64 y, [.nest [.sl (.f32 v473) v474] false 0])
theorem laws_heldFloat32SS_nst_den (v473 : List (List Nat)) (v474 : List Nat) (v475 : Int) : (den TT (tabD laws_heldFloat32SS_nst_tab) (tabM laws_heldFloat32SS_nst_tab) (laws_heldFloat32SS_nst_LO v473 v474 v475) (codeOf Try.f53) ([.nest 0 0 1 ((v474).length), .int .i64 v475] ++ List.replicate (Try.f53.ntmps - ([.nest 0 0 1 ((v474).length), .int .i64 v475] : List DV).length) .undef) [.nest [.sl (.f32 v473) v474] false 0]).bind (retD TT Try.f53.results.toList 1) = (laws_heldFloat32SS_nst_T v473 v474 v475).bind fun y => .leaf (laws_heldFloat32SS_nst_enc v473 v474 v475 y) := by kernel_rfl
theorem laws_heldFloat32SS_nst_fn (v473 : List (List Nat)) (v474 : List Nat) (v475 : Int) (F : Fr) (h0 : St F [.nest [.sl (.f32 v473) v474] false 0] F.H0) (hA : DVs.Ok F [.nest [.sl (.f32 v473) v474] false 0] [.nest 0 0 1 ((v474).length), .int .i64 v475]) {y : Int} (hy : laws_heldFloat32SS_nst_g v473 v474 v475 = some y) : ∃ F' H', Fwd 1 F F' [.nest [.sl (.f32 v473) v474] false 0] (laws_heldFloat32SS_nst_enc v473 v474 v475 y).2 ∧ FnOk Try.prog 53 (DVs.av F [.nest 0 0 1 ((v474).length), .int .i64 v475]) F.H0 ((laws_heldFloat32SS_nst_enc v473 v474 v475 y).1.av F') H' ∧ St F' (laws_heldFloat32SS_nst_enc v473 v474 v475 y).2 H' ∧ (laws_heldFloat32SS_nst_enc v473 v474 v475 y).1.Ok F' (laws_heldFloat32SS_nst_enc v473 v474 v475 y).2 :=
  fn_fin tok laws_heldFloat32SS_nst_hO mixed Try.func53 Try.call53 (by kernel_rfl) (LoopsOk_eq (l := [(0, bodyOf Try.f53 0)]) (by kernel_rfl) ⟨laws_heldFloat32SS_nst_l0_ok v473 v474 v475, trivial⟩) (laws_heldFloat32SS_nst_den v473 v474 v475) hy h0 hA
noncomputable def laws_heldFloat32SS_nst_F : DFn := fun args L =>
  match args with
  | [a1, .int .i64 v475] =>
    optT (nestN L false 1 a1) fun qn0 =>
    (match qn0.2 with
    | [.sl (.f32 v473) v474] =>
    (match sepB [qn0.1] [] with
    | true =>
    .call (laws_heldFloat32SS_nst_g v473 v474 v475) fun y => .grd (decide ((v474).length = (v474).length)) (.leaf (.int .i64 y, setB L [(qn0.1, .nest [.sl (.f32 v473) v474] false (verAt L qn0.1))] ++ []))
    | false => .fail)
    | _ => .fail)
  | _ => .fail
theorem laws_heldFloat32SS_nst_Fok : COk Try.prog 53 laws_heldFloat32SS_nst_F false := by
  intro F L H args r L' hs ha hr
  unfold laws_heldFloat32SS_nst_F at hr
  split at hr
  · rename_i a1 v475
    obtain ⟨⟨jn0, cn0⟩, hn0, hr⟩ := optT_run hr
    simp only at hr
    split at hr
    · rename_i v473 v474
      obtain ⟨hne0, hnu0, hnl0, hnv0, hnm0, hno0⟩ := nestN_spec hs (DVs.okAt ha 0 rfl) hn0
      split at hr
      · rename_i hsep
        obtain ⟨hnd, hsepv⟩ := sepB_spec hsep
        simp only [Tree.run] at hr
        obtain ⟨y, hy, hr⟩ := Option.bind_eq_some_iff.1 hr
        try simp only [Tree.run] at hr
        obtain ⟨hl0, hr⟩ := ite_run hr
        simp only [Option.some.injEq, Prod.mk.injEq] at hr
        obtain ⟨rfl, rfl⟩ := hr
        exact mutG_ok hs [a1] ⟨(DVs.okAt ha 0 rfl), trivial⟩ [a1, .int .i64 v475] [.nest 0 0 1 ((v474).length), .int .i64 v475] [jn0] [verAt L jn0] [.nest [.sl (.f32 v473) v474] false 0] [.nest [.sl (.f32 v473) v474] false 0] [.nest [.sl (.f32 v473) v474] false (verAt L jn0)] [] hnd rfl rfl (fun j hj => by
            simp at hj
            subst hj; exact ex_nest hne0) (fun j hj => by
            simp at hj
            subst hj; exact reach_refs (by simp [DVs.refs, DV.refs, hnu0])) (fun F' h0 hρ ab hpl hS => by
            have ab0 := ab 0 _ rfl;
            have hnx0 : a1.av F = (.nest 0 0 1 ((v474).length) : DV).av F' := nestN_av (hpl 0 _ rfl) hnv0
            refine ⟨fun i j b' h1 h2 => ?_, by simp [DBlk.blk, DVs.av, DV.av, BR.av, hρ, Row.len, hnx0, ab0, ab0], fun hst => laws_heldFloat32SS_nst_fn v473 v474 v475 F' hst ⟨(nest_ok0 (i := 0) rfl rfl hnm0), trivial, trivial⟩ hy⟩
            rcases i with _ | i
            · simp at h1 h2; subst h1; subst h2; obtain ⟨ver_, hv_⟩ := hne0; exact ⟨_, hv_, .nest _ _ _ _, nest_blk (hpl 0 _ rfl) _ _ _ _, hno0 _ _⟩
            · simp at h1) rfl rfl (fun i j b b' h1 h2 h3 => by
            rcases i with _ | i
            · simp at h1; subst h1; cases h3; exact growN hne0 (by first | exact of_decide_eq_true hl0 | rfl) rfl h2
            · simp at h1)
      · cases hr
    · cases hr
  · cases hr
/-! laws.eqFloat32SS -/
noncomputable def laws_eqFloat32SS_nst_i1_l0_T (s : Unit) : Tree ((Unit) ⊕ (Unit)) :=
  (.br (decide ((0 : Int) < (0 : Int))) (
  .fail
  ) (
  .leaf (.inr ())
  ))

noncomputable def laws_eqFloat32SS_nst_i1_l0_g (s0 : Unit) : Option (Unit) := whileM (fun s => (laws_eqFloat32SS_nst_i1_l0_T s).run) s0
def laws_eqFloat32SS_nst_i1_l0_E (v514 : List (List Nat)) (v515 : List Nat) (s : Unit) : Sd := ([.nilslc,.nest 0 0 1 ((v515).length),tp,tp,tp,.int .i64 (0 : Int),tp,tp,tp,tp,tp,tp,tp,tp,tp,tp,tp,tp,tp,tp,tp,tp,tp,tp,tp,tp,tp], [.nest [.sl (.f32 v514) v515] false 0])
def laws_eqFloat32SS_nst_i1_l0_X (v514 : List (List Nat)) (v515 : List Nat) (x : Unit) : Out := (.normal, [tp,tp,tp,tp,tp,tp,tp,tp,tp,tp,tp,tp,tp,tp,tp,tp,tp,tp,tp,tp,tp,tp,tp,tp,tp,tp,tp], [.nest [.sl (.f32 v514) v515] false 0])
def laws_eqFloat32SS_nst_i1_l0_kill : List Nat := KL true [0,2,3,1,21]
def laws_eqFloat32SS_nst_i1_l0_nx : Exit → List Nat
  | .exit 0 => KL true [27]
  | .ret => KL true [4,1,22]
  | _ => []
noncomputable def laws_eqFloat32SS_nst_i1_LO (v514 : List (List Nat)) (v515 : List Nat) : LOr := fun id e L =>
  match id with
  | 0 => .need (normA 1 laws_eqFloat32SS_nst_i1_l0_kill e L = some (laws_eqFloat32SS_nst_i1_l0_E v514 v515 ())) (.call (laws_eqFloat32SS_nst_i1_l0_g ()) fun x => .leaf (laws_eqFloat32SS_nst_i1_l0_X v514 v515 x))
  | _ => .fail
noncomputable def laws_eqFloat32SS_nst_i1_tab : List (FuncId × DFn × Bool) := []
theorem laws_eqFloat32SS_nst_i1_hO : OrcOk Try.prog (tabD laws_eqFloat32SS_nst_i1_tab) (tabM laws_eqFloat32SS_nst_i1_tab) := tabD_nil _
theorem laws_eqFloat32SS_nst_i1_l0_be (v514 : List (List Nat)) (v515 : List Nat) (s : Unit) : bodyT TT (tabD laws_eqFloat32SS_nst_i1_tab) (tabM laws_eqFloat32SS_nst_i1_tab) (laws_eqFloat32SS_nst_i1_LO v514 v515) 1 laws_eqFloat32SS_nst_i1_l0_kill laws_eqFloat32SS_nst_i1_l0_nx (bodyOf Try.f47 0) 0 (laws_eqFloat32SS_nst_i1_l0_E v514 v515 s) = (laws_eqFloat32SS_nst_i1_l0_T s).bind fun y => .leaf (outS (laws_eqFloat32SS_nst_i1_l0_E v514 v515) (laws_eqFloat32SS_nst_i1_l0_X v514 v515) y) := by kernel_rfl
theorem laws_eqFloat32SS_nst_i1_l0_ok (v514 : List (List Nat)) (v515 : List Nat) : LSound Try.prog 1 (laws_eqFloat32SS_nst_i1_LO v514 v515) 0 (bodyOf Try.f47 0) := by
  intro e L out h
  exact lo_ok (E := laws_eqFloat32SS_nst_i1_l0_E v514 v515) (gT := laws_eqFloat32SS_nst_i1_l0_T) (X := laws_eqFloat32SS_nst_i1_l0_X v514 v515) (s0 := ()) tok laws_eqFloat32SS_nst_i1_hO mixed (LoopsOk_eq (l := []) (by kernel_rfl) trivial) (laws_eqFloat32SS_nst_i1_l0_be v514 v515) rfl (by intro x; rfl) h
noncomputable def laws_eqFloat32SS_nst_i1_T (v514 : List (List Nat)) (v515 : List Nat) : Tree (Bool) :=
  (.br (!decide ((0 : Int) = (((v515).length : Nat) : Int))) (
  .leaf false
  ) (
  (.need (some (laws_eqFloat32SS_nst_i1_l0_E v514 v515 ()) = some (laws_eqFloat32SS_nst_i1_l0_E v514 v515 ())) <|
  (.call (laws_eqFloat32SS_nst_i1_l0_g ()) fun v517 =>
  .leaf true))
  ))

noncomputable def laws_eqFloat32SS_nst_i1_g (v514 : List (List Nat)) (v515 : List Nat) : Option (Bool) := (laws_eqFloat32SS_nst_i1_T v514 v515).run
def laws_eqFloat32SS_nst_i1_enc (v514 : List (List Nat)) (v515 : List Nat) (y : Bool) : Rs := (.bool y, [.nest [.sl (.f32 v514) v515] false 0])
theorem laws_eqFloat32SS_nst_i1_den (v514 : List (List Nat)) (v515 : List Nat) : (den TT (tabD laws_eqFloat32SS_nst_i1_tab) (tabM laws_eqFloat32SS_nst_i1_tab) (laws_eqFloat32SS_nst_i1_LO v514 v515) (codeOf Try.f47) ([.nilslc, .nest 0 0 1 ((v515).length)] ++ List.replicate (Try.f47.ntmps - ([.nilslc, .nest 0 0 1 ((v515).length)] : List DV).length) .undef) [.nest [.sl (.f32 v514) v515] false 0]).bind (retD TT Try.f47.results.toList 1) = (laws_eqFloat32SS_nst_i1_T v514 v515).bind fun y => .leaf (laws_eqFloat32SS_nst_i1_enc v514 v515 y) := by kernel_rfl
theorem laws_eqFloat32SS_nst_i1_fn (v514 : List (List Nat)) (v515 : List Nat) (F : Fr) (h0 : St F [.nest [.sl (.f32 v514) v515] false 0] F.H0) (hA : DVs.Ok F [.nest [.sl (.f32 v514) v515] false 0] [.nilslc, .nest 0 0 1 ((v515).length)]) {y : Bool} (hy : laws_eqFloat32SS_nst_i1_g v514 v515 = some y) : ∃ F' H', Fwd 1 F F' [.nest [.sl (.f32 v514) v515] false 0] (laws_eqFloat32SS_nst_i1_enc v514 v515 y).2 ∧ FnOk Try.prog 47 (DVs.av F [.nilslc, .nest 0 0 1 ((v515).length)]) F.H0 ((laws_eqFloat32SS_nst_i1_enc v514 v515 y).1.av F') H' ∧ St F' (laws_eqFloat32SS_nst_i1_enc v514 v515 y).2 H' ∧ (laws_eqFloat32SS_nst_i1_enc v514 v515 y).1.Ok F' (laws_eqFloat32SS_nst_i1_enc v514 v515 y).2 :=
  fn_fin tok laws_eqFloat32SS_nst_i1_hO mixed Try.func47 Try.call47 (by kernel_rfl) (LoopsOk_eq (l := [(0, bodyOf Try.f47 0)]) (by kernel_rfl) ⟨laws_eqFloat32SS_nst_i1_l0_ok v514 v515, trivial⟩) (laws_eqFloat32SS_nst_i1_den v514 v515) hy h0 hA
noncomputable def laws_eqFloat32SS_nst_i1_F : DFn := fun args L =>
  match args with
  | [.nilslc, a1] =>
    optT (nestN L false 1 a1) fun qn0 =>
    (match qn0.2 with
    | [.sl (.f32 v514) v515] =>
    (match sepB [qn0.1] [] with
    | true =>
    .call (laws_eqFloat32SS_nst_i1_g v514 v515) fun y => .grd (decide ((v515).length = (v515).length)) (.leaf (.bool y, setB L [(qn0.1, .nest [.sl (.f32 v514) v515] false (verAt L qn0.1))] ++ []))
    | false => .fail)
    | _ => .fail)
  | _ => .fail
theorem laws_eqFloat32SS_nst_i1_Fok : COk Try.prog 47 laws_eqFloat32SS_nst_i1_F false := by
  intro F L H args r L' hs ha hr
  unfold laws_eqFloat32SS_nst_i1_F at hr
  split at hr
  · rename_i a1
    obtain ⟨⟨jn0, cn0⟩, hn0, hr⟩ := optT_run hr
    simp only at hr
    split at hr
    · rename_i v514 v515
      obtain ⟨hne0, hnu0, hnl0, hnv0, hnm0, hno0⟩ := nestN_spec hs (DVs.okAt ha 1 rfl) hn0
      split at hr
      · rename_i hsep
        obtain ⟨hnd, hsepv⟩ := sepB_spec hsep
        simp only [Tree.run] at hr
        obtain ⟨y, hy, hr⟩ := Option.bind_eq_some_iff.1 hr
        try simp only [Tree.run] at hr
        obtain ⟨hl0, hr⟩ := ite_run hr
        simp only [Option.some.injEq, Prod.mk.injEq] at hr
        obtain ⟨rfl, rfl⟩ := hr
        exact mutG_ok hs [a1] ⟨(DVs.okAt ha 1 rfl), trivial⟩ [.nilslc, a1] [.nilslc, .nest 0 0 1 ((v515).length)] [jn0] [verAt L jn0] [.nest [.sl (.f32 v514) v515] false 0] [.nest [.sl (.f32 v514) v515] false 0] [.nest [.sl (.f32 v514) v515] false (verAt L jn0)] [] hnd rfl rfl (fun j hj => by
            simp at hj
            subst hj; exact ex_nest hne0) (fun j hj => by
            simp at hj
            subst hj; exact reach_refs (by simp [DVs.refs, DV.refs, hnu0])) (fun F' h0 hρ ab hpl hS => by
            have ab0 := ab 0 _ rfl;
            have hnx0 : a1.av F = (.nest 0 0 1 ((v515).length) : DV).av F' := nestN_av (hpl 0 _ rfl) hnv0
            refine ⟨fun i j b' h1 h2 => ?_, by simp [DBlk.blk, DVs.av, DV.av, BR.av, hρ, Row.len, hnx0, ab0, ab0], fun hst => laws_eqFloat32SS_nst_i1_fn v514 v515 F' hst ⟨trivial, (nest_ok0 (i := 0) rfl rfl hnm0), trivial⟩ hy⟩
            rcases i with _ | i
            · simp at h1 h2; subst h1; subst h2; obtain ⟨ver_, hv_⟩ := hne0; exact ⟨_, hv_, .nest _ _ _ _, nest_blk (hpl 0 _ rfl) _ _ _ _, hno0 _ _⟩
            · simp at h1) rfl rfl (fun i j b b' h1 h2 h3 => by
            rcases i with _ | i
            · simp at h1; subst h1; cases h3; exact growN hne0 (by first | exact of_decide_eq_true hl0 | rfl) rfl h2
            · simp at h1)
      · cases hr
    · cases hr
  · cases hr
/-! laws.eqFloat32SS -/
noncomputable def laws_eqFloat32SS_nst_i2_l0_T (v535 : List (List Nat)) (v536 : List Nat) (v537 : List (List Nat)) (v538 : List Nat) (s : Int) : Tree ((Int) ⊕ ((Unit) ⊕ (Unit))) :=
  (.br (decide (s < (((v536).length : Nat) : Int))) (
  (.grd (inb s ((v536).length)) <|
  (.grd (inb s ((v538).length)) <|
  (.call (laws_eqFloat32S_g (nget v535 (nth v536 (Int.toNat s))) (nget v537 (nth v538 (Int.toNat s)))) fun v544 =>
  (.br (!v544) (
  .leaf (.inr (.inl ()))
  ) (
  .leaf (.inl (IntKind.i64.wrap (s + (1 : Int))))
  )))))
  ) (
  .leaf (.inr (.inr ()))
  ))

noncomputable def laws_eqFloat32SS_nst_i2_l0_g (v535 : List (List Nat)) (v536 : List Nat) (v537 : List (List Nat)) (v538 : List Nat) (s0 : Int) : Option ((Unit) ⊕ (Unit)) := whileM (fun s => (laws_eqFloat32SS_nst_i2_l0_T v535 v536 v537 v538 s).run) s0
def laws_eqFloat32SS_nst_i2_l0_E (v535 : List (List Nat)) (v536 : List Nat) (v537 : List (List Nat)) (v538 : List Nat) (s : Int) : Sd := ([.nest 0 0 1 ((v536).length),.nest 1 0 1 ((v538).length),tp,tp,tp,.int .i64 s,tp,tp,tp,tp,tp,tp,tp,tp,tp,tp,tp,tp,tp,tp,tp,tp,tp,tp,tp,tp,tp], [.nest [.sl (.f32 v535) v536] false 0, .nest [.sl (.f32 v537) v538] false 0])
def laws_eqFloat32SS_nst_i2_l0_X (v535 : List (List Nat)) (v536 : List Nat) (v537 : List (List Nat)) (v538 : List Nat) (x : (Unit) ⊕ (Unit)) : Out := (match x with | .inl x => (.ret, [tp,tp,tp,tp,.lit false,tp,tp,tp,tp,tp,tp,tp,tp,tp,tp,tp,tp,tp,tp,tp,tp,tp,tp,tp,tp,tp,tp], [.nest [.sl (.f32 v535) v536] false 0, .nest [.sl (.f32 v537) v538] false 0]) | .inr x => (.normal, [tp,tp,tp,tp,tp,tp,tp,tp,tp,tp,tp,tp,tp,tp,tp,tp,tp,tp,tp,tp,tp,tp,tp,tp,tp,tp,tp], [.nest [.sl (.f32 v535) v536] false 0, .nest [.sl (.f32 v537) v538] false 0]))
def laws_eqFloat32SS_nst_i2_l0_kill : List Nat := KL true [0,2,3,1,21]
def laws_eqFloat32SS_nst_i2_l0_nx : Exit → List Nat
  | .exit 0 => KL true [27]
  | .ret => KL true [4,1,22]
  | _ => []
noncomputable def laws_eqFloat32SS_nst_i2_LO (v535 : List (List Nat)) (v536 : List Nat) (v537 : List (List Nat)) (v538 : List Nat) : LOr := fun id e L =>
  match id with
  | 0 => .need (normA 2 laws_eqFloat32SS_nst_i2_l0_kill e L = some (laws_eqFloat32SS_nst_i2_l0_E v535 v536 v537 v538 (gI (vAt e 5)))) (.call (laws_eqFloat32SS_nst_i2_l0_g v535 v536 v537 v538 (gI (vAt e 5))) fun x => .sum x (fun b0 => .leaf (laws_eqFloat32SS_nst_i2_l0_X v535 v536 v537 v538 (.inl b0))) (fun c0 => .leaf (laws_eqFloat32SS_nst_i2_l0_X v535 v536 v537 v538 (.inr c0))))
  | _ => .fail
noncomputable def laws_eqFloat32SS_nst_i2_tab : List (FuncId × DFn × Bool) := [(49, laws_eqFloat32S_F, true)]
theorem laws_eqFloat32SS_nst_i2_hO : OrcOk Try.prog (tabD laws_eqFloat32SS_nst_i2_tab) (tabM laws_eqFloat32SS_nst_i2_tab) := tabD_cons laws_eqFloat32S_Fok (tabD_nil _)
theorem laws_eqFloat32SS_nst_i2_l0_be (v535 : List (List Nat)) (v536 : List Nat) (v537 : List (List Nat)) (v538 : List Nat) (s : Int) : bodyT TT (tabD laws_eqFloat32SS_nst_i2_tab) (tabM laws_eqFloat32SS_nst_i2_tab) (laws_eqFloat32SS_nst_i2_LO v535 v536 v537 v538) 2 laws_eqFloat32SS_nst_i2_l0_kill laws_eqFloat32SS_nst_i2_l0_nx (bodyOf Try.f47 0) 0 (laws_eqFloat32SS_nst_i2_l0_E v535 v536 v537 v538 s) = (laws_eqFloat32SS_nst_i2_l0_T v535 v536 v537 v538 s).bind fun y => .leaf (outS (laws_eqFloat32SS_nst_i2_l0_E v535 v536 v537 v538) (laws_eqFloat32SS_nst_i2_l0_X v535 v536 v537 v538) y) := by kernel_rfl
theorem laws_eqFloat32SS_nst_i2_l0_ok (v535 : List (List Nat)) (v536 : List Nat) (v537 : List (List Nat)) (v538 : List Nat) : LSound Try.prog 2 (laws_eqFloat32SS_nst_i2_LO v535 v536 v537 v538) 0 (bodyOf Try.f47 0) := by
  intro e L out h
  exact lo_ok (E := laws_eqFloat32SS_nst_i2_l0_E v535 v536 v537 v538) (gT := laws_eqFloat32SS_nst_i2_l0_T v535 v536 v537 v538) (X := laws_eqFloat32SS_nst_i2_l0_X v535 v536 v537 v538) (s0 := (gI (vAt e 5))) tok laws_eqFloat32SS_nst_i2_hO mixed (LoopsOk_eq (l := []) (by kernel_rfl) trivial) (laws_eqFloat32SS_nst_i2_l0_be v535 v536 v537 v538) rfl (by intro x; (cases x with | inl b => rfl | inr x => exact rfl)) h
noncomputable def laws_eqFloat32SS_nst_i2_T (v535 : List (List Nat)) (v536 : List Nat) (v537 : List (List Nat)) (v538 : List Nat) : Tree (Bool) :=
  (.br (!decide ((((v536).length : Nat) : Int) = (((v538).length : Nat) : Int))) (
  .leaf false
  ) (
  (.need (some (laws_eqFloat32SS_nst_i2_l0_E v535 v536 v537 v538 (0 : Int)) = some (laws_eqFloat32SS_nst_i2_l0_E v535 v536 v537 v538 (0 : Int))) <|
  (.call (laws_eqFloat32SS_nst_i2_l0_g v535 v536 v537 v538 (0 : Int)) fun v545 =>
  (.sum v545 (fun v546 =>
  .leaf false
  ) (fun v547 =>
  .leaf true
  ))))
  ))

noncomputable def laws_eqFloat32SS_nst_i2_g (v535 : List (List Nat)) (v536 : List Nat) (v537 : List (List Nat)) (v538 : List Nat) : Option (Bool) := (laws_eqFloat32SS_nst_i2_T v535 v536 v537 v538).run
def laws_eqFloat32SS_nst_i2_enc (v535 : List (List Nat)) (v536 : List Nat) (v537 : List (List Nat)) (v538 : List Nat) (y : Bool) : Rs := (.bool y, [.nest [.sl (.f32 v535) v536] false 0, .nest [.sl (.f32 v537) v538] false 0])
theorem laws_eqFloat32SS_nst_i2_den (v535 : List (List Nat)) (v536 : List Nat) (v537 : List (List Nat)) (v538 : List Nat) : (den TT (tabD laws_eqFloat32SS_nst_i2_tab) (tabM laws_eqFloat32SS_nst_i2_tab) (laws_eqFloat32SS_nst_i2_LO v535 v536 v537 v538) (codeOf Try.f47) ([.nest 0 0 1 ((v536).length), .nest 1 0 1 ((v538).length)] ++ List.replicate (Try.f47.ntmps - ([.nest 0 0 1 ((v536).length), .nest 1 0 1 ((v538).length)] : List DV).length) .undef) [.nest [.sl (.f32 v535) v536] false 0, .nest [.sl (.f32 v537) v538] false 0]).bind (retD TT Try.f47.results.toList 2) = (laws_eqFloat32SS_nst_i2_T v535 v536 v537 v538).bind fun y => .leaf (laws_eqFloat32SS_nst_i2_enc v535 v536 v537 v538 y) := by kernel_rfl
theorem laws_eqFloat32SS_nst_i2_fn (v535 : List (List Nat)) (v536 : List Nat) (v537 : List (List Nat)) (v538 : List Nat) (F : Fr) (h0 : St F [.nest [.sl (.f32 v535) v536] false 0, .nest [.sl (.f32 v537) v538] false 0] F.H0) (hA : DVs.Ok F [.nest [.sl (.f32 v535) v536] false 0, .nest [.sl (.f32 v537) v538] false 0] [.nest 0 0 1 ((v536).length), .nest 1 0 1 ((v538).length)]) {y : Bool} (hy : laws_eqFloat32SS_nst_i2_g v535 v536 v537 v538 = some y) : ∃ F' H', Fwd 2 F F' [.nest [.sl (.f32 v535) v536] false 0, .nest [.sl (.f32 v537) v538] false 0] (laws_eqFloat32SS_nst_i2_enc v535 v536 v537 v538 y).2 ∧ FnOk Try.prog 47 (DVs.av F [.nest 0 0 1 ((v536).length), .nest 1 0 1 ((v538).length)]) F.H0 ((laws_eqFloat32SS_nst_i2_enc v535 v536 v537 v538 y).1.av F') H' ∧ St F' (laws_eqFloat32SS_nst_i2_enc v535 v536 v537 v538 y).2 H' ∧ (laws_eqFloat32SS_nst_i2_enc v535 v536 v537 v538 y).1.Ok F' (laws_eqFloat32SS_nst_i2_enc v535 v536 v537 v538 y).2 :=
  fn_fin tok laws_eqFloat32SS_nst_i2_hO mixed Try.func47 Try.call47 (by kernel_rfl) (LoopsOk_eq (l := [(0, bodyOf Try.f47 0)]) (by kernel_rfl) ⟨laws_eqFloat32SS_nst_i2_l0_ok v535 v536 v537 v538, trivial⟩) (laws_eqFloat32SS_nst_i2_den v535 v536 v537 v538) hy h0 hA
noncomputable def laws_eqFloat32SS_nst_i2_F : DFn := fun args L =>
  match args with
  | [a1, a2] =>
    optT (nestN L false 1 a1) fun qn0 =>
    (match qn0.2 with
    | [.sl (.f32 v535) v536] =>
    optT (nestN L false 1 a2) fun qn1 =>
    (match qn1.2 with
    | [.sl (.f32 v537) v538] =>
    (match sepB [qn0.1, qn1.1] [] with
    | true =>
    .call (laws_eqFloat32SS_nst_i2_g v535 v536 v537 v538) fun y => .grd (decide ((v536).length = (v536).length)) (.grd (decide ((v538).length = (v538).length)) (.leaf (.bool y, setB L [(qn0.1, .nest [.sl (.f32 v535) v536] false (verAt L qn0.1)), (qn1.1, .nest [.sl (.f32 v537) v538] false (verAt L qn1.1))] ++ [])))
    | false => .fail)
    | _ => .fail)
    | _ => .fail)
  | _ => .fail
theorem laws_eqFloat32SS_nst_i2_Fok : COk Try.prog 47 laws_eqFloat32SS_nst_i2_F false := by
  intro F L H args r L' hs ha hr
  unfold laws_eqFloat32SS_nst_i2_F at hr
  split at hr
  · rename_i a1 a2
    obtain ⟨⟨jn0, cn0⟩, hn0, hr⟩ := optT_run hr
    simp only at hr
    split at hr
    · rename_i v535 v536
      obtain ⟨hne0, hnu0, hnl0, hnv0, hnm0, hno0⟩ := nestN_spec hs (DVs.okAt ha 0 rfl) hn0
      obtain ⟨⟨jn1, cn1⟩, hn1, hr⟩ := optT_run hr
      simp only at hr
      split at hr
      · rename_i v537 v538
        obtain ⟨hne1, hnu1, hnl1, hnv1, hnm1, hno1⟩ := nestN_spec hs (DVs.okAt ha 1 rfl) hn1
        split at hr
        · rename_i hsep
          obtain ⟨hnd, hsepv⟩ := sepB_spec hsep
          simp only [Tree.run] at hr
          obtain ⟨y, hy, hr⟩ := Option.bind_eq_some_iff.1 hr
          try simp only [Tree.run] at hr
          obtain ⟨hl0, hr⟩ := ite_run hr
          obtain ⟨hl1, hr⟩ := ite_run hr
          simp only [Option.some.injEq, Prod.mk.injEq] at hr
          obtain ⟨rfl, rfl⟩ := hr
          exact mutG_ok hs [a1, a2] ⟨(DVs.okAt ha 0 rfl), (DVs.okAt ha 1 rfl), trivial⟩ [a1, a2] [.nest 0 0 1 ((v536).length), .nest 1 0 1 ((v538).length)] [jn0, jn1] [verAt L jn0, verAt L jn1] [.nest [.sl (.f32 v535) v536] false 0, .nest [.sl (.f32 v537) v538] false 0] [.nest [.sl (.f32 v535) v536] false 0, .nest [.sl (.f32 v537) v538] false 0] [.nest [.sl (.f32 v535) v536] false (verAt L jn0), .nest [.sl (.f32 v537) v538] false (verAt L jn1)] [] hnd rfl rfl (fun j hj => by
              simp at hj
              rcases hj with rfl | rfl
              · exact ex_nest hne0
              · exact ex_nest hne1) (fun j hj => by
              simp at hj
              rcases hj with rfl | rfl
              · exact reach_refs (by simp [DVs.refs, DV.refs, hnu0])
              · exact reach_refs (by simp [DVs.refs, DV.refs, hnu1])) (fun F' h0 hρ ab hpl hS => by
              have ab0 := ab 0 _ rfl; have ab1 := ab 1 _ rfl;
              have hnx0 : a1.av F = (.nest 0 0 1 ((v536).length) : DV).av F' := nestN_av (hpl 0 _ rfl) hnv0
              have hnx1 : a2.av F = (.nest 1 0 1 ((v538).length) : DV).av F' := nestN_av (hpl 1 _ rfl) hnv1
              refine ⟨fun i j b' h1 h2 => ?_, by simp [DBlk.blk, DVs.av, DV.av, BR.av, hρ, Row.len, hnx0, hnx1, ab0, ab0, ab1, ab1], fun hst => laws_eqFloat32SS_nst_i2_fn v535 v536 v537 v538 F' hst ⟨(nest_ok0 (i := 0) rfl rfl hnm0), (nest_ok0 (i := 1) rfl rfl hnm1), trivial⟩ hy⟩
              rcases i with _ | _ | i
              · simp at h1 h2; subst h1; subst h2; obtain ⟨ver_, hv_⟩ := hne0; exact ⟨_, hv_, .nest _ _ _ _, nest_blk (hpl 0 _ rfl) _ _ _ _, hno0 _ _⟩
              · simp at h1 h2; subst h1; subst h2; obtain ⟨ver_, hv_⟩ := hne1; exact ⟨_, hv_, .nest _ _ _ _, nest_blk (hpl 1 _ rfl) _ _ _ _, hno1 _ _⟩
              · simp at h1) rfl rfl (fun i j b b' h1 h2 h3 => by
              rcases i with _ | _ | i
              · simp at h1; subst h1; cases h3; exact growN hne0 (by first | exact of_decide_eq_true hl0 | rfl) rfl h2
              · simp at h1; subst h1; cases h3; exact growN hne1 (by first | exact of_decide_eq_true hl1 | rfl) rfl h2
              · simp at h1)
        · cases hr
      · cases hr
    · cases hr
  · cases hr
/-! laws.FnExactThirdsShared -/
noncomputable def laws_FnExactThirdsShared_LO (v1 : List (List Nat)) (v2 : List (List Nat)) (v3 : List (List Nat)) (v4 : List Nat) (v5 : Int) : LOr := fun id e L =>
  match id with
  | _ => .fail
noncomputable def laws_FnExactThirdsShared_tab : List (FuncId × DFn × Bool) := [(42, laws_szThirdsS_F, true), (44, laws_toThirdsS_F, true), (45, laws_toFloat32S_F, true), (43, spec_ThirdsShared_nst_F, false), (46, impl_ThirdsShared_nst_F, false), (47, (orD (fun args => match args with | [.nilslc, .nilslc] => true | _ => false) laws_eqFloat32SS_F (orD (fun args => match args with | [_, .nilslc] => true | _ => false) laws_eqFloat32SS_nst_F (orD (fun args => match args with | [.nilslc, _] => true | _ => false) laws_eqFloat32SS_nst_i1_F laws_eqFloat32SS_nst_i2_F))), false), (48, laws_eqThirdsS_nst_F, false), (49, laws_eqFloat32S_F, true), (50, laws_markThirdsS_nst_F, false), (51, laws_markFloat32S_F, false), (52, (orD (fun args => match args with | [.nilslc, _] => true | _ => false) laws_markFloat32SS_F laws_markFloat32SS_nst_F), false), (53, (orD (fun args => match args with | [.nilslc, _] => true | _ => false) laws_heldFloat32SS_F laws_heldFloat32SS_nst_F), false)]
theorem laws_FnExactThirdsShared_hO : OrcOk Try.prog (tabD laws_FnExactThirdsShared_tab) (tabM laws_FnExactThirdsShared_tab) := tabD_cons laws_szThirdsS_Fok (tabD_cons laws_toThirdsS_Fok (tabD_cons laws_toFloat32S_Fok (tabD_cons spec_ThirdsShared_nst_Fok (tabD_cons impl_ThirdsShared_nst_Fok (tabD_cons (orD_ok (COk.weak laws_eqFloat32SS_Fok) (orD_ok laws_eqFloat32SS_nst_Fok (orD_ok laws_eqFloat32SS_nst_i1_Fok laws_eqFloat32SS_nst_i2_Fok))) (tabD_cons laws_eqThirdsS_nst_Fok (tabD_cons laws_eqFloat32S_Fok (tabD_cons laws_markThirdsS_nst_Fok (tabD_cons laws_markFloat32S_Fok (tabD_cons (orD_ok (COk.weak laws_markFloat32SS_Fok) laws_markFloat32SS_nst_Fok) (tabD_cons (orD_ok (COk.weak laws_heldFloat32SS_Fok) laws_heldFloat32SS_nst_Fok) (tabD_nil _))))))))))))
noncomputable def laws_FnExactThirdsShared_T (v1 : List (List Nat)) (v2 : List (List Nat)) (v3 : List (List Nat)) (v4 : List Nat) (v5 : Int) : Tree (Bool) :=
  (.br (decide ((1048576 : Int) < ((v4.length : Nat) : Int))) (
  .leaf true
  ) (
  (.call (laws_szThirdsS_g v1 v2 v3 (1048576 : Int)) fun v25 =>
  (.br (decide (v25 < (0 : Int))) (
  .leaf true
  ) (
  (.call (laws_toThirdsS_g v1 v2 v3) fun v61 =>
  (.call (laws_toFloat32S_g v4) fun v62 =>
  (.call (spec_ThirdsShared_nst_g v61.1 v61.2.1 v61.2.2.1 v61.2.2.2.1 v61.2.2.2.2.1 v61.2.2.2.2.2 v62 v5) fun v152 =>
  (.sum v152 (fun v153 =>
  (.grd (decide ((v61.2.1).length = (v61.2.1).length)) <|
  (.call (laws_toThirdsS_g v1 v2 v3) fun v155 =>
  (.call (laws_toFloat32S_g v4) fun v156 =>
  (.call (impl_ThirdsShared_nst_g v155.1 v155.2.1 v155.2.2.1 v155.2.2.2.1 v155.2.2.2.2.1 v155.2.2.2.2.2 v156 v5) fun v265 =>
  (.sum v265 (fun v266 =>
  (.grd (decide ((v155.2.1).length = (v155.2.1).length)) <|
  (.call laws_eqFloat32SS_g fun v270 =>
  (.br (!v270) (
  .leaf false
  ) (
  (.br (!(false == false)) (
  .leaf false
  ) (
  (.call (laws_toThirdsS_g v1 v2 v3) fun v271 =>
  (.call (laws_eqThirdsS_nst_g v155.1 v155.2.1 v155.2.2.1 v155.2.2.2.1 v155.2.2.2.2.1 v155.2.2.2.2.2 v271.1 v271.2.1 v271.2.2.1 v271.2.2.2.1 v271.2.2.2.2.1 v271.2.2.2.2.2) fun v312 =>
  (.grd (decide ((v155.2.1).length = (v155.2.1).length)) <|
  (.grd (decide ((v271.2.1).length = (v271.2.1).length)) <|
  (.br (!v312) (
  .leaf false
  ) (
  (.call (laws_toFloat32S_g v4) fun v313 =>
  (.call (laws_eqFloat32S_g v156 v313) fun v314 =>
  (.br (!v314) (
  .leaf false
  ) (
  (.call (laws_markThirdsS_nst_g v155.1 v155.2.1 v155.2.2.1 v155.2.2.2.1 v155.2.2.2.2.1 v155.2.2.2.2.2 (1 : Int)) fun v410 =>
  (.grd (decide ((v155.2.1).length = (v155.2.1).length)) <|
  (.call (laws_markFloat32S_g v156 v410.1) fun v411 =>
  (.grd (decide (v411.2.length = v156.length)) <|
  (.br (decide (v411.1 < (0 : Int))) (
  .leaf false
  ) (
  (.call laws_eqFloat32SS_g fun v412 =>
  (.br (!v412) (
  .leaf false
  ) (
  (.br (!(false == false)) (
  .leaf false
  ) (
  (.call (laws_markFloat32SS_g (1 : Int)) fun v417 =>
  (.call (laws_heldFloat32SS_g (1 : Int)) fun v422 =>
  (.br (decide (v422 < (0 : Int))) (
  .leaf false
  ) (
  (.br (!decide (v422 = v417)) (
  .leaf false
  ) (
  (.call (laws_toThirdsS_g v1 v2 v3) fun v423 =>
  (.call (laws_toFloat32S_g v4) fun v424 =>
  (.call (impl_ThirdsShared_nst_g v423.1 v423.2.1 v423.2.2.1 v423.2.2.2.1 v423.2.2.2.2.1 v423.2.2.2.2.2 v424 v5) fun v425 =>
  (.sum v425 (fun v426 =>
  (.grd (decide ((v423.2.1).length = (v423.2.1).length)) <|
  (.call laws_eqFloat32SS_g fun v428 =>
  (.br (!v428) (
  .leaf false
  ) (
  (.br (!(false == false)) (
  .leaf false
  ) (
  (.call (laws_heldFloat32SS_g (1 : Int)) fun v429 =>
  (.br (decide (v429 < (0 : Int))) (
  .leaf false
  ) (
  (.br (!decide (v429 = v417)) (
  .leaf false
  ) (
  .leaf true
  ))
  )))
  ))
  ))))
  ) (fun v427 =>
  (.grd (decide ((v423.2.1).length = (v423.2.1).length)) <|
  (.call (laws_eqFloat32SS_nst_g v427.1 v427.2) fun v434 =>
  (.grd (decide ((v427.2).length = (v427.2).length)) <|
  (.br (!v434) (
  .leaf false
  ) (
  (.br (!(true == false)) (
  .leaf false
  ) (
  (.call (laws_heldFloat32SS_g (1 : Int)) fun v435 =>
  (.br (decide (v435 < (0 : Int))) (
  .leaf false
  ) (
  (.br (!decide (v435 = v417)) (
  .leaf false
  ) (
  .leaf true
  ))
  )))
  ))
  )))))
  )))))
  ))
  ))))
  ))
  )))
  ))))))
  ))))
  ))))))
  ))
  ))))
  ) (fun v267 =>
  (.grd (decide ((v155.2.1).length = (v155.2.1).length)) <|
  (.call (laws_eqFloat32SS_nst_g v267.1 v267.2) fun v436 =>
  (.grd (decide ((v267.2).length = (v267.2).length)) <|
  (.br (!v436) (
  .leaf false
  ) (
  (.br (!(true == false)) (
  .leaf false
  ) (
  (.call (laws_toThirdsS_g v1 v2 v3) fun v437 =>
  (.call (laws_eqThirdsS_nst_g v155.1 v155.2.1 v155.2.2.1 v155.2.2.2.1 v155.2.2.2.2.1 v155.2.2.2.2.2 v437.1 v437.2.1 v437.2.2.1 v437.2.2.2.1 v437.2.2.2.2.1 v437.2.2.2.2.2) fun v438 =>
  (.grd (decide ((v155.2.1).length = (v155.2.1).length)) <|
  (.grd (decide ((v437.2.1).length = (v437.2.1).length)) <|
  (.br (!v438) (
  .leaf false
  ) (
  (.call (laws_toFloat32S_g v4) fun v439 =>
  (.call (laws_eqFloat32S_g v156 v439) fun v440 =>
  (.br (!v440) (
  .leaf false
  ) (
  (.call (laws_markThirdsS_nst_g v155.1 v155.2.1 v155.2.2.1 v155.2.2.2.1 v155.2.2.2.2.1 v155.2.2.2.2.2 (1 : Int)) fun v441 =>
  (.grd (decide ((v155.2.1).length = (v155.2.1).length)) <|
  (.call (laws_markFloat32S_g v156 v441.1) fun v442 =>
  (.grd (decide (v442.2.length = v156.length)) <|
  (.br (decide (v442.1 < (0 : Int))) (
  .leaf false
  ) (
  (.call (laws_eqFloat32SS_nst_g v267.1 v267.2) fun v443 =>
  (.grd (decide ((v267.2).length = (v267.2).length)) <|
  (.br (!v443) (
  .leaf false
  ) (
  (.br (!(true == false)) (
  .leaf false
  ) (
  (.call (laws_markFloat32SS_nst_g v267.1 v267.2 (1 : Int)) fun v472 =>
  (.grd (decide ((v267.2).length = (v267.2).length)) <|
  (.call (laws_heldFloat32SS_nst_g v472.2 v267.2 (1 : Int)) fun v499 =>
  (.grd (decide ((v267.2).length = (v267.2).length)) <|
  (.br (decide (v499 < (0 : Int))) (
  .leaf false
  ) (
  (.br (!decide (v499 = v472.1)) (
  .leaf false
  ) (
  (.call (laws_toThirdsS_g v1 v2 v3) fun v500 =>
  (.call (laws_toFloat32S_g v4) fun v501 =>
  (.call (impl_ThirdsShared_nst_g v500.1 v500.2.1 v500.2.2.1 v500.2.2.2.1 v500.2.2.2.2.1 v500.2.2.2.2.2 v501 v5) fun v502 =>
  (.sum v502 (fun v503 =>
  (.grd (decide ((v500.2.1).length = (v500.2.1).length)) <|
  (.call laws_eqFloat32SS_g fun v505 =>
  (.br (!v505) (
  .leaf false
  ) (
  (.br (!(false == false)) (
  .leaf false
  ) (
  (.call (laws_heldFloat32SS_nst_g v472.2 v267.2 (1 : Int)) fun v506 =>
  (.grd (decide ((v267.2).length = (v267.2).length)) <|
  (.br (decide (v506 < (0 : Int))) (
  .leaf false
  ) (
  (.br (!decide (v506 = v472.1)) (
  .leaf false
  ) (
  .leaf true
  ))
  ))))
  ))
  ))))
  ) (fun v504 =>
  (.grd (decide ((v500.2.1).length = (v500.2.1).length)) <|
  (.call (laws_eqFloat32SS_nst_g v504.1 v504.2) fun v507 =>
  (.grd (decide ((v504.2).length = (v504.2).length)) <|
  (.br (!v507) (
  .leaf false
  ) (
  (.br (!(true == false)) (
  .leaf false
  ) (
  (.call (laws_heldFloat32SS_nst_g v472.2 v267.2 (1 : Int)) fun v508 =>
  (.grd (decide ((v267.2).length = (v267.2).length)) <|
  (.br (decide (v508 < (0 : Int))) (
  .leaf false
  ) (
  (.br (!decide (v508 = v472.1)) (
  .leaf false
  ) (
  .leaf true
  ))
  ))))
  ))
  )))))
  )))))
  ))
  ))))))
  ))
  ))))
  ))))))
  ))))
  ))))))
  ))
  )))))
  ))))))
  ) (fun v154 =>
  (.grd (decide ((v61.2.1).length = (v61.2.1).length)) <|
  (.call (laws_toThirdsS_g v1 v2 v3) fun v509 =>
  (.call (laws_toFloat32S_g v4) fun v510 =>
  (.call (impl_ThirdsShared_nst_g v509.1 v509.2.1 v509.2.2.1 v509.2.2.2.1 v509.2.2.2.2.1 v509.2.2.2.2.2 v510 v5) fun v511 =>
  (.sum v511 (fun v512 =>
  (.grd (decide ((v509.2.1).length = (v509.2.1).length)) <|
  (.call (laws_eqFloat32SS_nst_i1_g v154.1 v154.2) fun v518 =>
  (.grd (decide ((v154.2).length = (v154.2).length)) <|
  (.br (!v518) (
  .leaf false
  ) (
  (.br (!(false == true)) (
  .leaf false
  ) (
  (.call (laws_toThirdsS_g v1 v2 v3) fun v519 =>
  (.call (laws_eqThirdsS_nst_g v509.1 v509.2.1 v509.2.2.1 v509.2.2.2.1 v509.2.2.2.2.1 v509.2.2.2.2.2 v519.1 v519.2.1 v519.2.2.1 v519.2.2.2.1 v519.2.2.2.2.1 v519.2.2.2.2.2) fun v520 =>
  (.grd (decide ((v509.2.1).length = (v509.2.1).length)) <|
  (.grd (decide ((v519.2.1).length = (v519.2.1).length)) <|
  (.br (!v520) (
  .leaf false
  ) (
  (.call (laws_toFloat32S_g v4) fun v521 =>
  (.call (laws_eqFloat32S_g v510 v521) fun v522 =>
  (.br (!v522) (
  .leaf false
  ) (
  (.call (laws_markThirdsS_nst_g v509.1 v509.2.1 v509.2.2.1 v509.2.2.2.1 v509.2.2.2.2.1 v509.2.2.2.2.2 (1 : Int)) fun v523 =>
  (.grd (decide ((v509.2.1).length = (v509.2.1).length)) <|
  (.call (laws_markFloat32S_g v510 v523.1) fun v524 =>
  (.grd (decide (v524.2.length = v510.length)) <|
  (.br (decide (v524.1 < (0 : Int))) (
  .leaf false
  ) (
  (.call (laws_eqFloat32SS_nst_i1_g v154.1 v154.2) fun v525 =>
  (.grd (decide ((v154.2).length = (v154.2).length)) <|
  (.br (!v525) (
  .leaf false
  ) (
  (.br (!(false == true)) (
  .leaf false
  ) (
  (.call (laws_markFloat32SS_g (1 : Int)) fun v526 =>
  (.call (laws_heldFloat32SS_g (1 : Int)) fun v527 =>
  (.br (decide (v527 < (0 : Int))) (
  .leaf false
  ) (
  (.br (!decide (v527 = v526)) (
  .leaf false
  ) (
  (.call (laws_toThirdsS_g v1 v2 v3) fun v528 =>
  (.call (laws_toFloat32S_g v4) fun v529 =>
  (.call (impl_ThirdsShared_nst_g v528.1 v528.2.1 v528.2.2.1 v528.2.2.2.1 v528.2.2.2.2.1 v528.2.2.2.2.2 v529 v5) fun v530 =>
  (.sum v530 (fun v531 =>
  (.grd (decide ((v528.2.1).length = (v528.2.1).length)) <|
  (.call (laws_eqFloat32SS_nst_i1_g v154.1 v154.2) fun v533 =>
  (.grd (decide ((v154.2).length = (v154.2).length)) <|
  (.br (!v533) (
  .leaf false
  ) (
  (.br (!(false == true)) (
  .leaf false
  ) (
  (.call (laws_heldFloat32SS_g (1 : Int)) fun v534 =>
  (.br (decide (v534 < (0 : Int))) (
  .leaf false
  ) (
  (.br (!decide (v534 = v526)) (
  .leaf false
  ) (
  .leaf true
  ))
  )))
  ))
  )))))
  ) (fun v532 =>
  (.grd (decide ((v528.2.1).length = (v528.2.1).length)) <|
  (.call (laws_eqFloat32SS_nst_i2_g v532.1 v532.2 v154.1 v154.2) fun v548 =>
  (.grd (decide ((v532.2).length = (v532.2).length)) <|
  (.grd (decide ((v154.2).length = (v154.2).length)) <|
  (.br (!v548) (
  .leaf false
  ) (
  (.br (!(true == true)) (
  .leaf false
  ) (
  (.call (laws_heldFloat32SS_g (1 : Int)) fun v549 =>
  (.br (decide (v549 < (0 : Int))) (
  .leaf false
  ) (
  (.br (!decide (v549 = v526)) (
  .leaf false
  ) (
  .leaf true
  ))
  )))
  ))
  ))))))
  )))))
  ))
  ))))
  ))
  ))))
  ))))))
  ))))
  ))))))
  ))
  )))))
  ) (fun v513 =>
  (.grd (decide ((v509.2.1).length = (v509.2.1).length)) <|
  (.call (laws_eqFloat32SS_nst_i2_g v513.1 v513.2 v154.1 v154.2) fun v550 =>
  (.grd (decide ((v513.2).length = (v513.2).length)) <|
  (.grd (decide ((v154.2).length = (v154.2).length)) <|
  (.br (!v550) (
  .leaf false
  ) (
  (.br (!(true == true)) (
  .leaf false
  ) (
  (.call (laws_toThirdsS_g v1 v2 v3) fun v551 =>
  (.call (laws_eqThirdsS_nst_g v509.1 v509.2.1 v509.2.2.1 v509.2.2.2.1 v509.2.2.2.2.1 v509.2.2.2.2.2 v551.1 v551.2.1 v551.2.2.1 v551.2.2.2.1 v551.2.2.2.2.1 v551.2.2.2.2.2) fun v552 =>
  (.grd (decide ((v509.2.1).length = (v509.2.1).length)) <|
  (.grd (decide ((v551.2.1).length = (v551.2.1).length)) <|
  (.br (!v552) (
  .leaf false
  ) (
  (.call (laws_toFloat32S_g v4) fun v553 =>
  (.call (laws_eqFloat32S_g v510 v553) fun v554 =>
  (.br (!v554) (
  .leaf false
  ) (
  (.call (laws_markThirdsS_nst_g v509.1 v509.2.1 v509.2.2.1 v509.2.2.2.1 v509.2.2.2.2.1 v509.2.2.2.2.2 (1 : Int)) fun v555 =>
  (.grd (decide ((v509.2.1).length = (v509.2.1).length)) <|
  (.call (laws_markFloat32S_g v510 v555.1) fun v556 =>
  (.grd (decide (v556.2.length = v510.length)) <|
  (.br (decide (v556.1 < (0 : Int))) (
  .leaf false
  ) (
  (.call (laws_eqFloat32SS_nst_i2_g v513.1 v513.2 v154.1 v154.2) fun v557 =>
  (.grd (decide ((v513.2).length = (v513.2).length)) <|
  (.grd (decide ((v154.2).length = (v154.2).length)) <|
  (.br (!v557) (
  .leaf false
  ) (
  (.br (!(true == true)) (
  .leaf false
  ) (
  (.call (laws_markFloat32SS_nst_g v513.1 v513.2 (1 : Int)) fun v558 =>
  (.grd (decide ((v513.2).length = (v513.2).length)) <|
  (.call (laws_heldFloat32SS_nst_g v558.2 v513.2 (1 : Int)) fun v559 =>
  (.grd (decide ((v513.2).length = (v513.2).length)) <|
  (.br (decide (v559 < (0 : Int))) (
  .leaf false
  ) (
  (.br (!decide (v559 = v558.1)) (
  .leaf false
  ) (
  (.call (laws_toThirdsS_g v1 v2 v3) fun v560 =>
  (.call (laws_toFloat32S_g v4) fun v561 =>
  (.call (impl_ThirdsShared_nst_g v560.1 v560.2.1 v560.2.2.1 v560.2.2.2.1 v560.2.2.2.2.1 v560.2.2.2.2.2 v561 v5) fun v562 =>
  (.sum v562 (fun v563 =>
  (.grd (decide ((v560.2.1).length = (v560.2.1).length)) <|
  (.call (laws_eqFloat32SS_nst_i1_g v154.1 v154.2) fun v565 =>
  (.grd (decide ((v154.2).length = (v154.2).length)) <|
  (.br (!v565) (
  .leaf false
  ) (
  (.br (!(false == true)) (
  .leaf false
  ) (
  (.call (laws_heldFloat32SS_nst_g v558.2 v513.2 (1 : Int)) fun v566 =>
  (.grd (decide ((v513.2).length = (v513.2).length)) <|
  (.br (decide (v566 < (0 : Int))) (
  .leaf false
  ) (
  (.br (!decide (v566 = v558.1)) (
  .leaf false
  ) (
  .leaf true
  ))
  ))))
  ))
  )))))
  ) (fun v564 =>
  (.grd (decide ((v560.2.1).length = (v560.2.1).length)) <|
  (.call (laws_eqFloat32SS_nst_i2_g v564.1 v564.2 v154.1 v154.2) fun v567 =>
  (.grd (decide ((v564.2).length = (v564.2).length)) <|
  (.grd (decide ((v154.2).length = (v154.2).length)) <|
  (.br (!v567) (
  .leaf false
  ) (
  (.br (!(true == true)) (
  .leaf false
  ) (
  (.call (laws_heldFloat32SS_nst_g v558.2 v513.2 (1 : Int)) fun v568 =>
  (.grd (decide ((v513.2).length = (v513.2).length)) <|
  (.br (decide (v568 < (0 : Int))) (
  .leaf false
  ) (
  (.br (!decide (v568 = v558.1)) (
  .leaf false
  ) (
  .leaf true
  ))
  ))))
  ))
  ))))))
  )))))
  ))
  ))))))
  ))
  )))))
  ))))))
  ))))
  ))))))
  ))
  ))))))
  ))))))
  )))))
  )))
  ))

noncomputable def laws_FnExactThirdsShared_g (v1 : List (List Nat)) (v2 : List (List Nat)) (v3 : List (List Nat)) (v4 : List Nat) (v5 : Int) : Option (Bool) := (laws_FnExactThirdsShared_T v1 v2 v3 v4 v5).run
def laws_FnExactThirdsShared_enc (v1 : List (List Nat)) (v2 : List (List Nat)) (v3 : List (List Nat)) (v4 : List Nat) (v5 : Int) (y : Bool) : Rs := (.bool y, [])
theorem laws_FnExactThirdsShared_den (v1 : List (List Nat)) (v2 : List (List Nat)) (v3 : List (List Nat)) (v4 : List Nat) (v5 : Int) : (den TT (tabD laws_FnExactThirdsShared_tab) (tabM laws_FnExactThirdsShared_tab) (laws_FnExactThirdsShared_LO v1 v2 v3 v4 v5) (codeOf Try.f10) ([.rns 0 [.sl (.f32 v1), .sl (.f32 v2), .sl (.f32 v3)], .bslc (BR.root 1) (.f32 v4), .int .i64 v5] ++ List.replicate (Try.f10.ntmps - ([.rns 0 [.sl (.f32 v1), .sl (.f32 v2), .sl (.f32 v3)], .bslc (BR.root 1) (.f32 v4), .int .i64 v5] : List DV).length) .undef) []).bind (retD TT Try.f10.results.toList 0) = (laws_FnExactThirdsShared_T v1 v2 v3 v4 v5).bind fun y => .leaf (laws_FnExactThirdsShared_enc v1 v2 v3 v4 v5 y) := by kernel_rfl
theorem laws_FnExactThirdsShared_fn (v1 : List (List Nat)) (v2 : List (List Nat)) (v3 : List (List Nat)) (v4 : List Nat) (v5 : Int) (F : Fr) (h0 : St F [] F.H0) (hA : DVs.Ok F [] [.rns 0 [.sl (.f32 v1), .sl (.f32 v2), .sl (.f32 v3)], .bslc (BR.root 1) (.f32 v4), .int .i64 v5]) {y : Bool} (hy : laws_FnExactThirdsShared_g v1 v2 v3 v4 v5 = some y) : ∃ F' H', Fwd 0 F F' [] (laws_FnExactThirdsShared_enc v1 v2 v3 v4 v5 y).2 ∧ FnOk Try.prog 10 (DVs.av F [.rns 0 [.sl (.f32 v1), .sl (.f32 v2), .sl (.f32 v3)], .bslc (BR.root 1) (.f32 v4), .int .i64 v5]) F.H0 ((laws_FnExactThirdsShared_enc v1 v2 v3 v4 v5 y).1.av F') H' ∧ St F' (laws_FnExactThirdsShared_enc v1 v2 v3 v4 v5 y).2 H' ∧ (laws_FnExactThirdsShared_enc v1 v2 v3 v4 v5 y).1.Ok F' (laws_FnExactThirdsShared_enc v1 v2 v3 v4 v5 y).2 :=
  fn_fin tok laws_FnExactThirdsShared_hO mixed Try.func10 Try.call10 (by kernel_rfl) (LoopsOk_eq (l := []) (by kernel_rfl) trivial) (laws_FnExactThirdsShared_den v1 v2 v3 v4 v5) hy h0 hA
noncomputable def laws_FnExactThirdsShared_F : DFn := fun args L =>
  match args with
  | [a1, a2, .int .i64 v5] =>
    optT (rnsV a1) fun qr0 =>
    (match qr0.2 with
    | [.sl (.f32 v1), .sl (.f32 v2), .sl (.f32 v3)] =>
    optT (rowF32 L a2) fun v4 =>
    .call (laws_FnExactThirdsShared_g v1 v2 v3 v4 v5) fun y => .leaf (.bool y, L)
    | _ => .fail)
  | _ => .fail
theorem laws_FnExactThirdsShared_Fok : COk Try.prog 10 laws_FnExactThirdsShared_F true := by
  intro F L H args r L' hs ha hr
  unfold laws_FnExactThirdsShared_F at hr
  split at hr
  · rename_i a1 a2 v5
    obtain ⟨⟨nr0, cr0⟩, hv0, hr⟩ := optT_run hr
    simp only at hr
    split at hr
    · rename_i v1 v2 v3
      have hrn0 := rnsV_ok hs (DVs.okAt ha 0 rfl) hv0
      have hra0 := rnsV_av (F := F) hv0
      obtain ⟨v4, hv4, hr⟩ := optT_run hr
      simp only [Tree.run] at hr
      obtain ⟨y, hy, hr⟩ := Option.bind_eq_some_iff.1 hr
      simp only [Tree.run, Option.some.injEq, Prod.mk.injEq] at hr
      obtain ⟨rfl, rfl⟩ := hr
      exact call_ok0 hs (fun k => (([a1.av F, a2.av F] : List AV)[k]?).getD (F.ρ (k - 0 + nr0))) [a1, a2, .int .i64 v5] [.rns 0 [.sl (.f32 v1), .sl (.f32 v2), .sl (.f32 v3)], .bslc (BR.root 1) (.f32 v4), .int .i64 v5] (fun F' h0 hi hρ => ⟨by simp [DVs.av, DV.av, BR.av, hρ], laws_FnExactThirdsShared_fn v1 v2 v3 v4 v5 F' (st_nil hi) ⟨(rns_ok (n := nr0) hi (by rw [h0]; exact hrn0) (by rw [hρ]; exact hra0) fun m => by rw [hρ]; exact (rho_far (g := fun k => F.ρ (k - 0 + nr0)) (by simp <;> omega)).trans (congrArg F.ρ (by omega))), bslc_ok hi (by rw [h0, hρ]; exact rowF32_ok hs (DVs.okAt ha 1 rfl) hv4), trivial, trivial⟩ hy⟩) rfl
    · cases hr
  · cases hr
/-! laws.szFloat32S -/
noncomputable def laws_szFloat32S_len_LO (v584 : Nat) (v585 : Int) : LOr := fun id e L =>
  match id with
  | _ => .fail
noncomputable def laws_szFloat32S_len_tab : List (FuncId × DFn × Bool) := []
theorem laws_szFloat32S_len_hO : OrcOk Try.prog (tabD laws_szFloat32S_len_tab) (tabM laws_szFloat32S_len_tab) := tabD_nil _
noncomputable def laws_szFloat32S_len_T (v584 : Nat) (v585 : Int) : Tree (Int) :=
  (.br (decide (IntKind.i64.wrap (v585 - ((v584 : Nat) : Int)) < (0 : Int))) (
  .leaf (-1 : Int)
  ) (
  .leaf (IntKind.i64.wrap (v585 - ((v584 : Nat) : Int)))
  ))

noncomputable def laws_szFloat32S_len_g (v584 : Nat) (v585 : Int) : Option (Int) := (laws_szFloat32S_len_T v584 v585).run
def laws_szFloat32S_len_enc (v584 : Nat) (v585 : Int) (y : Int) : Rs := (.int .i64 y, [])
theorem laws_szFloat32S_len_den (v584 : Nat) (v585 : Int) : (den TT (tabD laws_szFloat32S_len_tab) (tabM laws_szFloat32S_len_tab) (laws_szFloat32S_len_LO v584 v585) (codeOf Try.f96) ([.hslc (BR.root 0) v584, .int .i64 v585] ++ List.replicate (Try.f96.ntmps - ([.hslc (BR.root 0) v584, .int .i64 v585] : List DV).length) .undef) []).bind (retD TT Try.f96.results.toList 0) = (laws_szFloat32S_len_T v584 v585).bind fun y => .leaf (laws_szFloat32S_len_enc v584 v585 y) := by kernel_rfl
theorem laws_szFloat32S_len_fn (v584 : Nat) (v585 : Int) (F : Fr) (h0 : St F [] F.H0) (hA : DVs.Ok F [] [.hslc (BR.root 0) v584, .int .i64 v585]) {y : Int} (hy : laws_szFloat32S_len_g v584 v585 = some y) : ∃ F' H', Fwd 0 F F' [] (laws_szFloat32S_len_enc v584 v585 y).2 ∧ FnOk Try.prog 96 (DVs.av F [.hslc (BR.root 0) v584, .int .i64 v585]) F.H0 ((laws_szFloat32S_len_enc v584 v585 y).1.av F') H' ∧ St F' (laws_szFloat32S_len_enc v584 v585 y).2 H' ∧ (laws_szFloat32S_len_enc v584 v585 y).1.Ok F' (laws_szFloat32S_len_enc v584 v585 y).2 :=
  fn_fin tok laws_szFloat32S_len_hO mixed Try.func96 Try.call96 (by kernel_rfl) (LoopsOk_eq (l := []) (by kernel_rfl) trivial) (laws_szFloat32S_len_den v584 v585) hy h0 hA
def laws_szFloat32S_len_v (v584 : Nat) (v585 : Int) : Int :=
  if (decide (IntKind.i64.wrap (v585 - ((v584 : Nat) : Int)) < (0 : Int))) = true then (
  (-1 : Int)
  ) else (
  IntKind.i64.wrap (v585 - ((v584 : Nat) : Int))
  )
theorem laws_szFloat32S_len_tot (v584 : Nat) (v585 : Int) : laws_szFloat32S_len_g v584 v585 = some (laws_szFloat32S_len_v v584 v585) := by
  unfold laws_szFloat32S_len_g laws_szFloat32S_len_T laws_szFloat32S_len_v
  simp only [Tree.run]
  repeat' (first | rfl | split)
noncomputable def laws_szFloat32S_len_F : DFn := fun args L =>
  match args with
  | [a1, .int .i64 v585] =>
    optT (lenV L a1) fun v584 =>
    .leaf (.int .i64 (laws_szFloat32S_len_v v584 v585), L)
  | _ => .fail
theorem laws_szFloat32S_len_Fok : COk Try.prog 96 laws_szFloat32S_len_F true := by
  intro F L H args r L' hs ha hr
  unfold laws_szFloat32S_len_F at hr
  split at hr
  · rename_i a1 v585
    obtain ⟨v584, hv584, hr⟩ := optT_run hr
    have hy := laws_szFloat32S_len_tot v584 v585
    generalize laws_szFloat32S_len_v v584 v585 = y at hy hr
    simp only [Tree.run, Option.some.injEq, Prod.mk.injEq] at hr
    obtain ⟨rfl, rfl⟩ := hr
    exact call_ok0 hs (fun k => (([a1.av F] : List AV)[k]?).getD .top) [a1, .int .i64 v585] [.hslc (BR.root 0) v584, .int .i64 v585] (fun F' h0 hi hρ => ⟨by simp [DVs.av, DV.av, BR.av, hρ], laws_szFloat32S_len_fn v584 v585 F' (st_nil hi) ⟨hslc_ok hi (by rw [h0, hρ]; exact lenV_ok hs (DVs.okAt ha 0 rfl) hv584), trivial, trivial⟩ hy⟩) rfl
  · cases hr
/-! laws.szThirds -/
noncomputable def laws_szThirds_len_LO (v580 : Nat) (v581 : Nat) (v582 : Nat) (v583 : Int) : LOr := fun id e L =>
  match id with
  | _ => .fail
noncomputable def laws_szThirds_len_tab : List (FuncId × DFn × Bool) := [(96, laws_szFloat32S_len_F, true)]
theorem laws_szThirds_len_hO : OrcOk Try.prog (tabD laws_szThirds_len_tab) (tabM laws_szThirds_len_tab) := tabD_cons laws_szFloat32S_len_Fok (tabD_nil _)
noncomputable def laws_szThirds_len_T (v580 : Nat) (v581 : Nat) (v582 : Nat) (v583 : Int) : Tree (Int) :=
  (.br (decide ((laws_szFloat32S_len_v v580 v583) < (0 : Int))) (
  .leaf (-1 : Int)
  ) (
  (.br (decide ((laws_szFloat32S_len_v v581 (laws_szFloat32S_len_v v580 v583)) < (0 : Int))) (
  .leaf (-1 : Int)
  ) (
  (.br (decide ((laws_szFloat32S_len_v v582 (laws_szFloat32S_len_v v581 (laws_szFloat32S_len_v v580 v583))) < (0 : Int))) (
  .leaf (-1 : Int)
  ) (
  .leaf (laws_szFloat32S_len_v v582 (laws_szFloat32S_len_v v581 (laws_szFloat32S_len_v v580 v583)))
  ))
  ))
  ))

noncomputable def laws_szThirds_len_g (v580 : Nat) (v581 : Nat) (v582 : Nat) (v583 : Int) : Option (Int) := (laws_szThirds_len_T v580 v581 v582 v583).run
def laws_szThirds_len_enc (v580 : Nat) (v581 : Nat) (v582 : Nat) (v583 : Int) (y : Int) : Rs := (.int .i64 y, [])
theorem laws_szThirds_len_den (v580 : Nat) (v581 : Nat) (v582 : Nat) (v583 : Int) : (den TT (tabD laws_szThirds_len_tab) (tabM laws_szThirds_len_tab) (laws_szThirds_len_LO v580 v581 v582 v583) (codeOf Try.f114) ([.agg [.hslc (BR.root 0) v580, .hslc (BR.root 1) v581, .hslc (BR.root 2) v582], .int .i64 v583] ++ List.replicate (Try.f114.ntmps - ([.agg [.hslc (BR.root 0) v580, .hslc (BR.root 1) v581, .hslc (BR.root 2) v582], .int .i64 v583] : List DV).length) .undef) []).bind (retD TT Try.f114.results.toList 0) = (laws_szThirds_len_T v580 v581 v582 v583).bind fun y => .leaf (laws_szThirds_len_enc v580 v581 v582 v583 y) := by kernel_rfl
theorem laws_szThirds_len_fn (v580 : Nat) (v581 : Nat) (v582 : Nat) (v583 : Int) (F : Fr) (h0 : St F [] F.H0) (hA : DVs.Ok F [] [.agg [.hslc (BR.root 0) v580, .hslc (BR.root 1) v581, .hslc (BR.root 2) v582], .int .i64 v583]) {y : Int} (hy : laws_szThirds_len_g v580 v581 v582 v583 = some y) : ∃ F' H', Fwd 0 F F' [] (laws_szThirds_len_enc v580 v581 v582 v583 y).2 ∧ FnOk Try.prog 114 (DVs.av F [.agg [.hslc (BR.root 0) v580, .hslc (BR.root 1) v581, .hslc (BR.root 2) v582], .int .i64 v583]) F.H0 ((laws_szThirds_len_enc v580 v581 v582 v583 y).1.av F') H' ∧ St F' (laws_szThirds_len_enc v580 v581 v582 v583 y).2 H' ∧ (laws_szThirds_len_enc v580 v581 v582 v583 y).1.Ok F' (laws_szThirds_len_enc v580 v581 v582 v583 y).2 :=
  fn_fin tok laws_szThirds_len_hO mixed Try.func114 Try.call114 (by kernel_rfl) (LoopsOk_eq (l := []) (by kernel_rfl) trivial) (laws_szThirds_len_den v580 v581 v582 v583) hy h0 hA
def laws_szThirds_len_v (v580 : Nat) (v581 : Nat) (v582 : Nat) (v583 : Int) : Int :=
  if (decide ((laws_szFloat32S_len_v v580 v583) < (0 : Int))) = true then (
  (-1 : Int)
  ) else (
  if (decide ((laws_szFloat32S_len_v v581 (laws_szFloat32S_len_v v580 v583)) < (0 : Int))) = true then (
  (-1 : Int)
  ) else (
  if (decide ((laws_szFloat32S_len_v v582 (laws_szFloat32S_len_v v581 (laws_szFloat32S_len_v v580 v583))) < (0 : Int))) = true then (
  (-1 : Int)
  ) else (
  (laws_szFloat32S_len_v v582 (laws_szFloat32S_len_v v581 (laws_szFloat32S_len_v v580 v583)))
  )
  )
  )
theorem laws_szThirds_len_tot (v580 : Nat) (v581 : Nat) (v582 : Nat) (v583 : Int) : laws_szThirds_len_g v580 v581 v582 v583 = some (laws_szThirds_len_v v580 v581 v582 v583) := by
  unfold laws_szThirds_len_g laws_szThirds_len_T laws_szThirds_len_v
  simp only [Tree.run]
  repeat' (first | rfl | split)
noncomputable def laws_szThirds_len_F : DFn := fun args L =>
  match args with
  | [.agg [a1, a2, a3], .int .i64 v583] =>
    optT (lenV L a1) fun v580 =>
    optT (lenV L a2) fun v581 =>
    optT (lenV L a3) fun v582 =>
    .leaf (.int .i64 (laws_szThirds_len_v v580 v581 v582 v583), L)
  | _ => .fail
theorem laws_szThirds_len_Fok : COk Try.prog 114 laws_szThirds_len_F true := by
  intro F L H args r L' hs ha hr
  unfold laws_szThirds_len_F at hr
  split at hr
  · rename_i a1 a2 a3 v583
    obtain ⟨v580, hv580, hr⟩ := optT_run hr
    obtain ⟨v581, hv581, hr⟩ := optT_run hr
    obtain ⟨v582, hv582, hr⟩ := optT_run hr
    have hy := laws_szThirds_len_tot v580 v581 v582 v583
    generalize laws_szThirds_len_v v580 v581 v582 v583 = y at hy hr
    simp only [Tree.run, Option.some.injEq, Prod.mk.injEq] at hr
    obtain ⟨rfl, rfl⟩ := hr
    exact call_ok0 hs (fun k => (([a1.av F, a2.av F, a3.av F] : List AV)[k]?).getD .top) [.agg [a1, a2, a3], .int .i64 v583] [.agg [.hslc (BR.root 0) v580, .hslc (BR.root 1) v581, .hslc (BR.root 2) v582], .int .i64 v583] (fun F' h0 hi hρ => ⟨by simp [DVs.av, DV.av, BR.av, hρ], laws_szThirds_len_fn v580 v581 v582 v583 F' (st_nil hi) ⟨⟨hslc_ok hi (by rw [h0, hρ]; exact lenV_ok hs (DVs.okAt (DVs.okAt ha 0 rfl) 0 rfl) hv580), hslc_ok hi (by rw [h0, hρ]; exact lenV_ok hs (DVs.okAt (DVs.okAt ha 0 rfl) 1 rfl) hv581), hslc_ok hi (by rw [h0, hρ]; exact lenV_ok hs (DVs.okAt (DVs.okAt ha 0 rfl) 2 rfl) hv582), trivial⟩, trivial, trivial⟩ hy⟩) rfl
  · cases hr
/-! laws.szThirdsS -/
noncomputable def laws_szThirdsS_len_l0_T (v574 : List Nat) (v575 : List Nat) (v576 : List Nat) (s : Int × Int) : Tree ((Int × Int) ⊕ ((Unit) ⊕ (Int))) :=
  (.br (decide (s.2 < ((v574.length : Nat) : Int))) (
  (.grd (inb s.2 v574.length) <|
  (.br (decide ((laws_szThirds_len_v (nth v574 (Int.toNat s.2)) (nth v575 (Int.toNat s.2)) (nth v576 (Int.toNat s.2)) s.1) < (0 : Int))) (
  .leaf (.inr (.inl ()))
  ) (
  .leaf (.inl ((laws_szThirds_len_v (nth v574 (Int.toNat s.2)) (nth v575 (Int.toNat s.2)) (nth v576 (Int.toNat s.2)) s.1), IntKind.i64.wrap (s.2 + (1 : Int))))
  )))
  ) (
  .leaf (.inr (.inr s.1))
  ))

noncomputable def laws_szThirdsS_len_l0_g (v574 : List Nat) (v575 : List Nat) (v576 : List Nat) (s0 : Int × Int) : Option ((Unit) ⊕ (Int)) := whileM (fun s => (laws_szThirdsS_len_l0_T v574 v575 v576 s).run) s0
def laws_szThirdsS_len_l0_E (v574 : List Nat) (v575 : List Nat) (v576 : List Nat) (v577 : Int) (s : Int × Int) : Sd := ([.rns 0 [.ln v574, .ln v575, .ln v576],.int .i64 s.1,tp,tp,tp,.int .i64 s.2,tp,tp,tp,tp,tp,tp,tp,tp,tp,tp,tp,tp,tp,tp,tp,tp,tp,tp,tp,tp,tp], [])
def laws_szThirdsS_len_l0_X (v574 : List Nat) (v575 : List Nat) (v576 : List Nat) (v577 : Int) (x : (Unit) ⊕ (Int)) : Out := (match x with | .inl x => (.ret, [tp,tp,tp,tp,.int .i64 (-1 : Int),tp,tp,tp,tp,tp,tp,tp,tp,tp,tp,tp,tp,tp,tp,tp,tp,tp,tp,tp,tp,tp,tp], []) | .inr x => (.normal, [tp,.int .i64 x,tp,tp,tp,tp,tp,tp,tp,tp,tp,tp,tp,tp,tp,tp,tp,tp,tp,tp,tp,tp,tp,tp,tp,tp,tp], []))
def laws_szThirdsS_len_l0_kill : List Nat := KL true [0,2,3,1,21]
def laws_szThirdsS_len_l0_nx : Exit → List Nat
  | .exit 0 => KL true [1,1,25]
  | .ret => KL true [4,1,22]
  | _ => []
noncomputable def laws_szThirdsS_len_LO (v574 : List Nat) (v575 : List Nat) (v576 : List Nat) (v577 : Int) : LOr := fun id e L =>
  match id with
  | 0 => .need (normA 0 laws_szThirdsS_len_l0_kill e L = some (laws_szThirdsS_len_l0_E v574 v575 v576 v577 ((gI (vAt e 1)), (gI (vAt e 5))))) (.call (laws_szThirdsS_len_l0_g v574 v575 v576 ((gI (vAt e 1)), (gI (vAt e 5)))) fun x => .sum x (fun b0 => .leaf (laws_szThirdsS_len_l0_X v574 v575 v576 v577 (.inl b0))) (fun c0 => .leaf (laws_szThirdsS_len_l0_X v574 v575 v576 v577 (.inr c0))))
  | _ => .fail
noncomputable def laws_szThirdsS_len_tab : List (FuncId × DFn × Bool) := [(114, laws_szThirds_len_F, true)]
theorem laws_szThirdsS_len_hO : OrcOk Try.prog (tabD laws_szThirdsS_len_tab) (tabM laws_szThirdsS_len_tab) := tabD_cons laws_szThirds_len_Fok (tabD_nil _)
theorem laws_szThirdsS_len_l0_be (v574 : List Nat) (v575 : List Nat) (v576 : List Nat) (v577 : Int) (s : Int × Int) : bodyT TT (tabD laws_szThirdsS_len_tab) (tabM laws_szThirdsS_len_tab) (laws_szThirdsS_len_LO v574 v575 v576 v577) 0 laws_szThirdsS_len_l0_kill laws_szThirdsS_len_l0_nx (bodyOf Try.f42 0) 0 (laws_szThirdsS_len_l0_E v574 v575 v576 v577 s) = (laws_szThirdsS_len_l0_T v574 v575 v576 s).bind fun y => .leaf (outS (laws_szThirdsS_len_l0_E v574 v575 v576 v577) (laws_szThirdsS_len_l0_X v574 v575 v576 v577) y) := by kernel_rfl
theorem laws_szThirdsS_len_l0_ok (v574 : List Nat) (v575 : List Nat) (v576 : List Nat) (v577 : Int) : LSound Try.prog 0 (laws_szThirdsS_len_LO v574 v575 v576 v577) 0 (bodyOf Try.f42 0) := by
  intro e L out h
  exact lo_ok (E := laws_szThirdsS_len_l0_E v574 v575 v576 v577) (gT := laws_szThirdsS_len_l0_T v574 v575 v576) (X := laws_szThirdsS_len_l0_X v574 v575 v576 v577) (s0 := ((gI (vAt e 1)), (gI (vAt e 5)))) tok laws_szThirdsS_len_hO mixed (LoopsOk_eq (l := []) (by kernel_rfl) trivial) (laws_szThirdsS_len_l0_be v574 v575 v576 v577) rfl (by intro x; (cases x with | inl b => rfl | inr x => exact rfl)) h
noncomputable def laws_szThirdsS_len_T (v574 : List Nat) (v575 : List Nat) (v576 : List Nat) (v577 : Int) : Tree (Int) :=
  (.br (decide (IntKind.i64.wrap (v577 - ((v574.length : Nat) : Int)) < (0 : Int))) (
  .leaf (-1 : Int)
  ) (
  (.need (some (laws_szThirdsS_len_l0_E v574 v575 v576 v577 (IntKind.i64.wrap (v577 - ((v574.length : Nat) : Int)), (0 : Int))) = some (laws_szThirdsS_len_l0_E v574 v575 v576 v577 (IntKind.i64.wrap (v577 - ((v574.length : Nat) : Int)), (0 : Int)))) <|
  (.call (laws_szThirdsS_len_l0_g v574 v575 v576 (IntKind.i64.wrap (v577 - ((v574.length : Nat) : Int)), (0 : Int))) fun v590 =>
  (.sum v590 (fun v591 =>
  .leaf (-1 : Int)
  ) (fun v592 =>
  .leaf v592
  ))))
  ))

noncomputable def laws_szThirdsS_len_g (v574 : List Nat) (v575 : List Nat) (v576 : List Nat) (v577 : Int) : Option (Int) := (laws_szThirdsS_len_T v574 v575 v576 v577).run
def laws_szThirdsS_len_enc (v574 : List Nat) (v575 : List Nat) (v576 : List Nat) (v577 : Int) (y : Int) : Rs := (.int .i64 y, [])
theorem laws_szThirdsS_len_den (v574 : List Nat) (v575 : List Nat) (v576 : List Nat) (v577 : Int) : (den TT (tabD laws_szThirdsS_len_tab) (tabM laws_szThirdsS_len_tab) (laws_szThirdsS_len_LO v574 v575 v576 v577) (codeOf Try.f42) ([.rns 0 [.ln v574, .ln v575, .ln v576], .int .i64 v577] ++ List.replicate (Try.f42.ntmps - ([.rns 0 [.ln v574, .ln v575, .ln v576], .int .i64 v577] : List DV).length) .undef) []).bind (retD TT Try.f42.results.toList 0) = (laws_szThirdsS_len_T v574 v575 v576 v577).bind fun y => .leaf (laws_szThirdsS_len_enc v574 v575 v576 v577 y) := by kernel_rfl
theorem laws_szThirdsS_len_fn (v574 : List Nat) (v575 : List Nat) (v576 : List Nat) (v577 : Int) (F : Fr) (h0 : St F [] F.H0) (hA : DVs.Ok F [] [.rns 0 [.ln v574, .ln v575, .ln v576], .int .i64 v577]) {y : Int} (hy : laws_szThirdsS_len_g v574 v575 v576 v577 = some y) : ∃ F' H', Fwd 0 F F' [] (laws_szThirdsS_len_enc v574 v575 v576 v577 y).2 ∧ FnOk Try.prog 42 (DVs.av F [.rns 0 [.ln v574, .ln v575, .ln v576], .int .i64 v577]) F.H0 ((laws_szThirdsS_len_enc v574 v575 v576 v577 y).1.av F') H' ∧ St F' (laws_szThirdsS_len_enc v574 v575 v576 v577 y).2 H' ∧ (laws_szThirdsS_len_enc v574 v575 v576 v577 y).1.Ok F' (laws_szThirdsS_len_enc v574 v575 v576 v577 y).2 :=
  fn_fin tok laws_szThirdsS_len_hO mixed Try.func42 Try.call42 (by kernel_rfl) (LoopsOk_eq (l := [(0, bodyOf Try.f42 0)]) (by kernel_rfl) ⟨laws_szThirdsS_len_l0_ok v574 v575 v576 v577, trivial⟩) (laws_szThirdsS_len_den v574 v575 v576 v577) hy h0 hA
noncomputable def laws_szThirdsS_len_F : DFn := fun args L =>
  match args with
  | [a1, .int .i64 v577] =>
    optT (rnsV a1) fun qr0 =>
    (match qr0.2 with
    | [.ln v574, .ln v575, .ln v576] =>
    .call (laws_szThirdsS_len_g v574 v575 v576 v577) fun y => .leaf (.int .i64 y, L)
    | _ => .fail)
  | _ => .fail
theorem laws_szThirdsS_len_Fok : COk Try.prog 42 laws_szThirdsS_len_F true := by
  intro F L H args r L' hs ha hr
  unfold laws_szThirdsS_len_F at hr
  split at hr
  · rename_i a1 v577
    obtain ⟨⟨nr0, cr0⟩, hv0, hr⟩ := optT_run hr
    simp only at hr
    split at hr
    · rename_i v574 v575 v576
      have hrn0 := rnsV_ok hs (DVs.okAt ha 0 rfl) hv0
      have hra0 := rnsV_av (F := F) hv0
      simp only [Tree.run] at hr
      obtain ⟨y, hy, hr⟩ := Option.bind_eq_some_iff.1 hr
      simp only [Tree.run, Option.some.injEq, Prod.mk.injEq] at hr
      obtain ⟨rfl, rfl⟩ := hr
      exact call_ok0 hs (fun k => (([a1.av F] : List AV)[k]?).getD (F.ρ (k - 0 + nr0))) [a1, .int .i64 v577] [.rns 0 [.ln v574, .ln v575, .ln v576], .int .i64 v577] (fun F' h0 hi hρ => ⟨by simp [DVs.av, DV.av, BR.av, hρ], laws_szThirdsS_len_fn v574 v575 v576 v577 F' (st_nil hi) ⟨(rns_ok (n := nr0) hi (by rw [h0]; exact hrn0) (by rw [hρ]; exact hra0) fun m => by rw [hρ]; exact (rho_far (g := fun k => F.ρ (k - 0 + nr0)) (by simp <;> omega)).trans (congrArg F.ρ (by omega))), trivial, trivial⟩ hy⟩) rfl
    · cases hr
  · cases hr
/-! laws.FnExactThirdsShared -/
noncomputable def laws_FnExactThirdsShared_len_LO (v569 : List Nat) (v570 : List Nat) (v571 : List Nat) (v572 : Nat) (v573 : Int) : LOr := fun id e L =>
  match id with
  | _ => .fail
noncomputable def laws_FnExactThirdsShared_len_tab : List (FuncId × DFn × Bool) := [(42, laws_szThirdsS_len_F, true)]
theorem laws_FnExactThirdsShared_len_hO : OrcOk Try.prog (tabD laws_FnExactThirdsShared_len_tab) (tabM laws_FnExactThirdsShared_len_tab) := tabD_cons laws_szThirdsS_len_Fok (tabD_nil _)
noncomputable def laws_FnExactThirdsShared_len_T (v569 : List Nat) (v570 : List Nat) (v571 : List Nat) (v572 : Nat) : Tree (Bool) :=
  (.br (decide ((1048576 : Int) < ((v572 : Nat) : Int))) (
  .leaf true
  ) (
  (.call (laws_szThirdsS_len_g v569 v570 v571 (1048576 : Int)) fun v593 =>
  (.br (decide (v593 < (0 : Int))) (
  .leaf true
  ) (
  .fail
  )))
  ))

noncomputable def laws_FnExactThirdsShared_len_g (v569 : List Nat) (v570 : List Nat) (v571 : List Nat) (v572 : Nat) : Option (Bool) := (laws_FnExactThirdsShared_len_T v569 v570 v571 v572).run
def laws_FnExactThirdsShared_len_enc (v569 : List Nat) (v570 : List Nat) (v571 : List Nat) (v572 : Nat) (v573 : Int) (y : Bool) : Rs := (.bool y, [])
theorem laws_FnExactThirdsShared_len_den (v569 : List Nat) (v570 : List Nat) (v571 : List Nat) (v572 : Nat) (v573 : Int) : (den TT (tabD laws_FnExactThirdsShared_len_tab) (tabM laws_FnExactThirdsShared_len_tab) (laws_FnExactThirdsShared_len_LO v569 v570 v571 v572 v573) (codeOf Try.f10) ([.rns 0 [.ln v569, .ln v570, .ln v571], .hslc (BR.root 1) v572, .int .i64 v573] ++ List.replicate (Try.f10.ntmps - ([.rns 0 [.ln v569, .ln v570, .ln v571], .hslc (BR.root 1) v572, .int .i64 v573] : List DV).length) .undef) []).bind (retD TT Try.f10.results.toList 0) = (laws_FnExactThirdsShared_len_T v569 v570 v571 v572).bind fun y => .leaf (laws_FnExactThirdsShared_len_enc v569 v570 v571 v572 v573 y) := by kernel_rfl
theorem laws_FnExactThirdsShared_len_fn (v569 : List Nat) (v570 : List Nat) (v571 : List Nat) (v572 : Nat) (v573 : Int) (F : Fr) (h0 : St F [] F.H0) (hA : DVs.Ok F [] [.rns 0 [.ln v569, .ln v570, .ln v571], .hslc (BR.root 1) v572, .int .i64 v573]) {y : Bool} (hy : laws_FnExactThirdsShared_len_g v569 v570 v571 v572 = some y) : ∃ F' H', Fwd 0 F F' [] (laws_FnExactThirdsShared_len_enc v569 v570 v571 v572 v573 y).2 ∧ FnOk Try.prog 10 (DVs.av F [.rns 0 [.ln v569, .ln v570, .ln v571], .hslc (BR.root 1) v572, .int .i64 v573]) F.H0 ((laws_FnExactThirdsShared_len_enc v569 v570 v571 v572 v573 y).1.av F') H' ∧ St F' (laws_FnExactThirdsShared_len_enc v569 v570 v571 v572 v573 y).2 H' ∧ (laws_FnExactThirdsShared_len_enc v569 v570 v571 v572 v573 y).1.Ok F' (laws_FnExactThirdsShared_len_enc v569 v570 v571 v572 v573 y).2 :=
  fn_fin tok laws_FnExactThirdsShared_len_hO mixed Try.func10 Try.call10 (by kernel_rfl) (LoopsOk_eq (l := []) (by kernel_rfl) trivial) (laws_FnExactThirdsShared_len_den v569 v570 v571 v572 v573) hy h0 hA
noncomputable def laws_FnExactThirdsShared_len_F : DFn := fun args L =>
  match args with
  | [a1, a2, .int .i64 v573] =>
    optT (rnsV a1) fun qr0 =>
    (match qr0.2 with
    | [.ln v569, .ln v570, .ln v571] =>
    optT (lenV L a2) fun v572 =>
    .call (laws_FnExactThirdsShared_len_g v569 v570 v571 v572) fun y => .leaf (.bool y, L)
    | _ => .fail)
  | _ => .fail
theorem laws_FnExactThirdsShared_len_Fok : COk Try.prog 10 laws_FnExactThirdsShared_len_F true := by
  intro F L H args r L' hs ha hr
  unfold laws_FnExactThirdsShared_len_F at hr
  split at hr
  · rename_i a1 a2 v573
    obtain ⟨⟨nr0, cr0⟩, hv0, hr⟩ := optT_run hr
    simp only at hr
    split at hr
    · rename_i v569 v570 v571
      have hrn0 := rnsV_ok hs (DVs.okAt ha 0 rfl) hv0
      have hra0 := rnsV_av (F := F) hv0
      obtain ⟨v572, hv572, hr⟩ := optT_run hr
      simp only [Tree.run] at hr
      obtain ⟨y, hy, hr⟩ := Option.bind_eq_some_iff.1 hr
      simp only [Tree.run, Option.some.injEq, Prod.mk.injEq] at hr
      obtain ⟨rfl, rfl⟩ := hr
      exact call_ok0 hs (fun k => (([a1.av F, a2.av F] : List AV)[k]?).getD (F.ρ (k - 0 + nr0))) [a1, a2, .int .i64 v573] [.rns 0 [.ln v569, .ln v570, .ln v571], .hslc (BR.root 1) v572, .int .i64 v573] (fun F' h0 hi hρ => ⟨by simp [DVs.av, DV.av, BR.av, hρ], laws_FnExactThirdsShared_len_fn v569 v570 v571 v572 v573 F' (st_nil hi) ⟨(rns_ok (n := nr0) hi (by rw [h0]; exact hrn0) (by rw [hρ]; exact hra0) fun m => by rw [hρ]; exact (rho_far (g := fun k => F.ρ (k - 0 + nr0)) (by simp <;> omega)).trans (congrArg F.ρ (by omega))), hslc_ok hi (by rw [h0, hρ]; exact lenV_ok hs (DVs.okAt ha 1 rfl) hv572), trivial, trivial⟩ hy⟩) rfl
    · cases hr
  · cases hr
end Go.Proofs.Ytimlecagkbbnpaa.AM
