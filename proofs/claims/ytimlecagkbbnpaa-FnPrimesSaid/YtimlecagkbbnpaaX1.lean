/- Functions: what they come to. -/
import Derived.Test.YtimlecagkbbnpaaX0
set_option maxRecDepth 100000
set_option maxHeartbeats 4000000
set_option linter.unusedSimpArgs false
set_option linter.unusedVariables false
namespace Go.Proofs.Ytimlecagkbbnpaa.AM
open Go.Proofs
/-! spec.R8Whole -/
noncomputable def spec_R8Whole_LO (v11 : List Int) (v12 v13 : Int) : LOr := fun id e L =>
  match id with
  | _ => .fail
noncomputable def spec_R8Whole_tab : List (FuncId × DFn × Bool) := [(121, spec_l00From_F, true), (122, spec_l06DrawSides_F, false)]
theorem spec_R8Whole_hO : OrcOk Try.prog (tabD spec_R8Whole_tab) (tabM spec_R8Whole_tab) := tabD_cons spec_l00From_Fok (tabD_cons spec_l06DrawSides_Fok (tabD_nil _))
noncomputable def spec_R8Whole_T (v11 : List Int) (v12 v13 : Int) : Tree (Int × Int × (List Int)) :=
  (.call (spec_l06DrawSides_g v11 (0 : Int) (0 : Int) v12 v13) fun v55 =>
  .leaf (v55.1, v55.2.1, v55.2.2.2.2))

noncomputable def spec_R8Whole_g (v11 : List Int) (v12 v13 : Int) : Option (Int × Int × (List Int)) := (spec_R8Whole_T v11 v12 v13).run
def spec_R8Whole_enc (v11 : List Int) (v12 v13 : Int) (y : Int × Int × (List Int)) : Rs := (.agg [.int .i64 y.1, .int .i64 y.2.1, .own 0 0 ((y.2.2).length)], [.row (.i64 y.2.2) 0])
theorem spec_R8Whole_den (v11 : List Int) (v12 v13 : Int) : (den TT (tabD spec_R8Whole_tab) (tabM spec_R8Whole_tab) (spec_R8Whole_LO v11 v12 v13) (codeOf Try.f56) ([.bslc (BR.root 0) (.u8 v11), .int .i64 v12, .int .i64 v13] ++ List.replicate (Try.f56.ntmps - ([.bslc (BR.root 0) (.u8 v11), .int .i64 v12, .int .i64 v13] : List DV).length) .undef) []).bind (retD TT Try.f56.results.toList 0) = (spec_R8Whole_T v11 v12 v13).bind fun y => .leaf (spec_R8Whole_enc v11 v12 v13 y) := by kernel_rfl
theorem spec_R8Whole_fn (v11 : List Int) (v12 v13 : Int) (F : Fr) (h0 : St F [] F.H0) (hA : DVs.Ok F [] [.bslc (BR.root 0) (.u8 v11), .int .i64 v12, .int .i64 v13]) {y : Int × Int × (List Int)} (hy : spec_R8Whole_g v11 v12 v13 = some y) : ∃ F' H', Fwd 0 F F' [] (spec_R8Whole_enc v11 v12 v13 y).2 ∧ FnOk Try.prog 56 (DVs.av F [.bslc (BR.root 0) (.u8 v11), .int .i64 v12, .int .i64 v13]) F.H0 ((spec_R8Whole_enc v11 v12 v13 y).1.av F') H' ∧ St F' (spec_R8Whole_enc v11 v12 v13 y).2 H' ∧ (spec_R8Whole_enc v11 v12 v13 y).1.Ok F' (spec_R8Whole_enc v11 v12 v13 y).2 :=
  fn_fin tok spec_R8Whole_hO mixed Try.func56 Try.call56 (by kernel_rfl) (LoopsOk_eq (l := []) (by kernel_rfl) trivial) (spec_R8Whole_den v11 v12 v13) hy h0 hA
noncomputable def spec_R8Whole_F : DFn := fun args L =>
  match args with
  | [a1, .int .i64 v12, .int .i64 v13] =>
    optT (rowU8 L a1) fun v11 =>
    .call (spec_R8Whole_g v11 v12 v13) fun y => .leaf (.agg [.int .i64 y.1, .int .i64 y.2.1, .own (L.length + 0) 0 ((y.2.2).length)], L ++ [.row (.i64 y.2.2) 0])
  | _ => .fail
theorem spec_R8Whole_Fok : COk Try.prog 56 spec_R8Whole_F true := by
  intro F L H args r L' hs ha hr
  unfold spec_R8Whole_F at hr
  split at hr
  · rename_i a1 v12 v13
    obtain ⟨v11, hv11, hr⟩ := optT_run hr
    simp only [Tree.run] at hr
    obtain ⟨y, hy, hr⟩ := Option.bind_eq_some_iff.1 hr
    simp only [Tree.run, Option.some.injEq, Prod.mk.injEq] at hr
    obtain ⟨rfl, rfl⟩ := hr
    exact call_ok1 hs (fun k => (([a1.av F] : List AV)[k]?).getD .top) [a1, .int .i64 v12, .int .i64 v13] [.bslc (BR.root 0) (.u8 v11), .int .i64 v12, .int .i64 v13] (fun F' h0 hi hρ => ⟨by simp [DVs.av, DV.av, BR.av, hρ], spec_R8Whole_fn v11 v12 v13 F' (st_nil hi) ⟨bslc_ok hi (by rw [h0, hρ]; exact rowU8_ok hs (DVs.okAt ha 0 rfl) hv11), trivial, trivial, trivial⟩ hy⟩) rfl rfl
  · cases hr
/-! impl.inRange -/
noncomputable def impl_inRange_LO (v68 v69 v70 : Int) : LOr := fun id e L =>
  match id with
  | _ => .fail
noncomputable def impl_inRange_tab : List (FuncId × DFn × Bool) := []
theorem impl_inRange_hO : OrcOk Try.prog (tabD impl_inRange_tab) (tabM impl_inRange_tab) := tabD_nil _
noncomputable def impl_inRange_T (v68 v69 v70 : Int) : Tree (Bool) :=
  (.br (decide (v69 ≤ v68)) (
  .leaf (decide (v68 ≤ v70))
  ) (
  .leaf false
  ))

noncomputable def impl_inRange_g (v68 v69 v70 : Int) : Option (Bool) := (impl_inRange_T v68 v69 v70).run
def impl_inRange_enc (v68 v69 v70 : Int) (y : Bool) : Rs := (.bool y, [])
theorem impl_inRange_den (v68 v69 v70 : Int) : (den TT (tabD impl_inRange_tab) (tabM impl_inRange_tab) (impl_inRange_LO v68 v69 v70) (codeOf Try.f89) ([.int .i64 v68, .int .i64 v69, .int .i64 v70] ++ List.replicate (Try.f89.ntmps - ([.int .i64 v68, .int .i64 v69, .int .i64 v70] : List DV).length) .undef) []).bind (retD TT Try.f89.results.toList 0) = (impl_inRange_T v68 v69 v70).bind fun y => .leaf (impl_inRange_enc v68 v69 v70 y) := by kernel_rfl
theorem impl_inRange_fn (v68 v69 v70 : Int) (F : Fr) (h0 : St F [] F.H0) (hA : DVs.Ok F [] [.int .i64 v68, .int .i64 v69, .int .i64 v70]) {y : Bool} (hy : impl_inRange_g v68 v69 v70 = some y) : ∃ F' H', Fwd 0 F F' [] (impl_inRange_enc v68 v69 v70 y).2 ∧ FnOk Try.prog 89 (DVs.av F [.int .i64 v68, .int .i64 v69, .int .i64 v70]) F.H0 ((impl_inRange_enc v68 v69 v70 y).1.av F') H' ∧ St F' (impl_inRange_enc v68 v69 v70 y).2 H' ∧ (impl_inRange_enc v68 v69 v70 y).1.Ok F' (impl_inRange_enc v68 v69 v70 y).2 :=
  fn_fin tok impl_inRange_hO mixed Try.func89 Try.call89 (by kernel_rfl) (LoopsOk_eq (l := []) (by kernel_rfl) trivial) (impl_inRange_den v68 v69 v70) hy h0 hA
def impl_inRange_v (v68 v69 v70 : Int) : Bool :=
  if (decide (v69 ≤ v68)) = true then (
  decide (v68 ≤ v70)
  ) else (
  false
  )
theorem impl_inRange_tot (v68 v69 v70 : Int) : impl_inRange_g v68 v69 v70 = some (impl_inRange_v v68 v69 v70) := by
  unfold impl_inRange_g impl_inRange_T impl_inRange_v
  simp only [Tree.run]
  repeat' (first | rfl | split)
noncomputable def impl_inRange_F : DFn := fun args L =>
  match args with
  | [.int .i64 v68, .int .i64 v69, .int .i64 v70] =>
    .leaf (.bool (impl_inRange_v v68 v69 v70), L)
  | _ => .fail
theorem impl_inRange_Fok : COk Try.prog 89 impl_inRange_F true := by
  intro F L H args r L' hs ha hr
  unfold impl_inRange_F at hr
  split at hr
  · rename_i v68 v69 v70
    have hy := impl_inRange_tot v68 v69 v70
    generalize impl_inRange_v v68 v69 v70 = y at hy hr
    simp only [Tree.run, Option.some.injEq, Prod.mk.injEq] at hr
    obtain ⟨rfl, rfl⟩ := hr
    exact call_ok0 hs (fun k => (([] : List AV)[k]?).getD .top) [.int .i64 v68, .int .i64 v69, .int .i64 v70] [.int .i64 v68, .int .i64 v69, .int .i64 v70] (fun F' h0 hi hρ => ⟨by simp [DVs.av, DV.av, BR.av, hρ], impl_inRange_fn v68 v69 v70 F' (st_nil hi) ⟨trivial, trivial, trivial, trivial⟩ hy⟩) rfl
  · cases hr
/-! impl.length[int64] -/
noncomputable def impl_lengthI_LO (v71 : List Int) : LOr := fun id e L =>
  match id with
  | _ => .fail
noncomputable def impl_lengthI_tab : List (FuncId × DFn × Bool) := []
theorem impl_lengthI_hO : OrcOk Try.prog (tabD impl_lengthI_tab) (tabM impl_lengthI_tab) := tabD_nil _
noncomputable def impl_lengthI_T (v71 : List Int) : Tree (Int) :=
  .leaf ((v71.length : Nat) : Int)

noncomputable def impl_lengthI_g (v71 : List Int) : Option (Int) := (impl_lengthI_T v71).run
def impl_lengthI_enc (v71 : List Int) (y : Int) : Rs := (.int .i64 y, [])
theorem impl_lengthI_den (v71 : List Int) : (den TT (tabD impl_lengthI_tab) (tabM impl_lengthI_tab) (impl_lengthI_LO v71) (codeOf Try.f65) ([.bslc (BR.root 0) (.i64 v71)] ++ List.replicate (Try.f65.ntmps - ([.bslc (BR.root 0) (.i64 v71)] : List DV).length) .undef) []).bind (retD TT Try.f65.results.toList 0) = (impl_lengthI_T v71).bind fun y => .leaf (impl_lengthI_enc v71 y) := by kernel_rfl
theorem impl_lengthI_fn (v71 : List Int) (F : Fr) (h0 : St F [] F.H0) (hA : DVs.Ok F [] [.bslc (BR.root 0) (.i64 v71)]) {y : Int} (hy : impl_lengthI_g v71 = some y) : ∃ F' H', Fwd 0 F F' [] (impl_lengthI_enc v71 y).2 ∧ FnOk Try.prog 65 (DVs.av F [.bslc (BR.root 0) (.i64 v71)]) F.H0 ((impl_lengthI_enc v71 y).1.av F') H' ∧ St F' (impl_lengthI_enc v71 y).2 H' ∧ (impl_lengthI_enc v71 y).1.Ok F' (impl_lengthI_enc v71 y).2 :=
  fn_fin tok impl_lengthI_hO mixed Try.func65 Try.call65 (by kernel_rfl) (LoopsOk_eq (l := []) (by kernel_rfl) trivial) (impl_lengthI_den v71) hy h0 hA
def impl_lengthI_v (v71 : List Int) : Int :=
  ((v71.length : Nat) : Int)
theorem impl_lengthI_tot (v71 : List Int) : impl_lengthI_g v71 = some (impl_lengthI_v v71) := by
  unfold impl_lengthI_g impl_lengthI_T impl_lengthI_v
  simp only [Tree.run]
  repeat' (first | rfl | split)
noncomputable def impl_lengthI_F : DFn := fun args L =>
  match args with
  | [a1] =>
    optT (rowI64 L a1) fun v71 =>
    .leaf (.int .i64 (impl_lengthI_v v71), L)
  | _ => .fail
theorem impl_lengthI_Fok : COk Try.prog 65 impl_lengthI_F true := by
  intro F L H args r L' hs ha hr
  unfold impl_lengthI_F at hr
  split at hr
  · rename_i a1
    obtain ⟨v71, hv71, hr⟩ := optT_run hr
    have hy := impl_lengthI_tot v71
    generalize impl_lengthI_v v71 = y at hy hr
    simp only [Tree.run, Option.some.injEq, Prod.mk.injEq] at hr
    obtain ⟨rfl, rfl⟩ := hr
    exact call_ok0 hs (fun k => (([a1.av F] : List AV)[k]?).getD .top) [a1] [.bslc (BR.root 0) (.i64 v71)] (fun F' h0 hi hρ => ⟨by simp [DVs.av, DV.av, BR.av, hρ], impl_lengthI_fn v71 F' (st_nil hi) ⟨bslc_ok hi (by rw [h0, hρ]; exact rowI64_ok hs (DVs.okAt ha 0 rfl) hv71), trivial⟩ hy⟩) rfl
  · cases hr
/-! impl.allIn$1 -/
noncomputable def impl_allIn_1_LO (v82 v83 v84 : Int) : LOr := fun id e L =>
  match id with
  | _ => .fail
noncomputable def impl_allIn_1_tab : List (FuncId × DFn × Bool) := [(89, impl_inRange_F, true)]
theorem impl_allIn_1_hO : OrcOk Try.prog (tabD impl_allIn_1_tab) (tabM impl_allIn_1_tab) := tabD_cons impl_inRange_Fok (tabD_nil _)
noncomputable def impl_allIn_1_T (v82 v83 v84 : Int) : Tree (Bool) :=
  .leaf (!(impl_inRange_v v82 v83 v84))

noncomputable def impl_allIn_1_g (v82 v83 v84 : Int) : Option (Bool) := (impl_allIn_1_T v82 v83 v84).run
def impl_allIn_1_enc (v82 v83 v84 : Int) (y : Bool) : Rs := (.bool y, [])
theorem impl_allIn_1_den (v82 v83 v84 : Int) : (den TT (tabD impl_allIn_1_tab) (tabM impl_allIn_1_tab) (impl_allIn_1_LO v82 v83 v84) (codeOf Try.f129) ([.int .i64 v82, .bptr (BR.root 0) [.int .i64 v83], .bptr (BR.root 1) [.int .i64 v84]] ++ List.replicate (Try.f129.ntmps - ([.int .i64 v82, .bptr (BR.root 0) [.int .i64 v83], .bptr (BR.root 1) [.int .i64 v84]] : List DV).length) .undef) []).bind (retD TT Try.f129.results.toList 0) = (impl_allIn_1_T v82 v83 v84).bind fun y => .leaf (impl_allIn_1_enc v82 v83 v84 y) := by kernel_rfl
theorem impl_allIn_1_fn (v82 v83 v84 : Int) (F : Fr) (h0 : St F [] F.H0) (hA : DVs.Ok F [] [.int .i64 v82, .bptr (BR.root 0) [.int .i64 v83], .bptr (BR.root 1) [.int .i64 v84]]) {y : Bool} (hy : impl_allIn_1_g v82 v83 v84 = some y) : ∃ F' H', Fwd 0 F F' [] (impl_allIn_1_enc v82 v83 v84 y).2 ∧ FnOk Try.prog 129 (DVs.av F [.int .i64 v82, .bptr (BR.root 0) [.int .i64 v83], .bptr (BR.root 1) [.int .i64 v84]]) F.H0 ((impl_allIn_1_enc v82 v83 v84 y).1.av F') H' ∧ St F' (impl_allIn_1_enc v82 v83 v84 y).2 H' ∧ (impl_allIn_1_enc v82 v83 v84 y).1.Ok F' (impl_allIn_1_enc v82 v83 v84 y).2 :=
  fn_fin tok impl_allIn_1_hO mixed Try.func129 Try.call129 (by kernel_rfl) (LoopsOk_eq (l := []) (by kernel_rfl) trivial) (impl_allIn_1_den v82 v83 v84) hy h0 hA
def impl_allIn_1_v (v82 v83 v84 : Int) : Bool :=
  !(impl_inRange_v v82 v83 v84)
theorem impl_allIn_1_tot (v82 v83 v84 : Int) : impl_allIn_1_g v82 v83 v84 = some (impl_allIn_1_v v82 v83 v84) := by
  unfold impl_allIn_1_g impl_allIn_1_T impl_allIn_1_v
  simp only [Tree.run]
  repeat' (first | rfl | split)
noncomputable def impl_allIn_1_F : DFn := fun args L =>
  match args with
  | [.int .i64 v82, a1, a2] =>
    optT (cellsOf L 1 a1) fun cs0 =>
    (match cs0 with
    | [.int .i64 v83] =>
    optT (cellsOf L 1 a2) fun cs1 =>
    (match cs1 with
    | [.int .i64 v84] =>
    .leaf (.bool (impl_allIn_1_v v82 v83 v84), L)
    | _ => .fail)
    | _ => .fail)
  | _ => .fail
theorem impl_allIn_1_Fok : COk Try.prog 129 impl_allIn_1_F true := by
  intro F L H args r L' hs ha hr
  unfold impl_allIn_1_F at hr
  split at hr
  · rename_i v82 a1 a2
    obtain ⟨cs0, hcp0, hr⟩ := optT_run hr
    split at hr
    · rename_i v83
      obtain ⟨cs1, hcp1, hr⟩ := optT_run hr
      split at hr
      · rename_i v84
        have hy := impl_allIn_1_tot v82 v83 v84
        generalize impl_allIn_1_v v82 v83 v84 = y at hy hr
        simp only [Tree.run, Option.some.injEq, Prod.mk.injEq] at hr
        obtain ⟨rfl, rfl⟩ := hr
        exact call_ok0 hs (fun k => (([a1.av F, a2.av F] : List AV)[k]?).getD .top) [.int .i64 v82, a1, a2] [.int .i64 v82, .bptr (BR.root 0) [.int .i64 v83], .bptr (BR.root 1) [.int .i64 v84]] (fun F' h0 hi hρ => ⟨by simp [DVs.av, DV.av, BR.av, hρ], impl_allIn_1_fn v82 v83 v84 F' (st_nil hi) ⟨trivial, bptr_ok hi (by rw [h0]; simpa [DVs.av, DV.av, BR.av, hρ] using (cellsOf_ok hs (DVs.okAt ha 1 rfl) hcp0).1) ⟨trivial, trivial⟩, bptr_ok hi (by rw [h0]; simpa [DVs.av, DV.av, BR.av, hρ] using (cellsOf_ok hs (DVs.okAt ha 2 rfl) hcp1).1) ⟨trivial, trivial⟩, trivial⟩ hy⟩) rfl
      · cases hr
    · cases hr
  · cases hr
/-! slices.IndexFunc[list of int64,int64] -/
noncomputable def slices_IndexFuncI_l0_T (v78 : List Int) (v79 v80 s : Int) : Tree ((Int) ⊕ ((Int) ⊕ (Unit))) :=
  (.br (decide (s < ((v78.length : Nat) : Int))) (
  (.grd (inb s v78.length) <|
  (.br (impl_allIn_1_v (nth v78 (Int.toNat s)) v79 v80) (
  .leaf (.inr (.inl s))
  ) (
  .leaf (.inl (IntKind.i64.wrap (s + (1 : Int))))
  )))
  ) (
  .leaf (.inr (.inr ()))
  ))

noncomputable def slices_IndexFuncI_l0_g (v78 : List Int) (v79 v80 s0 : Int) : Option ((Int) ⊕ (Unit)) := whileM (fun s => (slices_IndexFuncI_l0_T v78 v79 v80 s).run) s0
def slices_IndexFuncI_l0_E (v78 : List Int) (v79 v80 s : Int) : Sd := ([.bslc (BR.root 0) (.i64 v78),.fn 129 [.bptr (BR.root 1) [.int .i64 v79], .bptr (BR.root 2) [.int .i64 v80]],Z,Z,Z,Z,Z,.int .i64 ((v78.length : Nat) : Int),.int .i64 s,Z,Z,Z,Z,Z,Z,Z,Z,Z,Z], [])
def slices_IndexFuncI_l0_X (v78 : List Int) (v79 v80 : Int) (x : (Int) ⊕ (Unit)) : Out := (match x with | .inl x => (.ret, [Z,Z,Z,Z,.int .i64 x,Z,Z,Z,Z,Z,Z,Z,Z,Z,Z,Z,Z,Z,Z], []) | .inr x => (.normal, [Z,Z,Z,Z,Z,Z,Z,Z,Z,Z,Z,Z,Z,Z,Z,Z,Z,Z,Z], []))
def slices_IndexFuncI_l0_kill : List Nat := KL true [0,2,5,2,10]
def slices_IndexFuncI_l0_nx : Exit → List Nat
  | .exit 0 => KL true [19]
  | .ret => KL true [4,1,14]
  | _ => []
noncomputable def slices_IndexFuncI_LO (v78 : List Int) (v79 v80 : Int) : LOr := fun id e L =>
  match id with
  | 0 => .need (normA 0 slices_IndexFuncI_l0_kill e L = some (slices_IndexFuncI_l0_E v78 v79 v80 (gI (vAt e 8)))) (.call (slices_IndexFuncI_l0_g v78 v79 v80 (gI (vAt e 8))) fun x => .sum x (fun b0 => .leaf (slices_IndexFuncI_l0_X v78 v79 v80 (.inl b0))) (fun c0 => .leaf (slices_IndexFuncI_l0_X v78 v79 v80 (.inr c0))))
  | _ => .fail
noncomputable def slices_IndexFuncI_tab : List (FuncId × DFn × Bool) := [(129, impl_allIn_1_F, true)]
theorem slices_IndexFuncI_hO : OrcOk Try.prog (tabD slices_IndexFuncI_tab) (tabM slices_IndexFuncI_tab) := tabD_cons impl_allIn_1_Fok (tabD_nil _)
theorem slices_IndexFuncI_l0_be (v78 : List Int) (v79 v80 s : Int) : bodyT TT (tabD slices_IndexFuncI_tab) (tabM slices_IndexFuncI_tab) (slices_IndexFuncI_LO v78 v79 v80) 0 slices_IndexFuncI_l0_kill slices_IndexFuncI_l0_nx (bodyOf Try.f157 0) 0 (slices_IndexFuncI_l0_E v78 v79 v80 s) = (slices_IndexFuncI_l0_T v78 v79 v80 s).bind fun y => .leaf (outS (slices_IndexFuncI_l0_E v78 v79 v80) (slices_IndexFuncI_l0_X v78 v79 v80) y) := by kernel_rfl
theorem slices_IndexFuncI_l0_ok (v78 : List Int) (v79 v80 : Int) : LSound Try.prog 0 (slices_IndexFuncI_LO v78 v79 v80) 0 (bodyOf Try.f157 0) := by
  intro e L out h
  exact lo_ok (E := slices_IndexFuncI_l0_E v78 v79 v80) (gT := slices_IndexFuncI_l0_T v78 v79 v80) (X := slices_IndexFuncI_l0_X v78 v79 v80) (s0 := (gI (vAt e 8))) tok slices_IndexFuncI_hO mixed (LoopsOk_eq (l := []) (by kernel_rfl) trivial) (slices_IndexFuncI_l0_be v78 v79 v80) rfl (by intro x; (cases x with | inl b => rfl | inr x => exact rfl)) h
noncomputable def slices_IndexFuncI_T (v78 : List Int) (v79 v80 : Int) : Tree (Int) :=
  (.need (some (slices_IndexFuncI_l0_E v78 v79 v80 (0 : Int)) = some (slices_IndexFuncI_l0_E v78 v79 v80 (0 : Int))) <|
  (.call (slices_IndexFuncI_l0_g v78 v79 v80 (0 : Int)) fun v87 =>
  (.sum v87 (fun v88 =>
  .leaf v88
  ) (fun v89 =>
  .leaf (-1 : Int)
  ))))

noncomputable def slices_IndexFuncI_g (v78 : List Int) (v79 v80 : Int) : Option (Int) := (slices_IndexFuncI_T v78 v79 v80).run
def slices_IndexFuncI_enc (v78 : List Int) (v79 v80 y : Int) : Rs := (.int .i64 y, [])
theorem slices_IndexFuncI_den (v78 : List Int) (v79 v80 : Int) : (den TT (tabD slices_IndexFuncI_tab) (tabM slices_IndexFuncI_tab) (slices_IndexFuncI_LO v78 v79 v80) (codeOf Try.f157) ([.bslc (BR.root 0) (.i64 v78), .fn 129 [.bptr (BR.root 1) [.int .i64 v79], .bptr (BR.root 2) [.int .i64 v80]]] ++ List.replicate (Try.f157.ntmps - ([.bslc (BR.root 0) (.i64 v78), .fn 129 [.bptr (BR.root 1) [.int .i64 v79], .bptr (BR.root 2) [.int .i64 v80]]] : List DV).length) .undef) []).bind (retD TT Try.f157.results.toList 0) = (slices_IndexFuncI_T v78 v79 v80).bind fun y => .leaf (slices_IndexFuncI_enc v78 v79 v80 y) := by kernel_rfl
theorem slices_IndexFuncI_fn (v78 : List Int) (v79 v80 : Int) (F : Fr) (h0 : St F [] F.H0) (hA : DVs.Ok F [] [.bslc (BR.root 0) (.i64 v78), .fn 129 [.bptr (BR.root 1) [.int .i64 v79], .bptr (BR.root 2) [.int .i64 v80]]]) {y : Int} (hy : slices_IndexFuncI_g v78 v79 v80 = some y) : ∃ F' H', Fwd 0 F F' [] (slices_IndexFuncI_enc v78 v79 v80 y).2 ∧ FnOk Try.prog 157 (DVs.av F [.bslc (BR.root 0) (.i64 v78), .fn 129 [.bptr (BR.root 1) [.int .i64 v79], .bptr (BR.root 2) [.int .i64 v80]]]) F.H0 ((slices_IndexFuncI_enc v78 v79 v80 y).1.av F') H' ∧ St F' (slices_IndexFuncI_enc v78 v79 v80 y).2 H' ∧ (slices_IndexFuncI_enc v78 v79 v80 y).1.Ok F' (slices_IndexFuncI_enc v78 v79 v80 y).2 :=
  fn_fin tok slices_IndexFuncI_hO mixed Try.func157 Try.call157 (by kernel_rfl) (LoopsOk_eq (l := [(0, bodyOf Try.f157 0)]) (by kernel_rfl) ⟨slices_IndexFuncI_l0_ok v78 v79 v80, trivial⟩) (slices_IndexFuncI_den v78 v79 v80) hy h0 hA
noncomputable def slices_IndexFuncI_F : DFn := fun args L =>
  match args with
  | [a1, .fn 129 [a2, a3]] =>
    optT (rowI64 L a1) fun v78 =>
    optT (cellsOf L 1 a2) fun cs1 =>
    (match cs1 with
    | [.int .i64 v79] =>
    optT (cellsOf L 1 a3) fun cs2 =>
    (match cs2 with
    | [.int .i64 v80] =>
    .call (slices_IndexFuncI_g v78 v79 v80) fun y => .leaf (.int .i64 y, L)
    | _ => .fail)
    | _ => .fail)
  | _ => .fail
theorem slices_IndexFuncI_Fok : COk Try.prog 157 slices_IndexFuncI_F true := by
  intro F L H args r L' hs ha hr
  unfold slices_IndexFuncI_F at hr
  split at hr
  · rename_i a1 a2 a3
    obtain ⟨v78, hv78, hr⟩ := optT_run hr
    obtain ⟨cs1, hcp1, hr⟩ := optT_run hr
    split at hr
    · rename_i v79
      obtain ⟨cs2, hcp2, hr⟩ := optT_run hr
      split at hr
      · rename_i v80
        simp only [Tree.run] at hr
        obtain ⟨y, hy, hr⟩ := Option.bind_eq_some_iff.1 hr
        simp only [Tree.run, Option.some.injEq, Prod.mk.injEq] at hr
        obtain ⟨rfl, rfl⟩ := hr
        exact call_ok0 hs (fun k => (([a1.av F, a2.av F, a3.av F] : List AV)[k]?).getD .top) [a1, .fn 129 [a2, a3]] [.bslc (BR.root 0) (.i64 v78), .fn 129 [.bptr (BR.root 1) [.int .i64 v79], .bptr (BR.root 2) [.int .i64 v80]]] (fun F' h0 hi hρ => ⟨by simp [DVs.av, DV.av, BR.av, hρ], slices_IndexFuncI_fn v78 v79 v80 F' (st_nil hi) ⟨bslc_ok hi (by rw [h0, hρ]; exact rowI64_ok hs (DVs.okAt ha 0 rfl) hv78), ⟨bptr_ok hi (by rw [h0]; simpa [DVs.av, DV.av, BR.av, hρ] using (cellsOf_ok hs (DVs.okAt (DVs.okAt ha 1 rfl) 0 rfl) hcp1).1) ⟨trivial, trivial⟩, bptr_ok hi (by rw [h0]; simpa [DVs.av, DV.av, BR.av, hρ] using (cellsOf_ok hs (DVs.okAt (DVs.okAt ha 1 rfl) 1 rfl) hcp2).1) ⟨trivial, trivial⟩, trivial⟩, trivial⟩ hy⟩) rfl
      · cases hr
    · cases hr
  · cases hr
/-! slices.ContainsFunc[list of int64,int64] -/
noncomputable def slices_ContainsFuncI_LO (v75 : List Int) (v76 v77 : Int) : LOr := fun id e L =>
  match id with
  | _ => .fail
noncomputable def slices_ContainsFuncI_tab : List (FuncId × DFn × Bool) := [(157, slices_IndexFuncI_F, true)]
theorem slices_ContainsFuncI_hO : OrcOk Try.prog (tabD slices_ContainsFuncI_tab) (tabM slices_ContainsFuncI_tab) := tabD_cons slices_IndexFuncI_Fok (tabD_nil _)
noncomputable def slices_ContainsFuncI_T (v75 : List Int) (v76 v77 : Int) : Tree (Bool) :=
  (.call (slices_IndexFuncI_g v75 v76 v77) fun v90 =>
  .leaf (decide ((0 : Int) ≤ v90)))

noncomputable def slices_ContainsFuncI_g (v75 : List Int) (v76 v77 : Int) : Option (Bool) := (slices_ContainsFuncI_T v75 v76 v77).run
def slices_ContainsFuncI_enc (v75 : List Int) (v76 v77 : Int) (y : Bool) : Rs := (.bool y, [])
theorem slices_ContainsFuncI_den (v75 : List Int) (v76 v77 : Int) : (den TT (tabD slices_ContainsFuncI_tab) (tabM slices_ContainsFuncI_tab) (slices_ContainsFuncI_LO v75 v76 v77) (codeOf Try.f128) ([.bslc (BR.root 0) (.i64 v75), .fn 129 [.bptr (BR.root 1) [.int .i64 v76], .bptr (BR.root 2) [.int .i64 v77]]] ++ List.replicate (Try.f128.ntmps - ([.bslc (BR.root 0) (.i64 v75), .fn 129 [.bptr (BR.root 1) [.int .i64 v76], .bptr (BR.root 2) [.int .i64 v77]]] : List DV).length) .undef) []).bind (retD TT Try.f128.results.toList 0) = (slices_ContainsFuncI_T v75 v76 v77).bind fun y => .leaf (slices_ContainsFuncI_enc v75 v76 v77 y) := by kernel_rfl
theorem slices_ContainsFuncI_fn (v75 : List Int) (v76 v77 : Int) (F : Fr) (h0 : St F [] F.H0) (hA : DVs.Ok F [] [.bslc (BR.root 0) (.i64 v75), .fn 129 [.bptr (BR.root 1) [.int .i64 v76], .bptr (BR.root 2) [.int .i64 v77]]]) {y : Bool} (hy : slices_ContainsFuncI_g v75 v76 v77 = some y) : ∃ F' H', Fwd 0 F F' [] (slices_ContainsFuncI_enc v75 v76 v77 y).2 ∧ FnOk Try.prog 128 (DVs.av F [.bslc (BR.root 0) (.i64 v75), .fn 129 [.bptr (BR.root 1) [.int .i64 v76], .bptr (BR.root 2) [.int .i64 v77]]]) F.H0 ((slices_ContainsFuncI_enc v75 v76 v77 y).1.av F') H' ∧ St F' (slices_ContainsFuncI_enc v75 v76 v77 y).2 H' ∧ (slices_ContainsFuncI_enc v75 v76 v77 y).1.Ok F' (slices_ContainsFuncI_enc v75 v76 v77 y).2 :=
  fn_fin tok slices_ContainsFuncI_hO mixed Try.func128 Try.call128 (by kernel_rfl) (LoopsOk_eq (l := []) (by kernel_rfl) trivial) (slices_ContainsFuncI_den v75 v76 v77) hy h0 hA
noncomputable def slices_ContainsFuncI_F : DFn := fun args L =>
  match args with
  | [a1, .fn 129 [a2, a3]] =>
    optT (rowI64 L a1) fun v75 =>
    optT (cellsOf L 1 a2) fun cs1 =>
    (match cs1 with
    | [.int .i64 v76] =>
    optT (cellsOf L 1 a3) fun cs2 =>
    (match cs2 with
    | [.int .i64 v77] =>
    .call (slices_ContainsFuncI_g v75 v76 v77) fun y => .leaf (.bool y, L)
    | _ => .fail)
    | _ => .fail)
  | _ => .fail
theorem slices_ContainsFuncI_Fok : COk Try.prog 128 slices_ContainsFuncI_F true := by
  intro F L H args r L' hs ha hr
  unfold slices_ContainsFuncI_F at hr
  split at hr
  · rename_i a1 a2 a3
    obtain ⟨v75, hv75, hr⟩ := optT_run hr
    obtain ⟨cs1, hcp1, hr⟩ := optT_run hr
    split at hr
    · rename_i v76
      obtain ⟨cs2, hcp2, hr⟩ := optT_run hr
      split at hr
      · rename_i v77
        simp only [Tree.run] at hr
        obtain ⟨y, hy, hr⟩ := Option.bind_eq_some_iff.1 hr
        simp only [Tree.run, Option.some.injEq, Prod.mk.injEq] at hr
        obtain ⟨rfl, rfl⟩ := hr
        exact call_ok0 hs (fun k => (([a1.av F, a2.av F, a3.av F] : List AV)[k]?).getD .top) [a1, .fn 129 [a2, a3]] [.bslc (BR.root 0) (.i64 v75), .fn 129 [.bptr (BR.root 1) [.int .i64 v76], .bptr (BR.root 2) [.int .i64 v77]]] (fun F' h0 hi hρ => ⟨by simp [DVs.av, DV.av, BR.av, hρ], slices_ContainsFuncI_fn v75 v76 v77 F' (st_nil hi) ⟨bslc_ok hi (by rw [h0, hρ]; exact rowI64_ok hs (DVs.okAt ha 0 rfl) hv75), ⟨bptr_ok hi (by rw [h0]; simpa [DVs.av, DV.av, BR.av, hρ] using (cellsOf_ok hs (DVs.okAt (DVs.okAt ha 1 rfl) 0 rfl) hcp1).1) ⟨trivial, trivial⟩, bptr_ok hi (by rw [h0]; simpa [DVs.av, DV.av, BR.av, hρ] using (cellsOf_ok hs (DVs.okAt (DVs.okAt ha 1 rfl) 1 rfl) hcp2).1) ⟨trivial, trivial⟩, trivial⟩, trivial⟩ hy⟩) rfl
      · cases hr
    · cases hr
  · cases hr
/-! impl.allIn -/
noncomputable def impl_allIn_LO (v72 : List Int) (v73 v74 : Int) : LOr := fun id e L =>
  match id with
  | _ => .fail
noncomputable def impl_allIn_tab : List (FuncId × DFn × Bool) := [(128, slices_ContainsFuncI_F, true)]
theorem impl_allIn_hO : OrcOk Try.prog (tabD impl_allIn_tab) (tabM impl_allIn_tab) := tabD_cons slices_ContainsFuncI_Fok (tabD_nil _)
noncomputable def impl_allIn_T (v72 : List Int) (v73 v74 : Int) : Tree (Bool) :=
  (.call (slices_ContainsFuncI_g v72 v73 v74) fun v91 =>
  .leaf (!v91))

noncomputable def impl_allIn_g (v72 : List Int) (v73 v74 : Int) : Option (Bool) := (impl_allIn_T v72 v73 v74).run
def impl_allIn_enc (v72 : List Int) (v73 v74 : Int) (y : Bool) : Rs := (.bool y, [])
theorem impl_allIn_den (v72 : List Int) (v73 v74 : Int) : (den TT (tabD impl_allIn_tab) (tabM impl_allIn_tab) (impl_allIn_LO v72 v73 v74) (codeOf Try.f67) ([.bslc (BR.root 0) (.i64 v72), .int .i64 v73, .int .i64 v74] ++ List.replicate (Try.f67.ntmps - ([.bslc (BR.root 0) (.i64 v72), .int .i64 v73, .int .i64 v74] : List DV).length) .undef) []).bind (retD TT Try.f67.results.toList 0) = (impl_allIn_T v72 v73 v74).bind fun y => .leaf (impl_allIn_enc v72 v73 v74 y) := by kernel_rfl
theorem impl_allIn_fn (v72 : List Int) (v73 v74 : Int) (F : Fr) (h0 : St F [] F.H0) (hA : DVs.Ok F [] [.bslc (BR.root 0) (.i64 v72), .int .i64 v73, .int .i64 v74]) {y : Bool} (hy : impl_allIn_g v72 v73 v74 = some y) : ∃ F' H', Fwd 0 F F' [] (impl_allIn_enc v72 v73 v74 y).2 ∧ FnOk Try.prog 67 (DVs.av F [.bslc (BR.root 0) (.i64 v72), .int .i64 v73, .int .i64 v74]) F.H0 ((impl_allIn_enc v72 v73 v74 y).1.av F') H' ∧ St F' (impl_allIn_enc v72 v73 v74 y).2 H' ∧ (impl_allIn_enc v72 v73 v74 y).1.Ok F' (impl_allIn_enc v72 v73 v74 y).2 :=
  fn_fin tok impl_allIn_hO mixed Try.func67 Try.call67 (by kernel_rfl) (LoopsOk_eq (l := []) (by kernel_rfl) trivial) (impl_allIn_den v72 v73 v74) hy h0 hA
noncomputable def impl_allIn_F : DFn := fun args L =>
  match args with
  | [a1, .int .i64 v73, .int .i64 v74] =>
    optT (rowI64 L a1) fun v72 =>
    .call (impl_allIn_g v72 v73 v74) fun y => .leaf (.bool y, L)
  | _ => .fail
theorem impl_allIn_Fok : COk Try.prog 67 impl_allIn_F true := by
  intro F L H args r L' hs ha hr
  unfold impl_allIn_F at hr
  split at hr
  · rename_i a1 v73 v74
    obtain ⟨v72, hv72, hr⟩ := optT_run hr
    simp only [Tree.run] at hr
    obtain ⟨y, hy, hr⟩ := Option.bind_eq_some_iff.1 hr
    simp only [Tree.run, Option.some.injEq, Prod.mk.injEq] at hr
    obtain ⟨rfl, rfl⟩ := hr
    exact call_ok0 hs (fun k => (([a1.av F] : List AV)[k]?).getD .top) [a1, .int .i64 v73, .int .i64 v74] [.bslc (BR.root 0) (.i64 v72), .int .i64 v73, .int .i64 v74] (fun F' h0 hi hρ => ⟨by simp [DVs.av, DV.av, BR.av, hρ], impl_allIn_fn v72 v73 v74 F' (st_nil hi) ⟨bslc_ok hi (by rw [h0, hρ]; exact rowI64_ok hs (DVs.okAt ha 0 rfl) hv72), trivial, trivial, trivial⟩ hy⟩) rfl
  · cases hr
/-! impl.isWhole -/
noncomputable def impl_isWhole_LO (v64 v65 : Int) (v66 : List Int) (v67 : Int) : LOr := fun id e L =>
  match id with
  | _ => .fail
noncomputable def impl_isWhole_tab : List (FuncId × DFn × Bool) := [(89, impl_inRange_F, true), (65, impl_lengthI_F, true), (67, impl_allIn_F, true)]
theorem impl_isWhole_hO : OrcOk Try.prog (tabD impl_isWhole_tab) (tabM impl_isWhole_tab) := tabD_cons impl_inRange_Fok (tabD_cons impl_lengthI_Fok (tabD_cons impl_allIn_Fok (tabD_nil _)))
noncomputable def impl_isWhole_T (v64 v65 : Int) (v66 : List Int) (v67 : Int) : Tree (Bool) :=
  (.br (impl_inRange_v v64 (1 : Int) (6 : Int)) (
  (.br (impl_inRange_v v65 (1 : Int) (6 : Int)) (
  (.br (decide ((impl_lengthI_v v66) = IntKind.i64.wrap (v64 * v65))) (
  (.call (impl_allIn_g v66 (IntKind.i64.wrap (0 - v67)) v67) fun v92 =>
  .leaf v92)
  ) (
  .leaf false
  ))
  ) (
  .leaf false
  ))
  ) (
  .leaf false
  ))

noncomputable def impl_isWhole_g (v64 v65 : Int) (v66 : List Int) (v67 : Int) : Option (Bool) := (impl_isWhole_T v64 v65 v66 v67).run
def impl_isWhole_enc (v64 v65 : Int) (v66 : List Int) (v67 : Int) (y : Bool) : Rs := (.bool y, [])
theorem impl_isWhole_den (v64 v65 : Int) (v66 : List Int) (v67 : Int) : (den TT (tabD impl_isWhole_tab) (tabM impl_isWhole_tab) (impl_isWhole_LO v64 v65 v66 v67) (codeOf Try.f126) ([.agg [.int .i64 v64, .int .i64 v65, .bslc (BR.root 0) (.i64 v66)], .int .i64 v67] ++ List.replicate (Try.f126.ntmps - ([.agg [.int .i64 v64, .int .i64 v65, .bslc (BR.root 0) (.i64 v66)], .int .i64 v67] : List DV).length) .undef) []).bind (retD TT Try.f126.results.toList 0) = (impl_isWhole_T v64 v65 v66 v67).bind fun y => .leaf (impl_isWhole_enc v64 v65 v66 v67 y) := by kernel_rfl
theorem impl_isWhole_fn (v64 v65 : Int) (v66 : List Int) (v67 : Int) (F : Fr) (h0 : St F [] F.H0) (hA : DVs.Ok F [] [.agg [.int .i64 v64, .int .i64 v65, .bslc (BR.root 0) (.i64 v66)], .int .i64 v67]) {y : Bool} (hy : impl_isWhole_g v64 v65 v66 v67 = some y) : ∃ F' H', Fwd 0 F F' [] (impl_isWhole_enc v64 v65 v66 v67 y).2 ∧ FnOk Try.prog 126 (DVs.av F [.agg [.int .i64 v64, .int .i64 v65, .bslc (BR.root 0) (.i64 v66)], .int .i64 v67]) F.H0 ((impl_isWhole_enc v64 v65 v66 v67 y).1.av F') H' ∧ St F' (impl_isWhole_enc v64 v65 v66 v67 y).2 H' ∧ (impl_isWhole_enc v64 v65 v66 v67 y).1.Ok F' (impl_isWhole_enc v64 v65 v66 v67 y).2 :=
  fn_fin tok impl_isWhole_hO mixed Try.func126 Try.call126 (by kernel_rfl) (LoopsOk_eq (l := []) (by kernel_rfl) trivial) (impl_isWhole_den v64 v65 v66 v67) hy h0 hA
noncomputable def impl_isWhole_F : DFn := fun args L =>
  match args with
  | [.agg [.int .i64 v64, .int .i64 v65, a1], .int .i64 v67] =>
    optT (rowI64 L a1) fun v66 =>
    .call (impl_isWhole_g v64 v65 v66 v67) fun y => .leaf (.bool y, L)
  | _ => .fail
theorem impl_isWhole_Fok : COk Try.prog 126 impl_isWhole_F true := by
  intro F L H args r L' hs ha hr
  unfold impl_isWhole_F at hr
  split at hr
  · rename_i v64 v65 a1 v67
    obtain ⟨v66, hv66, hr⟩ := optT_run hr
    simp only [Tree.run] at hr
    obtain ⟨y, hy, hr⟩ := Option.bind_eq_some_iff.1 hr
    simp only [Tree.run, Option.some.injEq, Prod.mk.injEq] at hr
    obtain ⟨rfl, rfl⟩ := hr
    exact call_ok0 hs (fun k => (([a1.av F] : List AV)[k]?).getD .top) [.agg [.int .i64 v64, .int .i64 v65, a1], .int .i64 v67] [.agg [.int .i64 v64, .int .i64 v65, .bslc (BR.root 0) (.i64 v66)], .int .i64 v67] (fun F' h0 hi hρ => ⟨by simp [DVs.av, DV.av, BR.av, hρ], impl_isWhole_fn v64 v65 v66 v67 F' (st_nil hi) ⟨⟨trivial, trivial, bslc_ok hi (by rw [h0, hρ]; exact rowI64_ok hs (DVs.okAt (DVs.okAt ha 0 rfl) 2 rfl) hv66), trivial⟩, trivial, trivial⟩ hy⟩) rfl
  · cases hr
/-! impl.ValidWhole -/
noncomputable def impl_ValidWhole_LO (v61 v62 : Int) (v63 : List Int) : LOr := fun id e L =>
  match id with
  | _ => .fail
noncomputable def impl_ValidWhole_tab : List (FuncId × DFn × Bool) := [(126, impl_isWhole_F, true)]
theorem impl_ValidWhole_hO : OrcOk Try.prog (tabD impl_ValidWhole_tab) (tabM impl_ValidWhole_tab) := tabD_cons impl_isWhole_Fok (tabD_nil _)
noncomputable def impl_ValidWhole_T (v61 v62 : Int) (v63 : List Int) : Tree (Bool) :=
  (.call (impl_isWhole_g v61 v62 v63 (1000000 : Int)) fun v93 =>
  .leaf v93)

noncomputable def impl_ValidWhole_g (v61 v62 : Int) (v63 : List Int) : Option (Bool) := (impl_ValidWhole_T v61 v62 v63).run
def impl_ValidWhole_enc (v61 v62 : Int) (v63 : List Int) (y : Bool) : Rs := (.bool y, [])
theorem impl_ValidWhole_den (v61 v62 : Int) (v63 : List Int) : (den TT (tabD impl_ValidWhole_tab) (tabM impl_ValidWhole_tab) (impl_ValidWhole_LO v61 v62 v63) (codeOf Try.f63) ([.agg [.int .i64 v61, .int .i64 v62, .bslc (BR.root 0) (.i64 v63)]] ++ List.replicate (Try.f63.ntmps - ([.agg [.int .i64 v61, .int .i64 v62, .bslc (BR.root 0) (.i64 v63)]] : List DV).length) .undef) []).bind (retD TT Try.f63.results.toList 0) = (impl_ValidWhole_T v61 v62 v63).bind fun y => .leaf (impl_ValidWhole_enc v61 v62 v63 y) := by kernel_rfl
theorem impl_ValidWhole_fn (v61 v62 : Int) (v63 : List Int) (F : Fr) (h0 : St F [] F.H0) (hA : DVs.Ok F [] [.agg [.int .i64 v61, .int .i64 v62, .bslc (BR.root 0) (.i64 v63)]]) {y : Bool} (hy : impl_ValidWhole_g v61 v62 v63 = some y) : ∃ F' H', Fwd 0 F F' [] (impl_ValidWhole_enc v61 v62 v63 y).2 ∧ FnOk Try.prog 63 (DVs.av F [.agg [.int .i64 v61, .int .i64 v62, .bslc (BR.root 0) (.i64 v63)]]) F.H0 ((impl_ValidWhole_enc v61 v62 v63 y).1.av F') H' ∧ St F' (impl_ValidWhole_enc v61 v62 v63 y).2 H' ∧ (impl_ValidWhole_enc v61 v62 v63 y).1.Ok F' (impl_ValidWhole_enc v61 v62 v63 y).2 :=
  fn_fin tok impl_ValidWhole_hO mixed Try.func63 Try.call63 (by kernel_rfl) (LoopsOk_eq (l := []) (by kernel_rfl) trivial) (impl_ValidWhole_den v61 v62 v63) hy h0 hA
noncomputable def impl_ValidWhole_F : DFn := fun args L =>
  match args with
  | [.agg [.int .i64 v61, .int .i64 v62, a1]] =>
    optT (rowI64 L a1) fun v63 =>
    .call (impl_ValidWhole_g v61 v62 v63) fun y => .leaf (.bool y, L)
  | _ => .fail
theorem impl_ValidWhole_Fok : COk Try.prog 63 impl_ValidWhole_F true := by
  intro F L H args r L' hs ha hr
  unfold impl_ValidWhole_F at hr
  split at hr
  · rename_i v61 v62 a1
    obtain ⟨v63, hv63, hr⟩ := optT_run hr
    simp only [Tree.run] at hr
    obtain ⟨y, hy, hr⟩ := Option.bind_eq_some_iff.1 hr
    simp only [Tree.run, Option.some.injEq, Prod.mk.injEq] at hr
    obtain ⟨rfl, rfl⟩ := hr
    exact call_ok0 hs (fun k => (([a1.av F] : List AV)[k]?).getD .top) [.agg [.int .i64 v61, .int .i64 v62, a1]] [.agg [.int .i64 v61, .int .i64 v62, .bslc (BR.root 0) (.i64 v63)]] (fun F' h0 hi hρ => ⟨by simp [DVs.av, DV.av, BR.av, hρ], impl_ValidWhole_fn v61 v62 v63 F' (st_nil hi) ⟨⟨trivial, trivial, bslc_ok hi (by rw [h0, hρ]; exact rowI64_ok hs (DVs.okAt (DVs.okAt ha 0 rfl) 2 rfl) hv63), trivial⟩, trivial⟩ hy⟩) rfl
  · cases hr
/-! impl.IsPrime -/
noncomputable def impl_IsPrime_l0_T (v95 s : Int) : Tree ((Int) ⊕ ((Unit) ⊕ (Unit))) :=
  (.br (decide (IntKind.i64.wrap (s * s) ≤ v95)) (
  (.grd (!decide (s = 0)) <|
  (.br (decide (Int.tmod v95 s = (0 : Int))) (
  .leaf (.inr (.inl ()))
  ) (
  .leaf (.inl (IntKind.i64.wrap (s + (1 : Int))))
  )))
  ) (
  .leaf (.inr (.inr ()))
  ))

noncomputable def impl_IsPrime_l0_g (v95 s0 : Int) : Option ((Unit) ⊕ (Unit)) := whileM (fun s => (impl_IsPrime_l0_T v95 s).run) s0
def impl_IsPrime_l0_E (v95 s : Int) : Sd := ([.int .i64 v95,Z,Z,.int .i64 s,Z,Z,Z,Z,Z,Z,Z,Z,Z,Z,Z,Z,Z,Z], [])
def impl_IsPrime_l0_X (v95 : Int) (x : (Unit) ⊕ (Unit)) : Out := (match x with | .inl x => (.ret, [Z,Z,.lit false,Z,Z,Z,Z,Z,Z,Z,Z,Z,Z,Z,Z,Z,Z,Z], []) | .inr x => (.normal, [Z,Z,Z,Z,Z,Z,Z,Z,Z,Z,Z,Z,Z,Z,Z,Z,Z,Z], []))
def impl_IsPrime_l0_kill : List Nat := KL true [0,1,2,1,14]
def impl_IsPrime_l0_nx : Exit → List Nat
  | .exit 0 => KL true [18]
  | .ret => KL true [2,1,15]
  | _ => []
noncomputable def impl_IsPrime_LO (v95 : Int) : LOr := fun id e L =>
  match id with
  | 0 => .need (normA 0 impl_IsPrime_l0_kill e L = some (impl_IsPrime_l0_E v95 (gI (vAt e 3)))) (.call (impl_IsPrime_l0_g v95 (gI (vAt e 3))) fun x => .sum x (fun b0 => .leaf (impl_IsPrime_l0_X v95 (.inl b0))) (fun c0 => .leaf (impl_IsPrime_l0_X v95 (.inr c0))))
  | _ => .fail
noncomputable def impl_IsPrime_tab : List (FuncId × DFn × Bool) := [(89, impl_inRange_F, true)]
theorem impl_IsPrime_hO : OrcOk Try.prog (tabD impl_IsPrime_tab) (tabM impl_IsPrime_tab) := tabD_cons impl_inRange_Fok (tabD_nil _)
theorem impl_IsPrime_l0_be (v95 s : Int) : bodyT TT (tabD impl_IsPrime_tab) (tabM impl_IsPrime_tab) (impl_IsPrime_LO v95) 0 impl_IsPrime_l0_kill impl_IsPrime_l0_nx (bodyOf Try.f58 0) 0 (impl_IsPrime_l0_E v95 s) = (impl_IsPrime_l0_T v95 s).bind fun y => .leaf (outS (impl_IsPrime_l0_E v95) (impl_IsPrime_l0_X v95) y) := by kernel_rfl
theorem impl_IsPrime_l0_ok (v95 : Int) : LSound Try.prog 0 (impl_IsPrime_LO v95) 0 (bodyOf Try.f58 0) := by
  intro e L out h
  exact lo_ok (E := impl_IsPrime_l0_E v95) (gT := impl_IsPrime_l0_T v95) (X := impl_IsPrime_l0_X v95) (s0 := (gI (vAt e 3))) tok impl_IsPrime_hO mixed (LoopsOk_eq (l := []) (by kernel_rfl) trivial) (impl_IsPrime_l0_be v95) rfl (by intro x; (cases x with | inl b => rfl | inr x => exact rfl)) h
noncomputable def impl_IsPrime_T (v95 : Int) : Tree (Bool) :=
  (.br (!(impl_inRange_v v95 (2 : Int) (997 : Int))) (
  .leaf false
  ) (
  (.need (some (impl_IsPrime_l0_E v95 (2 : Int)) = some (impl_IsPrime_l0_E v95 (2 : Int))) <|
  (.call (impl_IsPrime_l0_g v95 (2 : Int)) fun v99 =>
  (.sum v99 (fun v100 =>
  .leaf false
  ) (fun v101 =>
  .leaf true
  ))))
  ))

noncomputable def impl_IsPrime_g (v95 : Int) : Option (Bool) := (impl_IsPrime_T v95).run
def impl_IsPrime_enc (v95 : Int) (y : Bool) : Rs := (.bool y, [])
theorem impl_IsPrime_den (v95 : Int) : (den TT (tabD impl_IsPrime_tab) (tabM impl_IsPrime_tab) (impl_IsPrime_LO v95) (codeOf Try.f58) ([.int .i64 v95] ++ List.replicate (Try.f58.ntmps - ([.int .i64 v95] : List DV).length) .undef) []).bind (retD TT Try.f58.results.toList 0) = (impl_IsPrime_T v95).bind fun y => .leaf (impl_IsPrime_enc v95 y) := by kernel_rfl
theorem impl_IsPrime_fn (v95 : Int) (F : Fr) (h0 : St F [] F.H0) (hA : DVs.Ok F [] [.int .i64 v95]) {y : Bool} (hy : impl_IsPrime_g v95 = some y) : ∃ F' H', Fwd 0 F F' [] (impl_IsPrime_enc v95 y).2 ∧ FnOk Try.prog 58 (DVs.av F [.int .i64 v95]) F.H0 ((impl_IsPrime_enc v95 y).1.av F') H' ∧ St F' (impl_IsPrime_enc v95 y).2 H' ∧ (impl_IsPrime_enc v95 y).1.Ok F' (impl_IsPrime_enc v95 y).2 :=
  fn_fin tok impl_IsPrime_hO mixed Try.func58 Try.call58 (by kernel_rfl) (LoopsOk_eq (l := [(0, bodyOf Try.f58 0)]) (by kernel_rfl) ⟨impl_IsPrime_l0_ok v95, trivial⟩) (impl_IsPrime_den v95) hy h0 hA
noncomputable def impl_IsPrime_F : DFn := fun args L =>
  match args with
  | [.int .i64 v95] =>
    .call (impl_IsPrime_g v95) fun y => .leaf (.bool y, L)
  | _ => .fail
theorem impl_IsPrime_Fok : COk Try.prog 58 impl_IsPrime_F true := by
  intro F L H args r L' hs ha hr
  unfold impl_IsPrime_F at hr
  split at hr
  · rename_i v95
    simp only [Tree.run] at hr
    obtain ⟨y, hy, hr⟩ := Option.bind_eq_some_iff.1 hr
    simp only [Tree.run, Option.some.injEq, Prod.mk.injEq] at hr
    obtain ⟨rfl, rfl⟩ := hr
    exact call_ok0 hs (fun k => (([] : List AV)[k]?).getD .top) [.int .i64 v95] [.int .i64 v95] (fun F' h0 hi hρ => ⟨by simp [DVs.av, DV.av, BR.av, hρ], impl_IsPrime_fn v95 F' (st_nil hi) ⟨trivial, trivial⟩ hy⟩) rfl
  · cases hr
/-! slices.Clone[list of int64,int64] -/
noncomputable def slices_CloneI_LO (v113 : List Int) : LOr := fun id e L =>
  match id with
  | _ => .fail
noncomputable def slices_CloneI_tab : List (FuncId × DFn × Bool) := []
theorem slices_CloneI_hO : OrcOk Try.prog (tabD slices_CloneI_tab) (tabM slices_CloneI_tab) := tabD_nil _
noncomputable def slices_CloneI_T (v113 : List Int) : Tree (Unit) :=
  (.grd (decide (0 < v113.length)) <|
  (.grd (fits (([] : List Int) ++ v113).length) <|
  .leaf ()))

noncomputable def slices_CloneI_g (v113 : List Int) : Option (Unit) := (slices_CloneI_T v113).run
def slices_CloneI_enc (v113 : List Int) (y : Unit) : Rs := (.own 0 0 ((([] : List Int) ++ v113).length), [.row (.i64 (([] : List Int) ++ v113)) 0])
theorem slices_CloneI_den (v113 : List Int) : (den TT (tabD slices_CloneI_tab) (tabM slices_CloneI_tab) (slices_CloneI_LO v113) (codeOf Try.f90) ([.bslc (BR.root 0) (.i64 v113)] ++ List.replicate (Try.f90.ntmps - ([.bslc (BR.root 0) (.i64 v113)] : List DV).length) .undef) []).bind (retD TT Try.f90.results.toList 0) = (slices_CloneI_T v113).bind fun y => .leaf (slices_CloneI_enc v113 y) := by kernel_rfl
theorem slices_CloneI_fn (v113 : List Int) (F : Fr) (h0 : St F [] F.H0) (hA : DVs.Ok F [] [.bslc (BR.root 0) (.i64 v113)]) {y : Unit} (hy : slices_CloneI_g v113 = some y) : ∃ F' H', Fwd 0 F F' [] (slices_CloneI_enc v113 y).2 ∧ FnOk Try.prog 90 (DVs.av F [.bslc (BR.root 0) (.i64 v113)]) F.H0 ((slices_CloneI_enc v113 y).1.av F') H' ∧ St F' (slices_CloneI_enc v113 y).2 H' ∧ (slices_CloneI_enc v113 y).1.Ok F' (slices_CloneI_enc v113 y).2 :=
  fn_fin tok slices_CloneI_hO mixed Try.func90 Try.call90 (by kernel_rfl) (LoopsOk_eq (l := []) (by kernel_rfl) trivial) (slices_CloneI_den v113) hy h0 hA
noncomputable def slices_CloneI_F : DFn := fun args L =>
  match args with
  | [a1] =>
    optT (rowI64 L a1) fun v113 =>
    .call (slices_CloneI_g v113) fun y => .leaf (.own (L.length + 0) 0 ((([] : List Int) ++ v113).length), L ++ [.row (.i64 (([] : List Int) ++ v113)) 0])
  | _ => .fail
theorem slices_CloneI_Fok : COk Try.prog 90 slices_CloneI_F true := by
  intro F L H args r L' hs ha hr
  unfold slices_CloneI_F at hr
  split at hr
  · rename_i a1
    obtain ⟨v113, hv113, hr⟩ := optT_run hr
    simp only [Tree.run] at hr
    obtain ⟨y, hy, hr⟩ := Option.bind_eq_some_iff.1 hr
    simp only [Tree.run, Option.some.injEq, Prod.mk.injEq] at hr
    obtain ⟨rfl, rfl⟩ := hr
    exact call_ok1 hs (fun k => (([a1.av F] : List AV)[k]?).getD .top) [a1] [.bslc (BR.root 0) (.i64 v113)] (fun F' h0 hi hρ => ⟨by simp [DVs.av, DV.av, BR.av, hρ], slices_CloneI_fn v113 F' (st_nil hi) ⟨bslc_ok hi (by rw [h0, hρ]; exact rowI64_ok hs (DVs.okAt ha 0 rfl) hv113), trivial⟩ hy⟩) rfl rfl
  · cases hr
/-! (impl.Whole).row -/
noncomputable def impl_Whole_row_LO (v109 v110 : Int) (v111 : List Int) (v112 : Int) : LOr := fun id e L =>
  match id with
  | _ => .fail
noncomputable def impl_Whole_row_tab : List (FuncId × DFn × Bool) := [(90, slices_CloneI_F, true)]
theorem impl_Whole_row_hO : OrcOk Try.prog (tabD impl_Whole_row_tab) (tabM impl_Whole_row_tab) := tabD_cons slices_CloneI_Fok (tabD_nil _)
noncomputable def impl_Whole_row_T (v110 : Int) (v111 : List Int) (v112 : Int) : Tree (Unit) :=
  (.grd (sok (IntKind.i64.wrap (v112 * v110)) (IntKind.i64.wrap ((IntKind.i64.wrap (v112 + (1 : Int))) * v110)) v111.length) <|
  (.call (slices_CloneI_g (AM.sub v111 (IntKind.i64.wrap (v112 * v110)) (IntKind.i64.wrap ((IntKind.i64.wrap (v112 + (1 : Int))) * v110)))) fun v114 =>
  .leaf ()))

noncomputable def impl_Whole_row_g (v110 : Int) (v111 : List Int) (v112 : Int) : Option (Unit) := (impl_Whole_row_T v110 v111 v112).run
def impl_Whole_row_enc (v109 v110 : Int) (v111 : List Int) (v112 : Int) (y : Unit) : Rs := (.own 0 0 ((([] : List Int) ++ (AM.sub v111 (IntKind.i64.wrap (v112 * v110)) (IntKind.i64.wrap ((IntKind.i64.wrap (v112 + (1 : Int))) * v110)))).length), [.row (.i64 (([] : List Int) ++ (AM.sub v111 (IntKind.i64.wrap (v112 * v110)) (IntKind.i64.wrap ((IntKind.i64.wrap (v112 + (1 : Int))) * v110))))) 0])
theorem impl_Whole_row_den (v109 v110 : Int) (v111 : List Int) (v112 : Int) : (den TT (tabD impl_Whole_row_tab) (tabM impl_Whole_row_tab) (impl_Whole_row_LO v109 v110 v111 v112) (codeOf Try.f127) ([.agg [.int .i64 v109, .int .i64 v110, .bslc (BR.root 0) (.i64 v111)], .int .i64 v112] ++ List.replicate (Try.f127.ntmps - ([.agg [.int .i64 v109, .int .i64 v110, .bslc (BR.root 0) (.i64 v111)], .int .i64 v112] : List DV).length) .undef) []).bind (retD TT Try.f127.results.toList 0) = (impl_Whole_row_T v110 v111 v112).bind fun y => .leaf (impl_Whole_row_enc v109 v110 v111 v112 y) := by kernel_rfl
theorem impl_Whole_row_fn (v109 v110 : Int) (v111 : List Int) (v112 : Int) (F : Fr) (h0 : St F [] F.H0) (hA : DVs.Ok F [] [.agg [.int .i64 v109, .int .i64 v110, .bslc (BR.root 0) (.i64 v111)], .int .i64 v112]) {y : Unit} (hy : impl_Whole_row_g v110 v111 v112 = some y) : ∃ F' H', Fwd 0 F F' [] (impl_Whole_row_enc v109 v110 v111 v112 y).2 ∧ FnOk Try.prog 127 (DVs.av F [.agg [.int .i64 v109, .int .i64 v110, .bslc (BR.root 0) (.i64 v111)], .int .i64 v112]) F.H0 ((impl_Whole_row_enc v109 v110 v111 v112 y).1.av F') H' ∧ St F' (impl_Whole_row_enc v109 v110 v111 v112 y).2 H' ∧ (impl_Whole_row_enc v109 v110 v111 v112 y).1.Ok F' (impl_Whole_row_enc v109 v110 v111 v112 y).2 :=
  fn_fin tok impl_Whole_row_hO mixed Try.func127 Try.call127 (by kernel_rfl) (LoopsOk_eq (l := []) (by kernel_rfl) trivial) (impl_Whole_row_den v109 v110 v111 v112) hy h0 hA
noncomputable def impl_Whole_row_F : DFn := fun args L =>
  match args with
  | [.agg [.int .i64 v109, .int .i64 v110, a1], .int .i64 v112] =>
    optT (rowI64 L a1) fun v111 =>
    .call (impl_Whole_row_g v110 v111 v112) fun y => .leaf (.own (L.length + 0) 0 ((([] : List Int) ++ (AM.sub v111 (IntKind.i64.wrap (v112 * v110)) (IntKind.i64.wrap ((IntKind.i64.wrap (v112 + (1 : Int))) * v110)))).length), L ++ [.row (.i64 (([] : List Int) ++ (AM.sub v111 (IntKind.i64.wrap (v112 * v110)) (IntKind.i64.wrap ((IntKind.i64.wrap (v112 + (1 : Int))) * v110))))) 0])
  | _ => .fail
theorem impl_Whole_row_Fok : COk Try.prog 127 impl_Whole_row_F true := by
  intro F L H args r L' hs ha hr
  unfold impl_Whole_row_F at hr
  split at hr
  · rename_i v109 v110 a1 v112
    obtain ⟨v111, hv111, hr⟩ := optT_run hr
    simp only [Tree.run] at hr
    obtain ⟨y, hy, hr⟩ := Option.bind_eq_some_iff.1 hr
    simp only [Tree.run, Option.some.injEq, Prod.mk.injEq] at hr
    obtain ⟨rfl, rfl⟩ := hr
    exact call_ok1 hs (fun k => (([a1.av F] : List AV)[k]?).getD .top) [.agg [.int .i64 v109, .int .i64 v110, a1], .int .i64 v112] [.agg [.int .i64 v109, .int .i64 v110, .bslc (BR.root 0) (.i64 v111)], .int .i64 v112] (fun F' h0 hi hρ => ⟨by simp [DVs.av, DV.av, BR.av, hρ], impl_Whole_row_fn v109 v110 v111 v112 F' (st_nil hi) ⟨⟨trivial, trivial, bslc_ok hi (by rw [h0, hρ]; exact rowI64_ok hs (DVs.okAt (DVs.okAt ha 0 rfl) 2 rfl) hv111), trivial⟩, trivial, trivial⟩ hy⟩) rfl rfl
  · cases hr
/-! impl.rest -/
noncomputable def impl_rest_LO (v120 v121 : Int) : LOr := fun id e L =>
  match id with
  | _ => .fail
noncomputable def impl_rest_tab : List (FuncId × DFn × Bool) := []
theorem impl_rest_hO : OrcOk Try.prog (tabD impl_rest_tab) (tabM impl_rest_tab) := tabD_nil _
noncomputable def impl_rest_T (v120 v121 : Int) : Tree (Int) :=
  (.grd (!decide (v121 = 0)) <|
  (.grd (!decide (v121 = 0)) <|
  .leaf (Int.tmod (IntKind.i64.wrap ((Int.tmod v120 v121) + v121)) v121)))

noncomputable def impl_rest_g (v120 v121 : Int) : Option (Int) := (impl_rest_T v120 v121).run
def impl_rest_enc (v120 v121 y : Int) : Rs := (.int .i64 y, [])
theorem impl_rest_den (v120 v121 : Int) : (den TT (tabD impl_rest_tab) (tabM impl_rest_tab) (impl_rest_LO v120 v121) (codeOf Try.f70) ([.int .i64 v120, .int .i64 v121] ++ List.replicate (Try.f70.ntmps - ([.int .i64 v120, .int .i64 v121] : List DV).length) .undef) []).bind (retD TT Try.f70.results.toList 0) = (impl_rest_T v120 v121).bind fun y => .leaf (impl_rest_enc v120 v121 y) := by kernel_rfl
theorem impl_rest_fn (v120 v121 : Int) (F : Fr) (h0 : St F [] F.H0) (hA : DVs.Ok F [] [.int .i64 v120, .int .i64 v121]) {y : Int} (hy : impl_rest_g v120 v121 = some y) : ∃ F' H', Fwd 0 F F' [] (impl_rest_enc v120 v121 y).2 ∧ FnOk Try.prog 70 (DVs.av F [.int .i64 v120, .int .i64 v121]) F.H0 ((impl_rest_enc v120 v121 y).1.av F') H' ∧ St F' (impl_rest_enc v120 v121 y).2 H' ∧ (impl_rest_enc v120 v121 y).1.Ok F' (impl_rest_enc v120 v121 y).2 :=
  fn_fin tok impl_rest_hO mixed Try.func70 Try.call70 (by kernel_rfl) (LoopsOk_eq (l := []) (by kernel_rfl) trivial) (impl_rest_den v120 v121) hy h0 hA
noncomputable def impl_rest_F : DFn := fun args L =>
  match args with
  | [.int .i64 v120, .int .i64 v121] =>
    .call (impl_rest_g v120 v121) fun y => .leaf (.int .i64 y, L)
  | _ => .fail
theorem impl_rest_Fok : COk Try.prog 70 impl_rest_F true := by
  intro F L H args r L' hs ha hr
  unfold impl_rest_F at hr
  split at hr
  · rename_i v120 v121
    simp only [Tree.run] at hr
    obtain ⟨y, hy, hr⟩ := Option.bind_eq_some_iff.1 hr
    simp only [Tree.run, Option.some.injEq, Prod.mk.injEq] at hr
    obtain ⟨rfl, rfl⟩ := hr
    exact call_ok0 hs (fun k => (([] : List AV)[k]?).getD .top) [.int .i64 v120, .int .i64 v121] [.int .i64 v120, .int .i64 v121] (fun F' h0 hi hρ => ⟨by simp [DVs.av, DV.av, BR.av, hρ], impl_rest_fn v120 v121 F' (st_nil hi) ⟨trivial, trivial, trivial⟩ hy⟩) rfl
  · cases hr
/-! impl.backOver -/
noncomputable def impl_backOver_l0_T (v209 v215 s : Int) : Tree ((Int) ⊕ (Int)) :=
  (.grd (!decide (v209 = 0)) <|
  (.br (!decide (Int.tmod (IntKind.i64.wrap (v215 * s)) v209 = (1 : Int))) (
  .leaf (.inl (IntKind.i64.wrap (s + (1 : Int))))
  ) (
  .leaf (.inr s)
  )))

noncomputable def impl_backOver_l0_g (v209 v215 s0 : Int) : Option (Int) := whileM (fun s => (impl_backOver_l0_T v209 v215 s).run) s0
def impl_backOver_l0_E (v208 v209 v215 s : Int) : Sd := ([.int .i64 v215,.int .i64 v209,Z,Z,Z,.int .i64 s,Z,Z,Z,Z,Z,Z,Z,Z,Z,Z,Z,Z], [])
def impl_backOver_l0_X (v208 v209 v215 x : Int) : Out := (.normal, [Z,Z,Z,Z,Z,.int .i64 x,Z,Z,Z,Z,Z,Z,Z,Z,Z,Z,Z,Z], [])
def impl_backOver_l0_kill : List Nat := KL true [0,2,3,1,12]
def impl_backOver_l0_nx : Exit → List Nat
  | .exit 0 => KL true [5,1,12]
  | .ret => KL true [4,1,13]
  | _ => []
noncomputable def impl_backOver_LO (v208 v209 : Int) : LOr := fun id e L =>
  match id with
  | 0 => .need (normA 0 impl_backOver_l0_kill e L = some (impl_backOver_l0_E v208 v209 (gI (vAt e 0)) (gI (vAt e 5)))) (.call (impl_backOver_l0_g v209 (gI (vAt e 0)) (gI (vAt e 5))) fun x => .leaf (impl_backOver_l0_X v208 v209 (gI (vAt e 0)) x))
  | _ => .fail
noncomputable def impl_backOver_tab : List (FuncId × DFn × Bool) := [(70, impl_rest_F, true)]
theorem impl_backOver_hO : OrcOk Try.prog (tabD impl_backOver_tab) (tabM impl_backOver_tab) := tabD_cons impl_rest_Fok (tabD_nil _)
theorem impl_backOver_l0_be (v208 v209 v215 s : Int) : bodyT TT (tabD impl_backOver_tab) (tabM impl_backOver_tab) (impl_backOver_LO v208 v209) 0 impl_backOver_l0_kill impl_backOver_l0_nx (bodyOf Try.f123 0) 0 (impl_backOver_l0_E v208 v209 v215 s) = (impl_backOver_l0_T v209 v215 s).bind fun y => .leaf (outS (impl_backOver_l0_E v208 v209 v215) (impl_backOver_l0_X v208 v209 v215) y) := by kernel_rfl
theorem impl_backOver_l0_ok (v208 v209 : Int) : LSound Try.prog 0 (impl_backOver_LO v208 v209) 0 (bodyOf Try.f123 0) := by
  intro e L out h
  exact lo_ok (E := impl_backOver_l0_E v208 v209 (gI (vAt e 0))) (gT := impl_backOver_l0_T v209 (gI (vAt e 0))) (X := impl_backOver_l0_X v208 v209 (gI (vAt e 0))) (s0 := (gI (vAt e 5))) tok impl_backOver_hO mixed (LoopsOk_eq (l := []) (by kernel_rfl) trivial) (impl_backOver_l0_be v208 v209 (gI (vAt e 0))) rfl (by intro x; rfl) h
noncomputable def impl_backOver_T (v208 v209 : Int) : Tree (Int) :=
  (.call (impl_rest_g v208 v209) fun v210 =>
  (.need (some (impl_backOver_l0_E v208 v209 v210 (1 : Int)) = some (impl_backOver_l0_E v208 v209 v210 (1 : Int))) <|
  (.call (impl_backOver_l0_g v209 v210 (1 : Int)) fun v217 =>
  .leaf v217)))

noncomputable def impl_backOver_g (v208 v209 : Int) : Option (Int) := (impl_backOver_T v208 v209).run
def impl_backOver_enc (v208 v209 y : Int) : Rs := (.int .i64 y, [])
theorem impl_backOver_den (v208 v209 : Int) : (den TT (tabD impl_backOver_tab) (tabM impl_backOver_tab) (impl_backOver_LO v208 v209) (codeOf Try.f123) ([.int .i64 v208, .int .i64 v209] ++ List.replicate (Try.f123.ntmps - ([.int .i64 v208, .int .i64 v209] : List DV).length) .undef) []).bind (retD TT Try.f123.results.toList 0) = (impl_backOver_T v208 v209).bind fun y => .leaf (impl_backOver_enc v208 v209 y) := by kernel_rfl
theorem impl_backOver_fn (v208 v209 : Int) (F : Fr) (h0 : St F [] F.H0) (hA : DVs.Ok F [] [.int .i64 v208, .int .i64 v209]) {y : Int} (hy : impl_backOver_g v208 v209 = some y) : ∃ F' H', Fwd 0 F F' [] (impl_backOver_enc v208 v209 y).2 ∧ FnOk Try.prog 123 (DVs.av F [.int .i64 v208, .int .i64 v209]) F.H0 ((impl_backOver_enc v208 v209 y).1.av F') H' ∧ St F' (impl_backOver_enc v208 v209 y).2 H' ∧ (impl_backOver_enc v208 v209 y).1.Ok F' (impl_backOver_enc v208 v209 y).2 :=
  fn_fin tok impl_backOver_hO mixed Try.func123 Try.call123 (by kernel_rfl) (LoopsOk_eq (l := [(0, bodyOf Try.f123 0)]) (by kernel_rfl) ⟨impl_backOver_l0_ok v208 v209, trivial⟩) (impl_backOver_den v208 v209) hy h0 hA
noncomputable def impl_backOver_F : DFn := fun args L =>
  match args with
  | [.int .i64 v208, .int .i64 v209] =>
    .call (impl_backOver_g v208 v209) fun y => .leaf (.int .i64 y, L)
  | _ => .fail
theorem impl_backOver_Fok : COk Try.prog 123 impl_backOver_F true := by
  intro F L H args r L' hs ha hr
  unfold impl_backOver_F at hr
  split at hr
  · rename_i v208 v209
    simp only [Tree.run] at hr
    obtain ⟨y, hy, hr⟩ := Option.bind_eq_some_iff.1 hr
    simp only [Tree.run, Option.some.injEq, Prod.mk.injEq] at hr
    obtain ⟨rfl, rfl⟩ := hr
    exact call_ok0 hs (fun k => (([] : List AV)[k]?).getD .top) [.int .i64 v208, .int .i64 v209] [.int .i64 v208, .int .i64 v209] (fun F' h0 hi hρ => ⟨by simp [DVs.av, DV.av, BR.av, hρ], impl_backOver_fn v208 v209 F' (st_nil hi) ⟨trivial, trivial, trivial⟩ hy⟩) rfl
  · cases hr
/-! (impl.Whole).over -/
noncomputable def impl_Whole_over_l2_T (v106 v178 v179 : Int) (v181 : List (List Int)) (v182 : List Nat) (s : Int × (List Int)) : Tree ((Int × (List Int)) ⊕ ((List Int))) :=
  (.br (decide (s.1 < v179)) (
  (.grd (inb s.1 ((s.2).length)) <|
  (.call (impl_rest_g (nth s.2 (Int.toNat s.1)) v106) fun v184 =>
  (.grd (inb s.1 ((s.2).length)) <|
  .leaf (.inl (IntKind.i64.wrap (s.1 + (1 : Int)), List.set s.2 (Int.toNat s.1) v184)))))
  ) (
  .leaf (.inr s.2)
  ))

noncomputable def impl_Whole_over_l2_g (v106 v178 v179 : Int) (v181 : List (List Int)) (v182 : List Nat) (s0 : Int × (List Int)) : Option ((List Int)) := whileM (fun s => (impl_Whole_over_l2_T v106 v178 v179 v181 v182 s).run) s0
def impl_Whole_over_l2_E (v103 v104 : Int) (v105 : List Int) (v106 : Int) (v107 : List Int) (v178 v179 : Int) (v181 : List (List Int)) (v182 : List Nat) (s : Int × (List Int)) : Sd := ([Z,.int .i64 v106,.bslc (BR.root 1) (.i64 v107),.ptr 0 (0 : Nat) 0 (3 : Nat),Z,Z,Z,Z,Z,.nest 1 0 1 ((v182).length),.own 2 0 ((([] : List Int)).length),.int .i64 (1 : Int),Z,.own 3 0 ((s.2).length),Z,Z,Z,Z,Z,Z,Z,Z,Z,Z,Z,Z,Z,Z,Z,.int .i64 v103,.int .i64 v178,Z,Z,Z,Z,Z,Z,Z,Z,Z,Z,Z,Z,Z,Z,.own 3 0 ((s.2).length),.int .i64 v179,.int .i64 s.1,Z,Z,Z,Z,Z,Z,Z,Z,Z,Z,Z,Z,Z,Z,Z,Z,Z,Z,Z,Z,Z,Z,Z,Z,Z,Z,Z,Z,Z,Z,Z,Z,Z,Z,Z,Z,Z,Z,Z,Z,Z,Z,Z,Z,Z,Z,Z,Z,Z,Z,Z,Z,Z,Z,Z,Z,Z,Z,Z,Z,Z,Z,Z,Z,Z,Z,Z,Z,Z,Z,Z,Z,Z,Z,Z,Z,Z,Z,Z,Z,Z,Z,Z,Z,Z,Z,Z,Z,Z,Z,Z,Z,Z,Z,Z,Z,Z,Z,Z,Z,Z,Z,Z,Z,Z,Z,Z,Z,Z,Z,Z,Z,Z,Z,Z,Z,Z,Z,Z,Z,Z,Z,Z,Z,Z,Z,Z,Z,Z,Z,Z,Z,Z,Z,Z,Z,Z,Z,Z,Z,Z,Z,Z,Z,Z,Z,Z,Z,Z,Z,Z,Z,Z,Z,Z,Z,Z,Z], [.gen [.int .i64 v103, .int .i64 v104, .bslc (BR.root 0) (.i64 v105)] false 0, .nest [.sl (.i64 v181) v182] false 0, .row (.i64 ([] : List Int)) 0, .row (.i64 s.2) 0])
def impl_Whole_over_l2_X (v103 v104 : Int) (v105 : List Int) (v106 : Int) (v107 : List Int) (v178 v179 : Int) (v181 : List (List Int)) (v182 : List Nat) (x : (List Int)) : Out := (.normal, [Z,.int .i64 v106,.bslc (BR.root 1) (.i64 v107),.ptr 0 (0 : Nat) 0 (3 : Nat),Z,Z,Z,Z,Z,.nest 1 0 1 ((v182).length),.own 2 0 ((([] : List Int)).length),.int .i64 (1 : Int),Z,.own 3 0 ((x).length),Z,Z,Z,Z,Z,Z,Z,Z,Z,Z,Z,Z,Z,Z,Z,.int .i64 v103,.int .i64 v178,Z,Z,Z,Z,Z,Z,Z,Z,Z,Z,Z,Z,Z,Z,Z,Z,Z,Z,Z,Z,Z,Z,Z,Z,Z,Z,Z,Z,Z,Z,Z,Z,Z,Z,Z,Z,Z,Z,Z,Z,Z,Z,Z,Z,Z,Z,Z,Z,Z,Z,Z,Z,Z,Z,Z,Z,Z,Z,Z,Z,Z,Z,Z,Z,Z,Z,Z,Z,Z,Z,Z,Z,Z,Z,Z,Z,Z,Z,Z,Z,Z,Z,Z,Z,Z,Z,Z,Z,Z,Z,Z,Z,Z,Z,Z,Z,Z,Z,Z,Z,Z,Z,Z,Z,Z,Z,Z,Z,Z,Z,Z,Z,Z,Z,Z,Z,Z,Z,Z,Z,Z,Z,Z,Z,Z,Z,Z,Z,Z,Z,Z,Z,Z,Z,Z,Z,Z,Z,Z,Z,Z,Z,Z,Z,Z,Z,Z,Z,Z,Z,Z,Z,Z,Z,Z,Z,Z,Z,Z,Z,Z,Z,Z,Z,Z,Z,Z,Z,Z,Z,Z,Z,Z,Z,Z], [.gen [.int .i64 v103, .int .i64 v104, .bslc (BR.root 0) (.i64 v105)] false 0, .nest [.sl (.i64 v181) v182] false 0, .row (.i64 ([] : List Int)) 0, .row (.i64 x) 0])
def impl_Whole_over_l2_kill : List Nat := KL true [1,3,5,3,1,1,15,2,14,3,158]
def impl_Whole_over_l2_nx : Exit → List Nat
  | .exit 0 => KL true [1,1,1,1,5,3,194]
  | .exit 1 => KL true [1,3,5,3,17,2,175]
  | .exit 2 => KL true [1,3,5,3,1,1,15,2,175]
  | .ret => KL true [6,3,197]
  | _ => []
noncomputable def impl_Whole_over_l0_T (v103 v104 : Int) (v105 : List Int) (v106 : Int) (v107 : List Int) (s : Int × (List (List Int)) × (List Nat)) : Tree ((Int × (List (List Int)) × (List Nat)) ⊕ ((List (List Int)) × (List Nat))) :=
  (.br (decide (s.1 < v103)) (
  (.call (impl_Whole_row_g v104 v105 s.1) fun v163 =>
  (.grd (decide (0 < v107.length)) <|
  (.grd (inb s.1 v107.length) <|
  (.grd (fits ((([] : List Int) ++ (AM.sub v105 (IntKind.i64.wrap (s.1 * v104)) (IntKind.i64.wrap ((IntKind.i64.wrap (s.1 + (1 : Int))) * v104)))) ++ ([nth v107 (Int.toNat s.1)] : List Int)).length) <|
  (.need (some (impl_Whole_over_l2_E v103 v104 v105 v106 v107 s.1 ((((([] : List Int) ++ (AM.sub v105 (IntKind.i64.wrap (s.1 * v104)) (IntKind.i64.wrap ((IntKind.i64.wrap (s.1 + (1 : Int))) * v104)))) ++ ([nth v107 (Int.toNat s.1)] : List Int)).length : Nat) : Int) s.2.1 s.2.2 ((0 : Int), (([] : List Int) ++ (AM.sub v105 (IntKind.i64.wrap (s.1 * v104)) (IntKind.i64.wrap ((IntKind.i64.wrap (s.1 + (1 : Int))) * v104)))) ++ ([nth v107 (Int.toNat s.1)] : List Int))) = some (impl_Whole_over_l2_E v103 v104 v105 v106 v107 s.1 ((((([] : List Int) ++ (AM.sub v105 (IntKind.i64.wrap (s.1 * v104)) (IntKind.i64.wrap ((IntKind.i64.wrap (s.1 + (1 : Int))) * v104)))) ++ ([nth v107 (Int.toNat s.1)] : List Int)).length : Nat) : Int) s.2.1 s.2.2 ((0 : Int), (([] : List Int) ++ (AM.sub v105 (IntKind.i64.wrap (s.1 * v104)) (IntKind.i64.wrap ((IntKind.i64.wrap (s.1 + (1 : Int))) * v104)))) ++ ([nth v107 (Int.toNat s.1)] : List Int)))) <|
  (.call (impl_Whole_over_l2_g v106 s.1 ((((([] : List Int) ++ (AM.sub v105 (IntKind.i64.wrap (s.1 * v104)) (IntKind.i64.wrap ((IntKind.i64.wrap (s.1 + (1 : Int))) * v104)))) ++ ([nth v107 (Int.toNat s.1)] : List Int)).length : Nat) : Int) s.2.1 s.2.2 ((0 : Int), (([] : List Int) ++ (AM.sub v105 (IntKind.i64.wrap (s.1 * v104)) (IntKind.i64.wrap ((IntKind.i64.wrap (s.1 + (1 : Int))) * v104)))) ++ ([nth v107 (Int.toNat s.1)] : List Int))) fun v185 =>
  (.grd (fits (((s.2.2).length) + (1 : Nat))) <|
  .leaf (.inl (IntKind.i64.wrap (s.1 + (1 : Int)), s.2.1 ++ ([v185] : List (List Int)), s.2.2 ++ [s.2.1.length + 1])))))))))
  ) (
  .leaf (.inr (s.2.1, s.2.2))
  ))

noncomputable def impl_Whole_over_l0_g (v103 v104 : Int) (v105 : List Int) (v106 : Int) (v107 : List Int) (s0 : Int × (List (List Int)) × (List Nat)) : Option ((List (List Int)) × (List Nat)) := whileM (fun s => (impl_Whole_over_l0_T v103 v104 v105 v106 v107 s).run) s0
def impl_Whole_over_l0_E (v103 v104 : Int) (v105 : List Int) (v106 : Int) (v107 : List Int) (s : Int × (List (List Int)) × (List Nat)) : Sd := ([Z,.int .i64 v106,.bslc (BR.root 1) (.i64 v107),.ptr 0 (0 : Nat) 0 (3 : Nat),Z,Z,Z,Z,Z,.nest 1 0 1 ((s.2.2).length),.own 2 0 ((([] : List Int)).length),.int .i64 (1 : Int),Z,Z,Z,Z,Z,Z,Z,Z,Z,Z,Z,Z,Z,Z,Z,Z,Z,.int .i64 v103,.int .i64 s.1,Z,Z,Z,Z,Z,Z,Z,Z,Z,Z,Z,Z,Z,Z,Z,Z,Z,Z,Z,Z,Z,Z,Z,Z,Z,Z,Z,Z,Z,Z,Z,Z,Z,Z,Z,Z,Z,Z,Z,Z,Z,Z,Z,Z,Z,Z,Z,Z,Z,Z,Z,Z,Z,Z,Z,Z,Z,Z,Z,Z,Z,Z,Z,Z,Z,Z,Z,Z,Z,Z,Z,Z,Z,Z,Z,Z,Z,Z,Z,Z,Z,Z,Z,Z,Z,Z,Z,Z,Z,Z,Z,Z,Z,Z,Z,Z,Z,Z,Z,Z,Z,Z,Z,Z,Z,Z,Z,Z,Z,Z,Z,Z,Z,Z,Z,Z,Z,Z,Z,Z,Z,Z,Z,Z,Z,Z,Z,Z,Z,Z,Z,Z,Z,Z,Z,Z,Z,Z,Z,Z,Z,Z,Z,Z,Z,Z,Z,Z,Z,Z,Z,Z,Z,Z,Z,Z,Z,Z,Z,Z,Z,Z,Z,Z,Z,Z,Z,Z,Z,Z,Z,Z,Z,Z,Z], [.gen [.int .i64 v103, .int .i64 v104, .bslc (BR.root 0) (.i64 v105)] false 0, .nest [.sl (.i64 s.2.1) s.2.2] false 0, .row (.i64 ([] : List Int)) 0])
def impl_Whole_over_l0_X (v103 v104 : Int) (v105 : List Int) (v106 : Int) (v107 : List Int) (x : (List (List Int)) × (List Nat)) : Out := (.normal, [Z,.int .i64 v106,Z,.ptr 0 (0 : Nat) 0 (3 : Nat),Z,Z,Z,Z,Z,.nest 1 0 1 ((x.2).length),.own 2 0 ((([] : List Int)).length),.int .i64 (1 : Int),Z,Z,Z,Z,Z,Z,Z,Z,Z,Z,Z,Z,Z,Z,Z,Z,Z,Z,Z,Z,Z,Z,Z,Z,Z,Z,Z,Z,Z,Z,Z,Z,Z,Z,Z,Z,Z,Z,Z,Z,Z,Z,Z,Z,Z,Z,Z,Z,Z,Z,Z,Z,Z,Z,Z,Z,Z,Z,Z,Z,Z,Z,Z,Z,Z,Z,Z,Z,Z,Z,Z,Z,Z,Z,Z,Z,Z,Z,Z,Z,Z,Z,Z,Z,Z,Z,Z,Z,Z,Z,Z,Z,Z,Z,Z,Z,Z,Z,Z,Z,Z,Z,Z,Z,Z,Z,Z,Z,Z,Z,Z,Z,Z,Z,Z,Z,Z,Z,Z,Z,Z,Z,Z,Z,Z,Z,Z,Z,Z,Z,Z,Z,Z,Z,Z,Z,Z,Z,Z,Z,Z,Z,Z,Z,Z,Z,Z,Z,Z,Z,Z,Z,Z,Z,Z,Z,Z,Z,Z,Z,Z,Z,Z,Z,Z,Z,Z,Z,Z,Z,Z,Z,Z,Z,Z,Z,Z,Z,Z,Z,Z,Z,Z,Z,Z,Z,Z,Z,Z,Z,Z,Z,Z,Z], [.gen [.int .i64 v103, .int .i64 v104, .bslc (BR.root 0) (.i64 v105)] false 0, .nest [.sl (.i64 x.1) x.2] false 0, .row (.i64 ([] : List Int)) 0])
def impl_Whole_over_l0_kill : List Nat := KL true [1,3,5,3,17,2,175]
def impl_Whole_over_l0_nx : Exit → List Nat
  | .exit 0 => KL true [1,1,1,1,5,3,194]
  | .ret => KL true [6,3,197]
  | _ => []
noncomputable def impl_Whole_over_l6_T (v901 v902 v903 : Int) (v905 : List (List Int)) (v906 : List Nat) (v907 : List Int) (s : Int) : Tree ((Int) ⊕ (Int)) :=
  (.br (decide (s < (((v906).length : Nat) : Int))) (
  (.grd (inb s ((v906).length)) <|
  (.grd (inb v902 ((nget v905 (nth v906 (Int.toNat s))).length)) <|
  (.br (decide (nth (nget v905 (nth v906 (Int.toNat s))) (Int.toNat v902) = (0 : Int))) (
  .leaf (.inl (IntKind.i64.wrap (s + (1 : Int))))
  ) (
  .leaf (.inr s)
  ))))
  ) (
  .leaf (.inr s)
  ))

noncomputable def impl_Whole_over_l6_g (v901 v902 v903 : Int) (v905 : List (List Int)) (v906 : List Nat) (v907 : List Int) (s0 : Int) : Option (Int) := whileM (fun s => (impl_Whole_over_l6_T v901 v902 v903 v905 v906 v907 s).run) s0
def impl_Whole_over_l6_E (v103 v104 : Int) (v105 : List Int) (v106 : Int) (v107 : List Int) (v901 v902 v903 : Int) (v905 : List (List Int)) (v906 : List Nat) (v907 : List Int) (s : Int) : Sd := ([Z,.int .i64 v106,Z,Z,Z,Z,Z,Z,Z,.nest 0 0 1 ((v906).length),.own 1 0 ((v907).length),.int .i64 v901,Z,Z,Z,Z,.int .i64 v902,.int .i64 v903,.int .i64 s,Z,Z,Z,Z,Z,Z,Z,Z,Z,Z,Z,Z,Z,Z,Z,Z,Z,Z,Z,Z,Z,Z,Z,Z,Z,Z,Z,Z,Z,Z,Z,Z,Z,Z,Z,Z,Z,Z,Z,Z,Z,Z,Z,Z,Z,Z,.int .i64 v104,.int .i64 v902,Z,Z,Z,Z,Z,Z,Z,Z,Z,Z,Z,Z,Z,Z,Z,Z,Z,Z,Z,Z,Z,Z,Z,Z,Z,Z,Z,Z,Z,Z,Z,Z,Z,Z,Z,Z,Z,Z,Z,Z,Z,Z,Z,Z,Z,Z,Z,Z,Z,Z,Z,Z,Z,Z,Z,Z,Z,Z,Z,Z,Z,Z,Z,Z,Z,Z,Z,Z,Z,Z,Z,Z,Z,Z,Z,Z,Z,Z,Z,Z,Z,Z,Z,Z,Z,Z,Z,Z,Z,Z,Z,Z,Z,Z,Z,Z,Z,Z,Z,Z,Z,Z,Z,Z,Z,Z,Z,Z,Z,Z,Z,Z,Z,Z,Z,Z,Z,Z,Z,Z,Z,Z,Z,Z,Z,Z,Z,Z,Z,Z,Z,Z,Z,Z,Z,Z,Z,Z,Z], [.nest [.sl (.i64 v905) v906] false 0, .row (.i64 v907) 0])
def impl_Whole_over_l6_X (v103 v104 : Int) (v105 : List Int) (v106 : Int) (v107 : List Int) (v901 v902 v903 : Int) (v905 : List (List Int)) (v906 : List Nat) (v907 : List Int) (x : Int) : Out := (.normal, [Z,.int .i64 v106,Z,Z,Z,Z,Z,Z,Z,.nest 0 0 1 ((v906).length),.own 1 0 ((v907).length),.int .i64 v901,Z,Z,Z,Z,.int .i64 v902,.int .i64 v903,.int .i64 x,Z,Z,Z,Z,Z,Z,Z,Z,Z,Z,Z,Z,Z,Z,Z,Z,Z,Z,Z,Z,Z,Z,Z,Z,Z,Z,Z,Z,Z,Z,Z,Z,Z,Z,Z,Z,Z,Z,Z,Z,Z,Z,Z,Z,Z,Z,.int .i64 v104,.int .i64 v902,Z,Z,Z,Z,Z,Z,Z,Z,Z,Z,Z,Z,Z,Z,Z,Z,Z,Z,Z,Z,Z,Z,Z,Z,Z,Z,Z,Z,Z,Z,Z,Z,Z,Z,Z,Z,Z,Z,Z,Z,Z,Z,Z,Z,Z,Z,Z,Z,Z,Z,Z,Z,Z,Z,Z,Z,Z,Z,Z,Z,Z,Z,Z,Z,Z,Z,Z,Z,Z,Z,Z,Z,Z,Z,Z,Z,Z,Z,Z,Z,Z,Z,Z,Z,Z,Z,Z,Z,Z,Z,Z,Z,Z,Z,Z,Z,Z,Z,Z,Z,Z,Z,Z,Z,Z,Z,Z,Z,Z,Z,Z,Z,Z,Z,Z,Z,Z,Z,Z,Z,Z,Z,Z,Z,Z,Z,Z,Z,Z,Z,Z,Z,Z,Z,Z,Z,Z,Z,Z], [.nest [.sl (.i64 v905) v906] false 0, .row (.i64 v907) 0])
def impl_Whole_over_l6_kill : List Nat := KL true [1,1,7,3,4,3,46,2,139]
def impl_Whole_over_l6_nx : Exit → List Nat
  | .exit 4 => KL true [9,3,194]
  | .exit 5 => KL true [1,1,7,3,53,2,139]
  | .exit 6 => KL true [1,1,7,3,4,3,46,2,139]
  | .ret => KL true [6,3,197]
  | _ => []
noncomputable def impl_Whole_over_l8_T (v106 v929 v930 v931 v932 v933 : Int) (v936 : List Nat) (v937 : List Int) (s : Int × (List (List Int))) : Tree ((Int × (List (List Int))) ⊕ ((List (List Int)))) :=
  (.br (decide (s.1 < v933)) (
  (.grd (inb v931 ((v936).length)) <|
  (.grd (inb v931 ((v936).length)) <|
  (.grd (inb s.1 ((nget s.2 (nth v936 (Int.toNat v931))).length)) <|
  (.grd (!decide (v106 = 0)) <|
  (.grd (inb s.1 ((nget s.2 (nth v936 (Int.toNat v931))).length)) <|
  .leaf (.inl (IntKind.i64.wrap (s.1 + (1 : Int)), List.set s.2 ((nth v936 (Int.toNat v931)) - 1) (List.set (nget s.2 (nth v936 (Int.toNat v931))) (Int.toNat s.1) (Int.tmod (IntKind.i64.wrap ((nth (nget s.2 (nth v936 (Int.toNat v931))) (Int.toNat s.1)) * v932)) v106)))))))))
  ) (
  .leaf (.inr s.2)
  ))

noncomputable def impl_Whole_over_l8_g (v106 v929 v930 v931 v932 v933 : Int) (v936 : List Nat) (v937 : List Int) (s0 : Int × (List (List Int))) : Option ((List (List Int))) := whileM (fun s => (impl_Whole_over_l8_T v106 v929 v930 v931 v932 v933 v936 v937 s).run) s0
def impl_Whole_over_l8_E (v103 v104 : Int) (v105 : List Int) (v106 : Int) (v107 : List Int) (v929 v930 v931 v932 v933 : Int) (v936 : List Nat) (v937 : List Int) (s : Int × (List (List Int))) : Sd := ([Z,.int .i64 v106,Z,Z,Z,Z,Z,Z,Z,.nest 0 0 1 ((v936).length),.own 1 0 ((v937).length),.int .i64 v929,Z,Z,Z,Z,.int .i64 v930,.int .i64 v931,Z,Z,.int .i64 v932,Z,Z,Z,Z,Z,Z,Z,Z,Z,Z,Z,Z,Z,Z,Z,Z,Z,Z,Z,Z,Z,Z,Z,Z,Z,Z,Z,Z,Z,Z,Z,Z,Z,Z,Z,Z,Z,Z,Z,Z,Z,Z,Z,Z,.int .i64 v104,.int .i64 v930,Z,Z,Z,Z,Z,Z,Z,Z,Z,Z,Z,Z,Z,Z,Z,Z,Z,Z,Z,Z,Z,Z,Z,Z,Z,Z,Z,Z,Z,Z,Z,Z,Z,Z,Z,Z,Z,Z,Z,Z,Z,Z,Z,Z,Z,Z,Z,Z,Z,Z,Z,Z,Z,Z,Z,Z,Z,Z,Z,Z,Z,Z,Z,Z,Z,.int .i64 v933,.int .i64 s.1,Z,Z,Z,Z,Z,Z,Z,Z,Z,Z,Z,Z,Z,Z,Z,Z,Z,Z,Z,Z,Z,Z,Z,Z,Z,Z,Z,Z,Z,Z,Z,Z,Z,Z,Z,Z,Z,Z,Z,Z,Z,Z,Z,Z,Z,Z,Z,Z,Z,Z,Z,Z,Z,Z,Z,Z,Z,Z,Z,Z,Z,Z,Z,Z,Z,Z,Z,Z,Z,Z,Z,Z], [.nest [.sl (.i64 s.2) v936] false 0, .row (.i64 v937) 0])
def impl_Whole_over_l8_X (v103 v104 : Int) (v105 : List Int) (v106 : Int) (v107 : List Int) (v929 v930 v931 v932 v933 : Int) (v936 : List Nat) (v937 : List Int) (x : (List (List Int))) : Out := (.normal, [Z,.int .i64 v106,Z,Z,Z,Z,Z,Z,Z,.nest 0 0 1 ((v936).length),.own 1 0 ((v937).length),.int .i64 v929,Z,Z,Z,Z,.int .i64 v930,.int .i64 v931,Z,Z,Z,Z,Z,Z,Z,Z,Z,Z,Z,Z,Z,Z,Z,Z,Z,Z,Z,Z,Z,Z,Z,Z,Z,Z,Z,Z,Z,Z,Z,Z,Z,Z,Z,Z,Z,Z,Z,Z,Z,Z,Z,Z,Z,Z,Z,.int .i64 v104,.int .i64 v930,Z,Z,Z,Z,Z,Z,Z,Z,Z,Z,Z,Z,Z,Z,Z,Z,Z,Z,Z,Z,Z,Z,Z,Z,Z,Z,Z,Z,Z,Z,Z,Z,Z,Z,Z,Z,Z,Z,Z,Z,Z,Z,Z,Z,Z,Z,Z,Z,Z,Z,Z,Z,Z,Z,Z,Z,Z,Z,Z,Z,Z,Z,Z,Z,Z,Z,Z,Z,Z,Z,Z,Z,Z,Z,Z,Z,Z,Z,Z,Z,Z,Z,Z,Z,Z,Z,Z,Z,Z,Z,Z,Z,Z,Z,Z,Z,Z,Z,Z,Z,Z,Z,Z,Z,Z,Z,Z,Z,Z,Z,Z,Z,Z,Z,Z,Z,Z,Z,Z,Z,Z,Z,Z,Z,Z,Z,Z,Z,Z,Z,Z,Z,Z,Z,Z,Z,Z,Z,Z], [.nest [.sl (.i64 x) v936] false 0, .row (.i64 v937) 0])
def impl_Whole_over_l8_kill : List Nat := KL true [1,1,7,3,4,2,2,1,44,2,65,2,72]
def impl_Whole_over_l8_nx : Exit → List Nat
  | .exit 4 => KL true [9,3,194]
  | .exit 5 => KL true [1,1,7,3,53,2,139]
  | .exit 8 => KL true [1,1,7,3,4,2,47,2,139]
  | .ret => KL true [6,3,197]
  | _ => []
noncomputable def impl_Whole_over_l12_T (v106 v1069 v1070 v1071 : Int) (v1072 : Nat) (v1073 v1074 v1075 v1076 : Int) (v1079 : List Nat) (v1080 : List Int) (s : Int × (List (List Int))) : Tree ((Int × (List (List Int))) ⊕ ((List (List Int)))) :=
  (.br (decide (s.1 < v1076)) (
  (.grd (inb s.1 ((nget s.2 v1072).length)) <|
  (.grd (inb v1071 ((v1079).length)) <|
  (.grd (inb s.1 ((nget s.2 (nth v1079 (Int.toNat v1071))).length)) <|
  (.call (impl_rest_g (IntKind.i64.wrap ((nth (nget s.2 v1072) (Int.toNat s.1)) - (IntKind.i64.wrap (v1073 * (nth (nget s.2 (nth v1079 (Int.toNat v1071))) (Int.toNat s.1)))))) v106) fun v1081 =>
  (.grd (inb s.1 ((nget s.2 v1072).length)) <|
  .leaf (.inl (IntKind.i64.wrap (s.1 + (1 : Int)), List.set s.2 (v1072 - 1) (List.set (nget s.2 v1072) (Int.toNat s.1) v1081))))))))
  ) (
  .leaf (.inr s.2)
  ))

noncomputable def impl_Whole_over_l12_g (v106 v1069 v1070 v1071 : Int) (v1072 : Nat) (v1073 v1074 v1075 v1076 : Int) (v1079 : List Nat) (v1080 : List Int) (s0 : Int × (List (List Int))) : Option ((List (List Int))) := whileM (fun s => (impl_Whole_over_l12_T v106 v1069 v1070 v1071 v1072 v1073 v1074 v1075 v1076 v1079 v1080 s).run) s0
def impl_Whole_over_l12_E (v103 v104 : Int) (v105 : List Int) (v106 : Int) (v107 : List Int) (v1069 v1070 v1071 : Int) (v1072 : Nat) (v1073 v1074 v1075 v1076 : Int) (v1079 : List Nat) (v1080 : List Int) (s : Int × (List (List Int))) : Sd := ([Z,.int .i64 v106,Z,Z,Z,Z,Z,Z,Z,.nest 0 0 1 ((v1079).length),.own 1 0 ((v1080).length),.int .i64 v1069,Z,Z,Z,Z,.int .i64 v1070,.int .i64 v1071,Z,Z,Z,Z,Z,.inn 0 0 v1072 ((nget s.2 v1072).length),.int .i64 v1073,Z,Z,Z,Z,Z,Z,Z,Z,Z,Z,Z,Z,Z,Z,Z,Z,Z,Z,Z,Z,Z,Z,Z,Z,Z,Z,Z,Z,Z,Z,Z,Z,Z,Z,Z,Z,Z,Z,Z,Z,.int .i64 v104,.int .i64 v1070,Z,Z,Z,Z,Z,Z,Z,Z,Z,Z,Z,Z,Z,Z,Z,Z,Z,Z,Z,Z,Z,Z,Z,Z,Z,Z,Z,Z,Z,Z,Z,Z,Z,Z,Z,Z,Z,Z,Z,Z,Z,Z,Z,Z,Z,Z,Z,Z,Z,Z,Z,Z,Z,Z,Z,Z,Z,Z,Z,Z,Z,Z,Z,Z,Z,Z,Z,Z,Z,Z,Z,Z,Z,Z,Z,Z,Z,Z,Z,Z,Z,Z,Z,Z,Z,Z,Z,.nest 0 0 1 ((v1079).length),.int .i64 v1074,.int .i64 v1075,Z,Z,Z,Z,Z,Z,Z,Z,Z,Z,Z,Z,Z,Z,Z,Z,.int .i64 v1076,.int .i64 s.1,Z,Z,Z,Z,Z,Z,Z,Z,Z,Z,Z,Z,Z,Z,Z,Z,Z,Z,Z,Z,Z,Z,Z,Z,Z,Z,Z,Z,Z,Z,Z], [.nest [.sl (.i64 s.2) v1079] false 0, .row (.i64 v1080) 0])
def impl_Whole_over_l12_X (v103 v104 : Int) (v105 : List Int) (v106 : Int) (v107 : List Int) (v1069 v1070 v1071 : Int) (v1072 : Nat) (v1073 v1074 v1075 v1076 : Int) (v1079 : List Nat) (v1080 : List Int) (x : (List (List Int))) : Out := (.normal, [Z,.int .i64 v106,Z,Z,Z,Z,Z,Z,Z,.nest 0 0 1 ((v1079).length),.own 1 0 ((v1080).length),.int .i64 v1069,Z,Z,Z,Z,.int .i64 v1070,.int .i64 v1071,Z,Z,Z,Z,Z,Z,Z,Z,Z,Z,Z,Z,Z,Z,Z,Z,Z,Z,Z,Z,Z,Z,Z,Z,Z,Z,Z,Z,Z,Z,Z,Z,Z,Z,Z,Z,Z,Z,Z,Z,Z,Z,Z,Z,Z,Z,Z,.int .i64 v104,.int .i64 v1070,Z,Z,Z,Z,Z,Z,Z,Z,Z,Z,Z,Z,Z,Z,Z,Z,Z,Z,Z,Z,Z,Z,Z,Z,Z,Z,Z,Z,Z,Z,Z,Z,Z,Z,Z,Z,Z,Z,Z,Z,Z,Z,Z,Z,Z,Z,Z,Z,Z,Z,Z,Z,Z,Z,Z,Z,Z,Z,Z,Z,Z,Z,Z,Z,Z,Z,Z,Z,Z,Z,Z,Z,Z,Z,Z,Z,Z,Z,Z,Z,Z,Z,Z,Z,Z,Z,Z,.nest 0 0 1 ((v1079).length),.int .i64 v1074,.int .i64 v1075,Z,Z,Z,Z,Z,Z,Z,Z,Z,Z,Z,Z,Z,Z,Z,Z,Z,Z,Z,Z,Z,Z,Z,Z,Z,Z,Z,Z,Z,Z,Z,Z,Z,Z,Z,Z,Z,Z,Z,Z,Z,Z,Z,Z,Z,Z,Z,Z,Z], [.nest [.sl (.i64 x) v1079] false 0, .row (.i64 v1080) 0])
def impl_Whole_over_l12_kill : List Nat := KL true [1,1,7,3,4,2,5,2,40,2,87,3,16,2,31]
def impl_Whole_over_l12_nx : Exit → List Nat
  | .exit 4 => KL true [9,3,194]
  | .exit 5 => KL true [1,1,7,3,53,2,139]
  | .exit 10 => KL true [1,1,7,3,4,1,48,2,139]
  | .exit 11 => KL true [1,1,7,3,4,2,47,2,87,3,49]
  | .exit 12 => KL true [1,1,7,3,4,2,47,2,87,3,49]
  | .ret => KL true [6,3,197]
  | _ => []
noncomputable def impl_Whole_over_l10_T (v103 v104 : Int) (v105 : List Int) (v106 : Int) (v107 : List Int) (v1035 v1036 v1037 v1038 : Int) (v1041 : List Nat) (v1042 : List Int) (s : Int × (List (List Int))) : Tree ((Int × (List (List Int))) ⊕ ((List (List Int)))) :=
  (.br (decide (s.1 < v1038)) (
  (.grd (inb s.1 ((v1041).length)) <|
  (.grd (inb v1036 ((nget s.2 (nth v1041 (Int.toNat s.1))).length)) <|
  (.br (!decide (s.1 = v1037)) (
  (.br (!decide (nth (nget s.2 (nth v1041 (Int.toNat s.1))) (Int.toNat v1036) = (0 : Int))) (
  (.need (some (impl_Whole_over_l12_E v103 v104 v105 v106 v107 v1035 v1036 v1037 (nth v1041 (Int.toNat s.1)) (nth (nget s.2 (nth v1041 (Int.toNat s.1))) (Int.toNat v1036)) v1038 s.1 (((nget s.2 (nth v1041 (Int.toNat s.1))).length : Nat) : Int) v1041 v1042 ((0 : Int), s.2)) = some (impl_Whole_over_l12_E v103 v104 v105 v106 v107 v1035 v1036 v1037 (nth v1041 (Int.toNat s.1)) (nth (nget s.2 (nth v1041 (Int.toNat s.1))) (Int.toNat v1036)) v1038 s.1 (((nget s.2 (nth v1041 (Int.toNat s.1))).length : Nat) : Int) v1041 v1042 ((0 : Int), s.2))) <|
  (.call (impl_Whole_over_l12_g v106 v1035 v1036 v1037 (nth v1041 (Int.toNat s.1)) (nth (nget s.2 (nth v1041 (Int.toNat s.1))) (Int.toNat v1036)) v1038 s.1 (((nget s.2 (nth v1041 (Int.toNat s.1))).length : Nat) : Int) v1041 v1042 ((0 : Int), s.2)) fun v1082 =>
  .leaf (.inl (IntKind.i64.wrap (s.1 + (1 : Int)), v1082))))
  ) (
  .leaf (.inl (IntKind.i64.wrap (s.1 + (1 : Int)), s.2))
  ))
  ) (
  .leaf (.inl (IntKind.i64.wrap (s.1 + (1 : Int)), s.2))
  ))))
  ) (
  .leaf (.inr s.2)
  ))

noncomputable def impl_Whole_over_l10_g (v103 v104 : Int) (v105 : List Int) (v106 : Int) (v107 : List Int) (v1035 v1036 v1037 v1038 : Int) (v1041 : List Nat) (v1042 : List Int) (s0 : Int × (List (List Int))) : Option ((List (List Int))) := whileM (fun s => (impl_Whole_over_l10_T v103 v104 v105 v106 v107 v1035 v1036 v1037 v1038 v1041 v1042 s).run) s0
def impl_Whole_over_l10_E (v103 v104 : Int) (v105 : List Int) (v106 : Int) (v107 : List Int) (v1035 v1036 v1037 v1038 : Int) (v1041 : List Nat) (v1042 : List Int) (s : Int × (List (List Int))) : Sd := ([Z,.int .i64 v106,Z,Z,Z,Z,Z,Z,Z,.nest 0 0 1 ((v1041).length),.own 1 0 ((v1042).length),.int .i64 v1035,Z,Z,Z,Z,.int .i64 v1036,.int .i64 v1037,Z,Z,Z,Z,Z,Z,Z,Z,Z,Z,Z,Z,Z,Z,Z,Z,Z,Z,Z,Z,Z,Z,Z,Z,Z,Z,Z,Z,Z,Z,Z,Z,Z,Z,Z,Z,Z,Z,Z,Z,Z,Z,Z,Z,Z,Z,Z,.int .i64 v104,.int .i64 v1036,Z,Z,Z,Z,Z,Z,Z,Z,Z,Z,Z,Z,Z,Z,Z,Z,Z,Z,Z,Z,Z,Z,Z,Z,Z,Z,Z,Z,Z,Z,Z,Z,Z,Z,Z,Z,Z,Z,Z,Z,Z,Z,Z,Z,Z,Z,Z,Z,Z,Z,Z,Z,Z,Z,Z,Z,Z,Z,Z,Z,Z,Z,Z,Z,Z,Z,Z,Z,Z,Z,Z,Z,Z,Z,Z,Z,Z,Z,Z,Z,Z,Z,Z,Z,Z,Z,Z,.nest 0 0 1 ((v1041).length),.int .i64 v1038,.int .i64 s.1,Z,Z,Z,Z,Z,Z,Z,Z,Z,Z,Z,Z,Z,Z,Z,Z,Z,Z,Z,Z,Z,Z,Z,Z,Z,Z,Z,Z,Z,Z,Z,Z,Z,Z,Z,Z,Z,Z,Z,Z,Z,Z,Z,Z,Z,Z,Z,Z,Z], [.nest [.sl (.i64 s.2) v1041] false 0, .row (.i64 v1042) 0])
def impl_Whole_over_l10_X (v103 v104 : Int) (v105 : List Int) (v106 : Int) (v107 : List Int) (v1035 v1036 v1037 v1038 : Int) (v1041 : List Nat) (v1042 : List Int) (x : (List (List Int))) : Out := (.normal, [Z,.int .i64 v106,Z,Z,Z,Z,Z,Z,Z,.nest 0 0 1 ((v1041).length),.own 1 0 ((v1042).length),.int .i64 v1035,Z,Z,Z,Z,.int .i64 v1036,Z,Z,Z,Z,Z,Z,Z,Z,Z,Z,Z,Z,Z,Z,Z,Z,Z,Z,Z,Z,Z,Z,Z,Z,Z,Z,Z,Z,Z,Z,Z,Z,Z,Z,Z,Z,Z,Z,Z,Z,Z,Z,Z,Z,Z,Z,Z,Z,.int .i64 v104,.int .i64 v1036,Z,Z,Z,Z,Z,Z,Z,Z,Z,Z,Z,Z,Z,Z,Z,Z,Z,Z,Z,Z,Z,Z,Z,Z,Z,Z,Z,Z,Z,Z,Z,Z,Z,Z,Z,Z,Z,Z,Z,Z,Z,Z,Z,Z,Z,Z,Z,Z,Z,Z,Z,Z,Z,Z,Z,Z,Z,Z,Z,Z,Z,Z,Z,Z,Z,Z,Z,Z,Z,Z,Z,Z,Z,Z,Z,Z,Z,Z,Z,Z,Z,Z,Z,Z,Z,Z,Z,Z,Z,Z,Z,Z,Z,Z,Z,Z,Z,Z,Z,Z,Z,Z,Z,Z,Z,Z,Z,Z,Z,Z,Z,Z,Z,Z,Z,Z,Z,Z,Z,Z,Z,Z,Z,Z,Z,Z,Z,Z,Z,Z,Z,Z,Z,Z,Z,Z,Z,Z,Z], [.nest [.sl (.i64 x) v1041] false 0, .row (.i64 v1042) 0])
def impl_Whole_over_l10_kill : List Nat := KL true [1,1,7,3,4,2,47,2,87,3,49]
def impl_Whole_over_l10_nx : Exit → List Nat
  | .exit 4 => KL true [9,3,194]
  | .exit 5 => KL true [1,1,7,3,53,2,139]
  | .exit 10 => KL true [1,1,7,3,4,1,48,2,139]
  | .ret => KL true [6,3,197]
  | _ => []
noncomputable def impl_Whole_over_l4_T (v103 v104 : Int) (v105 : List Int) (v106 : Int) (v107 : List Int) (s : Int × Int × (List (List Int)) × (List Nat) × (List Int)) : Tree ((Int × Int × (List (List Int)) × (List Nat) × (List Int)) ⊕ (Int × (List (List Int)) × (List Nat) × (List Int))) :=
  (.br (decide (s.2.1 < v104)) (
  (.need (some (impl_Whole_over_l6_E v103 v104 v105 v106 v107 s.1 s.2.1 (((s.2.2.2.2).length : Nat) : Int) s.2.2.1 s.2.2.2.1 s.2.2.2.2 (((s.2.2.2.2).length : Nat) : Int)) = some (impl_Whole_over_l6_E v103 v104 v105 v106 v107 s.1 s.2.1 (((s.2.2.2.2).length : Nat) : Int) s.2.2.1 s.2.2.2.1 s.2.2.2.2 (((s.2.2.2.2).length : Nat) : Int))) <|
  (.call (impl_Whole_over_l6_g s.1 s.2.1 (((s.2.2.2.2).length : Nat) : Int) s.2.2.1 s.2.2.2.1 s.2.2.2.2 (((s.2.2.2.2).length : Nat) : Int)) fun v908 =>
  (.br (decide (v908 = (((s.2.2.2.1).length : Nat) : Int))) (
  .leaf (.inl ((0 : Int), IntKind.i64.wrap (s.2.1 + (1 : Int)), s.2.2.1, s.2.2.2.1, s.2.2.2.2))
  ) (
  (.br (!decide (v908 = (((s.2.2.2.2).length : Nat) : Int))) (
  (.grd (inb (((s.2.2.2.2).length : Nat) : Int) ((s.2.2.2.1).length)) <|
  (.grd (inb v908 ((s.2.2.2.1).length)) <|
  (.grd (inb v908 ((s.2.2.2.1).length)) <|
  (.grd (inb (((s.2.2.2.2).length : Nat) : Int) ((s.2.2.2.1).length)) <|
  (.call (impl_rest_g (IntKind.i64.wrap (0 - s.1)) v106) fun v909 =>
  (.grd (inb (((s.2.2.2.2).length : Nat) : Int) ((s.2.2.2.1).length)) <|
  (.grd (inb s.2.1 ((nget s.2.2.1 (nth (List.set (List.set s.2.2.2.1 (Int.toNat v908) (nth s.2.2.2.1 (Int.toNat (((s.2.2.2.2).length : Nat) : Int)))) (Int.toNat (((s.2.2.2.2).length : Nat) : Int)) (nth s.2.2.2.1 (Int.toNat v908))) (Int.toNat (((s.2.2.2.2).length : Nat) : Int)))).length)) <|
  (.grd (!decide (v106 = 0)) <|
  (.call (impl_backOver_g (nth (nget s.2.2.1 (nth (List.set (List.set s.2.2.2.1 (Int.toNat v908) (nth s.2.2.2.1 (Int.toNat (((s.2.2.2.2).length : Nat) : Int)))) (Int.toNat (((s.2.2.2.2).length : Nat) : Int)) (nth s.2.2.2.1 (Int.toNat v908))) (Int.toNat (((s.2.2.2.2).length : Nat) : Int)))) (Int.toNat s.2.1)) v106) fun v910 =>
  (.grd (inb (((s.2.2.2.2).length : Nat) : Int) ((s.2.2.2.1).length)) <|
  (.need (some (impl_Whole_over_l8_E v103 v104 v105 v106 v107 (Int.tmod (IntKind.i64.wrap (v909 * (nth (nget s.2.2.1 (nth (List.set (List.set s.2.2.2.1 (Int.toNat v908) (nth s.2.2.2.1 (Int.toNat (((s.2.2.2.2).length : Nat) : Int)))) (Int.toNat (((s.2.2.2.2).length : Nat) : Int)) (nth s.2.2.2.1 (Int.toNat v908))) (Int.toNat (((s.2.2.2.2).length : Nat) : Int)))) (Int.toNat s.2.1)))) v106) s.2.1 (((s.2.2.2.2).length : Nat) : Int) v910 (((nget s.2.2.1 (nth (List.set (List.set s.2.2.2.1 (Int.toNat v908) (nth s.2.2.2.1 (Int.toNat (((s.2.2.2.2).length : Nat) : Int)))) (Int.toNat (((s.2.2.2.2).length : Nat) : Int)) (nth s.2.2.2.1 (Int.toNat v908))) (Int.toNat (((s.2.2.2.2).length : Nat) : Int)))).length : Nat) : Int) (List.set (List.set s.2.2.2.1 (Int.toNat v908) (nth s.2.2.2.1 (Int.toNat (((s.2.2.2.2).length : Nat) : Int)))) (Int.toNat (((s.2.2.2.2).length : Nat) : Int)) (nth s.2.2.2.1 (Int.toNat v908))) s.2.2.2.2 ((0 : Int), s.2.2.1)) = some (impl_Whole_over_l8_E v103 v104 v105 v106 v107 (Int.tmod (IntKind.i64.wrap (v909 * (nth (nget s.2.2.1 (nth (List.set (List.set s.2.2.2.1 (Int.toNat v908) (nth s.2.2.2.1 (Int.toNat (((s.2.2.2.2).length : Nat) : Int)))) (Int.toNat (((s.2.2.2.2).length : Nat) : Int)) (nth s.2.2.2.1 (Int.toNat v908))) (Int.toNat (((s.2.2.2.2).length : Nat) : Int)))) (Int.toNat s.2.1)))) v106) s.2.1 (((s.2.2.2.2).length : Nat) : Int) v910 (((nget s.2.2.1 (nth (List.set (List.set s.2.2.2.1 (Int.toNat v908) (nth s.2.2.2.1 (Int.toNat (((s.2.2.2.2).length : Nat) : Int)))) (Int.toNat (((s.2.2.2.2).length : Nat) : Int)) (nth s.2.2.2.1 (Int.toNat v908))) (Int.toNat (((s.2.2.2.2).length : Nat) : Int)))).length : Nat) : Int) (List.set (List.set s.2.2.2.1 (Int.toNat v908) (nth s.2.2.2.1 (Int.toNat (((s.2.2.2.2).length : Nat) : Int)))) (Int.toNat (((s.2.2.2.2).length : Nat) : Int)) (nth s.2.2.2.1 (Int.toNat v908))) s.2.2.2.2 ((0 : Int), s.2.2.1))) <|
  (.call (impl_Whole_over_l8_g v106 (Int.tmod (IntKind.i64.wrap (v909 * (nth (nget s.2.2.1 (nth (List.set (List.set s.2.2.2.1 (Int.toNat v908) (nth s.2.2.2.1 (Int.toNat (((s.2.2.2.2).length : Nat) : Int)))) (Int.toNat (((s.2.2.2.2).length : Nat) : Int)) (nth s.2.2.2.1 (Int.toNat v908))) (Int.toNat (((s.2.2.2.2).length : Nat) : Int)))) (Int.toNat s.2.1)))) v106) s.2.1 (((s.2.2.2.2).length : Nat) : Int) v910 (((nget s.2.2.1 (nth (List.set (List.set s.2.2.2.1 (Int.toNat v908) (nth s.2.2.2.1 (Int.toNat (((s.2.2.2.2).length : Nat) : Int)))) (Int.toNat (((s.2.2.2.2).length : Nat) : Int)) (nth s.2.2.2.1 (Int.toNat v908))) (Int.toNat (((s.2.2.2.2).length : Nat) : Int)))).length : Nat) : Int) (List.set (List.set s.2.2.2.1 (Int.toNat v908) (nth s.2.2.2.1 (Int.toNat (((s.2.2.2.2).length : Nat) : Int)))) (Int.toNat (((s.2.2.2.2).length : Nat) : Int)) (nth s.2.2.2.1 (Int.toNat v908))) s.2.2.2.2 ((0 : Int), s.2.2.1)) fun v938 =>
  (.need (some (impl_Whole_over_l10_E v103 v104 v105 v106 v107 (Int.tmod (IntKind.i64.wrap (v909 * (nth (nget s.2.2.1 (nth (List.set (List.set s.2.2.2.1 (Int.toNat v908) (nth s.2.2.2.1 (Int.toNat (((s.2.2.2.2).length : Nat) : Int)))) (Int.toNat (((s.2.2.2.2).length : Nat) : Int)) (nth s.2.2.2.1 (Int.toNat v908))) (Int.toNat (((s.2.2.2.2).length : Nat) : Int)))) (Int.toNat s.2.1)))) v106) s.2.1 (((s.2.2.2.2).length : Nat) : Int) ((((List.set (List.set s.2.2.2.1 (Int.toNat v908) (nth s.2.2.2.1 (Int.toNat (((s.2.2.2.2).length : Nat) : Int)))) (Int.toNat (((s.2.2.2.2).length : Nat) : Int)) (nth s.2.2.2.1 (Int.toNat v908)))).length : Nat) : Int) (List.set (List.set s.2.2.2.1 (Int.toNat v908) (nth s.2.2.2.1 (Int.toNat (((s.2.2.2.2).length : Nat) : Int)))) (Int.toNat (((s.2.2.2.2).length : Nat) : Int)) (nth s.2.2.2.1 (Int.toNat v908))) s.2.2.2.2 ((0 : Int), v938)) = some (impl_Whole_over_l10_E v103 v104 v105 v106 v107 (Int.tmod (IntKind.i64.wrap (v909 * (nth (nget s.2.2.1 (nth (List.set (List.set s.2.2.2.1 (Int.toNat v908) (nth s.2.2.2.1 (Int.toNat (((s.2.2.2.2).length : Nat) : Int)))) (Int.toNat (((s.2.2.2.2).length : Nat) : Int)) (nth s.2.2.2.1 (Int.toNat v908))) (Int.toNat (((s.2.2.2.2).length : Nat) : Int)))) (Int.toNat s.2.1)))) v106) s.2.1 (((s.2.2.2.2).length : Nat) : Int) ((((List.set (List.set s.2.2.2.1 (Int.toNat v908) (nth s.2.2.2.1 (Int.toNat (((s.2.2.2.2).length : Nat) : Int)))) (Int.toNat (((s.2.2.2.2).length : Nat) : Int)) (nth s.2.2.2.1 (Int.toNat v908)))).length : Nat) : Int) (List.set (List.set s.2.2.2.1 (Int.toNat v908) (nth s.2.2.2.1 (Int.toNat (((s.2.2.2.2).length : Nat) : Int)))) (Int.toNat (((s.2.2.2.2).length : Nat) : Int)) (nth s.2.2.2.1 (Int.toNat v908))) s.2.2.2.2 ((0 : Int), v938))) <|
  (.call (impl_Whole_over_l10_g v103 v104 v105 v106 v107 (Int.tmod (IntKind.i64.wrap (v909 * (nth (nget s.2.2.1 (nth (List.set (List.set s.2.2.2.1 (Int.toNat v908) (nth s.2.2.2.1 (Int.toNat (((s.2.2.2.2).length : Nat) : Int)))) (Int.toNat (((s.2.2.2.2).length : Nat) : Int)) (nth s.2.2.2.1 (Int.toNat v908))) (Int.toNat (((s.2.2.2.2).length : Nat) : Int)))) (Int.toNat s.2.1)))) v106) s.2.1 (((s.2.2.2.2).length : Nat) : Int) ((((List.set (List.set s.2.2.2.1 (Int.toNat v908) (nth s.2.2.2.1 (Int.toNat (((s.2.2.2.2).length : Nat) : Int)))) (Int.toNat (((s.2.2.2.2).length : Nat) : Int)) (nth s.2.2.2.1 (Int.toNat v908)))).length : Nat) : Int) (List.set (List.set s.2.2.2.1 (Int.toNat v908) (nth s.2.2.2.1 (Int.toNat (((s.2.2.2.2).length : Nat) : Int)))) (Int.toNat (((s.2.2.2.2).length : Nat) : Int)) (nth s.2.2.2.1 (Int.toNat v908))) s.2.2.2.2 ((0 : Int), v938)) fun v1083 =>
  (.grd (fits (s.2.2.2.2 ++ ([s.2.1] : List Int)).length) <|
  .leaf (.inl ((Int.tmod (IntKind.i64.wrap (v909 * (nth (nget s.2.2.1 (nth (List.set (List.set s.2.2.2.1 (Int.toNat v908) (nth s.2.2.2.1 (Int.toNat (((s.2.2.2.2).length : Nat) : Int)))) (Int.toNat (((s.2.2.2.2).length : Nat) : Int)) (nth s.2.2.2.1 (Int.toNat v908))) (Int.toNat (((s.2.2.2.2).length : Nat) : Int)))) (Int.toNat s.2.1)))) v106), IntKind.i64.wrap (s.2.1 + (1 : Int)), v1083, (List.set (List.set s.2.2.2.1 (Int.toNat v908) (nth s.2.2.2.1 (Int.toNat (((s.2.2.2.2).length : Nat) : Int)))) (Int.toNat (((s.2.2.2.2).length : Nat) : Int)) (nth s.2.2.2.1 (Int.toNat v908))), s.2.2.2.2 ++ ([s.2.1] : List Int))))))))))))))))))
  ) (
  (.grd (inb (((s.2.2.2.2).length : Nat) : Int) ((s.2.2.2.1).length)) <|
  (.grd (inb s.2.1 ((nget s.2.2.1 (nth s.2.2.2.1 (Int.toNat (((s.2.2.2.2).length : Nat) : Int)))).length)) <|
  (.grd (!decide (v106 = 0)) <|
  (.call (impl_backOver_g (nth (nget s.2.2.1 (nth s.2.2.2.1 (Int.toNat (((s.2.2.2.2).length : Nat) : Int)))) (Int.toNat s.2.1)) v106) fun v1084 =>
  (.grd (inb (((s.2.2.2.2).length : Nat) : Int) ((s.2.2.2.1).length)) <|
  (.need (some (impl_Whole_over_l8_E v103 v104 v105 v106 v107 (Int.tmod (IntKind.i64.wrap (s.1 * (nth (nget s.2.2.1 (nth s.2.2.2.1 (Int.toNat (((s.2.2.2.2).length : Nat) : Int)))) (Int.toNat s.2.1)))) v106) s.2.1 (((s.2.2.2.2).length : Nat) : Int) v1084 (((nget s.2.2.1 (nth s.2.2.2.1 (Int.toNat (((s.2.2.2.2).length : Nat) : Int)))).length : Nat) : Int) s.2.2.2.1 s.2.2.2.2 ((0 : Int), s.2.2.1)) = some (impl_Whole_over_l8_E v103 v104 v105 v106 v107 (Int.tmod (IntKind.i64.wrap (s.1 * (nth (nget s.2.2.1 (nth s.2.2.2.1 (Int.toNat (((s.2.2.2.2).length : Nat) : Int)))) (Int.toNat s.2.1)))) v106) s.2.1 (((s.2.2.2.2).length : Nat) : Int) v1084 (((nget s.2.2.1 (nth s.2.2.2.1 (Int.toNat (((s.2.2.2.2).length : Nat) : Int)))).length : Nat) : Int) s.2.2.2.1 s.2.2.2.2 ((0 : Int), s.2.2.1))) <|
  (.call (impl_Whole_over_l8_g v106 (Int.tmod (IntKind.i64.wrap (s.1 * (nth (nget s.2.2.1 (nth s.2.2.2.1 (Int.toNat (((s.2.2.2.2).length : Nat) : Int)))) (Int.toNat s.2.1)))) v106) s.2.1 (((s.2.2.2.2).length : Nat) : Int) v1084 (((nget s.2.2.1 (nth s.2.2.2.1 (Int.toNat (((s.2.2.2.2).length : Nat) : Int)))).length : Nat) : Int) s.2.2.2.1 s.2.2.2.2 ((0 : Int), s.2.2.1)) fun v1112 =>
  (.need (some (impl_Whole_over_l10_E v103 v104 v105 v106 v107 (Int.tmod (IntKind.i64.wrap (s.1 * (nth (nget s.2.2.1 (nth s.2.2.2.1 (Int.toNat (((s.2.2.2.2).length : Nat) : Int)))) (Int.toNat s.2.1)))) v106) s.2.1 (((s.2.2.2.2).length : Nat) : Int) (((s.2.2.2.1).length : Nat) : Int) s.2.2.2.1 s.2.2.2.2 ((0 : Int), v1112)) = some (impl_Whole_over_l10_E v103 v104 v105 v106 v107 (Int.tmod (IntKind.i64.wrap (s.1 * (nth (nget s.2.2.1 (nth s.2.2.2.1 (Int.toNat (((s.2.2.2.2).length : Nat) : Int)))) (Int.toNat s.2.1)))) v106) s.2.1 (((s.2.2.2.2).length : Nat) : Int) (((s.2.2.2.1).length : Nat) : Int) s.2.2.2.1 s.2.2.2.2 ((0 : Int), v1112))) <|
  (.call (impl_Whole_over_l10_g v103 v104 v105 v106 v107 (Int.tmod (IntKind.i64.wrap (s.1 * (nth (nget s.2.2.1 (nth s.2.2.2.1 (Int.toNat (((s.2.2.2.2).length : Nat) : Int)))) (Int.toNat s.2.1)))) v106) s.2.1 (((s.2.2.2.2).length : Nat) : Int) (((s.2.2.2.1).length : Nat) : Int) s.2.2.2.1 s.2.2.2.2 ((0 : Int), v1112)) fun v1257 =>
  (.grd (fits (s.2.2.2.2 ++ ([s.2.1] : List Int)).length) <|
  .leaf (.inl ((Int.tmod (IntKind.i64.wrap (s.1 * (nth (nget s.2.2.1 (nth s.2.2.2.1 (Int.toNat (((s.2.2.2.2).length : Nat) : Int)))) (Int.toNat s.2.1)))) v106), IntKind.i64.wrap (s.2.1 + (1 : Int)), v1257, s.2.2.2.1, s.2.2.2.2 ++ ([s.2.1] : List Int)))))))))))))
  ))
  ))))
  ) (
  .leaf (.inr (s.1, s.2.2.1, s.2.2.2.1, s.2.2.2.2))
  ))

noncomputable def impl_Whole_over_l4_g (v103 v104 : Int) (v105 : List Int) (v106 : Int) (v107 : List Int) (s0 : Int × Int × (List (List Int)) × (List Nat) × (List Int)) : Option (Int × (List (List Int)) × (List Nat) × (List Int)) := whileM (fun s => (impl_Whole_over_l4_T v103 v104 v105 v106 v107 s).run) s0
def impl_Whole_over_l4_E (v103 v104 : Int) (v105 : List Int) (v106 : Int) (v107 : List Int) (s : Int × Int × (List (List Int)) × (List Nat) × (List Int)) : Sd := ([Z,.int .i64 v106,Z,Z,Z,Z,Z,Z,Z,.nest 0 0 1 ((s.2.2.2.1).length),.own 1 0 ((s.2.2.2.2).length),.int .i64 s.1,Z,Z,Z,Z,Z,Z,Z,Z,Z,Z,Z,Z,Z,Z,Z,Z,Z,Z,Z,Z,Z,Z,Z,Z,Z,Z,Z,Z,Z,Z,Z,Z,Z,Z,Z,Z,Z,Z,Z,Z,Z,Z,Z,Z,Z,Z,Z,Z,Z,Z,Z,Z,Z,.int .i64 v104,.int .i64 s.2.1,Z,Z,Z,Z,Z,Z,Z,Z,Z,Z,Z,Z,Z,Z,Z,Z,Z,Z,Z,Z,Z,Z,Z,Z,Z,Z,Z,Z,Z,Z,Z,Z,Z,Z,Z,Z,Z,Z,Z,Z,Z,Z,Z,Z,Z,Z,Z,Z,Z,Z,Z,Z,Z,Z,Z,Z,Z,Z,Z,Z,Z,Z,Z,Z,Z,Z,Z,Z,Z,Z,Z,Z,Z,Z,Z,Z,Z,Z,Z,Z,Z,Z,Z,Z,Z,Z,Z,Z,Z,Z,Z,Z,Z,Z,Z,Z,Z,Z,Z,Z,Z,Z,Z,Z,Z,Z,Z,Z,Z,Z,Z,Z,Z,Z,Z,Z,Z,Z,Z,Z,Z,Z,Z,Z,Z,Z,Z,Z,Z,Z,Z,Z,Z,Z,Z,Z,Z,Z,Z], [.nest [.sl (.i64 s.2.2.1) s.2.2.2.1] false 0, .row (.i64 s.2.2.2.2) 0])
def impl_Whole_over_l4_X (v103 v104 : Int) (v105 : List Int) (v106 : Int) (v107 : List Int) (x : Int × (List (List Int)) × (List Nat) × (List Int)) : Out := (.normal, [Z,Z,Z,Z,Z,Z,Z,Z,Z,.nest 0 0 1 ((x.2.2.1).length),.own 1 0 ((x.2.2.2).length),.int .i64 x.1,Z,Z,Z,Z,Z,Z,Z,Z,Z,Z,Z,Z,Z,Z,Z,Z,Z,Z,Z,Z,Z,Z,Z,Z,Z,Z,Z,Z,Z,Z,Z,Z,Z,Z,Z,Z,Z,Z,Z,Z,Z,Z,Z,Z,Z,Z,Z,Z,Z,Z,Z,Z,Z,Z,Z,Z,Z,Z,Z,Z,Z,Z,Z,Z,Z,Z,Z,Z,Z,Z,Z,Z,Z,Z,Z,Z,Z,Z,Z,Z,Z,Z,Z,Z,Z,Z,Z,Z,Z,Z,Z,Z,Z,Z,Z,Z,Z,Z,Z,Z,Z,Z,Z,Z,Z,Z,Z,Z,Z,Z,Z,Z,Z,Z,Z,Z,Z,Z,Z,Z,Z,Z,Z,Z,Z,Z,Z,Z,Z,Z,Z,Z,Z,Z,Z,Z,Z,Z,Z,Z,Z,Z,Z,Z,Z,Z,Z,Z,Z,Z,Z,Z,Z,Z,Z,Z,Z,Z,Z,Z,Z,Z,Z,Z,Z,Z,Z,Z,Z,Z,Z,Z,Z,Z,Z,Z,Z,Z,Z,Z,Z,Z,Z,Z,Z,Z,Z,Z,Z,Z,Z,Z,Z,Z], [.nest [.sl (.i64 x.2.1) x.2.2.1] false 0, .row (.i64 x.2.2.2) 0])
def impl_Whole_over_l4_kill : List Nat := KL true [1,1,7,3,53,2,139]
def impl_Whole_over_l4_nx : Exit → List Nat
  | .exit 4 => KL true [9,3,194]
  | .ret => KL true [6,3,197]
  | _ => []
noncomputable def impl_Whole_over_LO (v103 v104 : Int) (v105 : List Int) (v106 : Int) (v107 : List Int) : LOr := fun id e L =>
  match id with
  | 2 => .need (normA 0 impl_Whole_over_l2_kill e L = some (impl_Whole_over_l2_E v103 v104 v105 v106 v107 (gI (vAt e 30)) (gI (vAt e 46)) (gPI L (vAt e 9) 0) (gX L (vAt e 9) 0) ((gI (vAt e 47)), (gRI L (vAt e 13))))) (.call (impl_Whole_over_l2_g v106 (gI (vAt e 30)) (gI (vAt e 46)) (gPI L (vAt e 9) 0) (gX L (vAt e 9) 0) ((gI (vAt e 47)), (gRI L (vAt e 13)))) fun x => .leaf (impl_Whole_over_l2_X v103 v104 v105 v106 v107 (gI (vAt e 30)) (gI (vAt e 46)) (gPI L (vAt e 9) 0) (gX L (vAt e 9) 0) x))
  | 0 => .need (normA 0 impl_Whole_over_l0_kill e L = some (impl_Whole_over_l0_E v103 v104 v105 v106 v107 ((gI (vAt e 30)), (gPI L (vAt e 9) 0), (gX L (vAt e 9) 0)))) (.call (impl_Whole_over_l0_g v103 v104 v105 v106 v107 ((gI (vAt e 30)), (gPI L (vAt e 9) 0), (gX L (vAt e 9) 0))) fun x => .leaf (impl_Whole_over_l0_X v103 v104 v105 v106 v107 x))
  | 6 => .need (normA 0 impl_Whole_over_l6_kill e L = some (impl_Whole_over_l6_E v103 v104 v105 v106 v107 (gI (vAt e 11)) (gI (vAt e 16)) (gI (vAt e 17)) (gPI L (vAt e 9) 0) (gX L (vAt e 9) 0) (gRI L (vAt e 10)) (gI (vAt e 18)))) (.call (impl_Whole_over_l6_g (gI (vAt e 11)) (gI (vAt e 16)) (gI (vAt e 17)) (gPI L (vAt e 9) 0) (gX L (vAt e 9) 0) (gRI L (vAt e 10)) (gI (vAt e 18))) fun x => .leaf (impl_Whole_over_l6_X v103 v104 v105 v106 v107 (gI (vAt e 11)) (gI (vAt e 16)) (gI (vAt e 17)) (gPI L (vAt e 9) 0) (gX L (vAt e 9) 0) (gRI L (vAt e 10)) x))
  | 8 => .need (normA 0 impl_Whole_over_l8_kill e L = some (impl_Whole_over_l8_E v103 v104 v105 v106 v107 (gI (vAt e 11)) (gI (vAt e 16)) (gI (vAt e 17)) (gI (vAt e 20)) (gI (vAt e 132)) (gX L (vAt e 9) 0) (gRI L (vAt e 10)) ((gI (vAt e 133)), (gPI L (vAt e 9) 0)))) (.call (impl_Whole_over_l8_g v106 (gI (vAt e 11)) (gI (vAt e 16)) (gI (vAt e 17)) (gI (vAt e 20)) (gI (vAt e 132)) (gX L (vAt e 9) 0) (gRI L (vAt e 10)) ((gI (vAt e 133)), (gPI L (vAt e 9) 0))) fun x => .leaf (impl_Whole_over_l8_X v103 v104 v105 v106 v107 (gI (vAt e 11)) (gI (vAt e 16)) (gI (vAt e 17)) (gI (vAt e 20)) (gI (vAt e 132)) (gX L (vAt e 9) 0) (gRI L (vAt e 10)) x))
  | 12 => .need (normA 0 impl_Whole_over_l12_kill e L = some (impl_Whole_over_l12_E v103 v104 v105 v106 v107 (gI (vAt e 11)) (gI (vAt e 16)) (gI (vAt e 17)) (gK (vAt e 23)) (gI (vAt e 24)) (gI (vAt e 155)) (gI (vAt e 156)) (gI (vAt e 173)) (gX L (vAt e 9) 0) (gRI L (vAt e 10)) ((gI (vAt e 174)), (gPI L (vAt e 9) 0)))) (.call (impl_Whole_over_l12_g v106 (gI (vAt e 11)) (gI (vAt e 16)) (gI (vAt e 17)) (gK (vAt e 23)) (gI (vAt e 24)) (gI (vAt e 155)) (gI (vAt e 156)) (gI (vAt e 173)) (gX L (vAt e 9) 0) (gRI L (vAt e 10)) ((gI (vAt e 174)), (gPI L (vAt e 9) 0))) fun x => .leaf (impl_Whole_over_l12_X v103 v104 v105 v106 v107 (gI (vAt e 11)) (gI (vAt e 16)) (gI (vAt e 17)) (gK (vAt e 23)) (gI (vAt e 24)) (gI (vAt e 155)) (gI (vAt e 156)) (gI (vAt e 173)) (gX L (vAt e 9) 0) (gRI L (vAt e 10)) x))
  | 10 => .need (normA 0 impl_Whole_over_l10_kill e L = some (impl_Whole_over_l10_E v103 v104 v105 v106 v107 (gI (vAt e 11)) (gI (vAt e 16)) (gI (vAt e 17)) (gI (vAt e 155)) (gX L (vAt e 9) 0) (gRI L (vAt e 10)) ((gI (vAt e 156)), (gPI L (vAt e 9) 0)))) (.call (impl_Whole_over_l10_g v103 v104 v105 v106 v107 (gI (vAt e 11)) (gI (vAt e 16)) (gI (vAt e 17)) (gI (vAt e 155)) (gX L (vAt e 9) 0) (gRI L (vAt e 10)) ((gI (vAt e 156)), (gPI L (vAt e 9) 0))) fun x => .leaf (impl_Whole_over_l10_X v103 v104 v105 v106 v107 (gI (vAt e 11)) (gI (vAt e 16)) (gI (vAt e 17)) (gI (vAt e 155)) (gX L (vAt e 9) 0) (gRI L (vAt e 10)) x))
  | 4 => .need (normA 0 impl_Whole_over_l4_kill e L = some (impl_Whole_over_l4_E v103 v104 v105 v106 v107 ((gI (vAt e 11)), (gI (vAt e 66)), (gPI L (vAt e 9) 0), (gX L (vAt e 9) 0), (gRI L (vAt e 10))))) (.call (impl_Whole_over_l4_g v103 v104 v105 v106 v107 ((gI (vAt e 11)), (gI (vAt e 66)), (gPI L (vAt e 9) 0), (gX L (vAt e 9) 0), (gRI L (vAt e 10)))) fun x => .leaf (impl_Whole_over_l4_X v103 v104 v105 v106 v107 x))
  | _ => .fail
noncomputable def impl_Whole_over_tab : List (FuncId × DFn × Bool) := [(127, impl_Whole_row_F, true), (70, impl_rest_F, true), (123, impl_backOver_F, true)]
theorem impl_Whole_over_hO : OrcOk Try.prog (tabD impl_Whole_over_tab) (tabM impl_Whole_over_tab) := tabD_cons impl_Whole_row_Fok (tabD_cons impl_rest_Fok (tabD_cons impl_backOver_Fok (tabD_nil _)))
theorem impl_Whole_over_l2_be (v103 v104 : Int) (v105 : List Int) (v106 : Int) (v107 : List Int) (v178 v179 : Int) (v181 : List (List Int)) (v182 : List Nat) (s : Int × (List Int)) : bodyT TT (tabD impl_Whole_over_tab) (tabM impl_Whole_over_tab) (impl_Whole_over_LO v103 v104 v105 v106 v107) 0 impl_Whole_over_l2_kill impl_Whole_over_l2_nx (bodyOf Try.f64 2) 2 (impl_Whole_over_l2_E v103 v104 v105 v106 v107 v178 v179 v181 v182 s) = (impl_Whole_over_l2_T v106 v178 v179 v181 v182 s).bind fun y => .leaf (outS (impl_Whole_over_l2_E v103 v104 v105 v106 v107 v178 v179 v181 v182) (impl_Whole_over_l2_X v103 v104 v105 v106 v107 v178 v179 v181 v182) y) := by kernel_rfl
theorem impl_Whole_over_l2_ok (v103 v104 : Int) (v105 : List Int) (v106 : Int) (v107 : List Int) : LSound Try.prog 0 (impl_Whole_over_LO v103 v104 v105 v106 v107) 2 (bodyOf Try.f64 2) := by
  intro e L out h
  exact lo_ok (E := impl_Whole_over_l2_E v103 v104 v105 v106 v107 (gI (vAt e 30)) (gI (vAt e 46)) (gPI L (vAt e 9) 0) (gX L (vAt e 9) 0)) (gT := impl_Whole_over_l2_T v106 (gI (vAt e 30)) (gI (vAt e 46)) (gPI L (vAt e 9) 0) (gX L (vAt e 9) 0)) (X := impl_Whole_over_l2_X v103 v104 v105 v106 v107 (gI (vAt e 30)) (gI (vAt e 46)) (gPI L (vAt e 9) 0) (gX L (vAt e 9) 0)) (s0 := ((gI (vAt e 47)), (gRI L (vAt e 13)))) tok impl_Whole_over_hO mixed (LoopsOk_eq (l := []) (by kernel_rfl) trivial) (impl_Whole_over_l2_be v103 v104 v105 v106 v107 (gI (vAt e 30)) (gI (vAt e 46)) (gPI L (vAt e 9) 0) (gX L (vAt e 9) 0)) rfl (by intro x; rfl) h
theorem impl_Whole_over_l0_be (v103 v104 : Int) (v105 : List Int) (v106 : Int) (v107 : List Int) (s : Int × (List (List Int)) × (List Nat)) : bodyT TT (tabD impl_Whole_over_tab) (tabM impl_Whole_over_tab) (impl_Whole_over_LO v103 v104 v105 v106 v107) 0 impl_Whole_over_l0_kill impl_Whole_over_l0_nx (bodyOf Try.f64 0) 0 (impl_Whole_over_l0_E v103 v104 v105 v106 v107 s) = (impl_Whole_over_l0_T v103 v104 v105 v106 v107 s).bind fun y => .leaf (outS (impl_Whole_over_l0_E v103 v104 v105 v106 v107) (impl_Whole_over_l0_X v103 v104 v105 v106 v107) y) := by kernel_rfl
theorem impl_Whole_over_l0_ok (v103 v104 : Int) (v105 : List Int) (v106 : Int) (v107 : List Int) : LSound Try.prog 0 (impl_Whole_over_LO v103 v104 v105 v106 v107) 0 (bodyOf Try.f64 0) := by
  intro e L out h
  exact lo_ok (E := impl_Whole_over_l0_E v103 v104 v105 v106 v107) (gT := impl_Whole_over_l0_T v103 v104 v105 v106 v107) (X := impl_Whole_over_l0_X v103 v104 v105 v106 v107) (s0 := ((gI (vAt e 30)), (gPI L (vAt e 9) 0), (gX L (vAt e 9) 0))) tok impl_Whole_over_hO mixed (LoopsOk_eq (l := [(2, bodyOf Try.f64 2)]) (by kernel_rfl) ⟨impl_Whole_over_l2_ok v103 v104 v105 v106 v107, trivial⟩) (impl_Whole_over_l0_be v103 v104 v105 v106 v107) rfl (by intro x; rfl) h
theorem impl_Whole_over_l6_be (v103 v104 : Int) (v105 : List Int) (v106 : Int) (v107 : List Int) (v901 v902 v903 : Int) (v905 : List (List Int)) (v906 : List Nat) (v907 : List Int) (s : Int) : bodyT TT (tabD impl_Whole_over_tab) (tabM impl_Whole_over_tab) (impl_Whole_over_LO v103 v104 v105 v106 v107) 0 impl_Whole_over_l6_kill impl_Whole_over_l6_nx (bodyOf Try.f64 6) 6 (impl_Whole_over_l6_E v103 v104 v105 v106 v107 v901 v902 v903 v905 v906 v907 s) = (impl_Whole_over_l6_T v901 v902 v903 v905 v906 v907 s).bind fun y => .leaf (outS (impl_Whole_over_l6_E v103 v104 v105 v106 v107 v901 v902 v903 v905 v906 v907) (impl_Whole_over_l6_X v103 v104 v105 v106 v107 v901 v902 v903 v905 v906 v907) y) := by kernel_rfl
theorem impl_Whole_over_l6_ok (v103 v104 : Int) (v105 : List Int) (v106 : Int) (v107 : List Int) : LSound Try.prog 0 (impl_Whole_over_LO v103 v104 v105 v106 v107) 6 (bodyOf Try.f64 6) := by
  intro e L out h
  exact lo_ok (E := impl_Whole_over_l6_E v103 v104 v105 v106 v107 (gI (vAt e 11)) (gI (vAt e 16)) (gI (vAt e 17)) (gPI L (vAt e 9) 0) (gX L (vAt e 9) 0) (gRI L (vAt e 10))) (gT := impl_Whole_over_l6_T (gI (vAt e 11)) (gI (vAt e 16)) (gI (vAt e 17)) (gPI L (vAt e 9) 0) (gX L (vAt e 9) 0) (gRI L (vAt e 10))) (X := impl_Whole_over_l6_X v103 v104 v105 v106 v107 (gI (vAt e 11)) (gI (vAt e 16)) (gI (vAt e 17)) (gPI L (vAt e 9) 0) (gX L (vAt e 9) 0) (gRI L (vAt e 10))) (s0 := (gI (vAt e 18))) tok impl_Whole_over_hO mixed (LoopsOk_eq (l := []) (by kernel_rfl) trivial) (impl_Whole_over_l6_be v103 v104 v105 v106 v107 (gI (vAt e 11)) (gI (vAt e 16)) (gI (vAt e 17)) (gPI L (vAt e 9) 0) (gX L (vAt e 9) 0) (gRI L (vAt e 10))) rfl (by intro x; rfl) h
theorem impl_Whole_over_l8_be (v103 v104 : Int) (v105 : List Int) (v106 : Int) (v107 : List Int) (v929 v930 v931 v932 v933 : Int) (v936 : List Nat) (v937 : List Int) (s : Int × (List (List Int))) : bodyT TT (tabD impl_Whole_over_tab) (tabM impl_Whole_over_tab) (impl_Whole_over_LO v103 v104 v105 v106 v107) 0 impl_Whole_over_l8_kill impl_Whole_over_l8_nx (bodyOf Try.f64 8) 8 (impl_Whole_over_l8_E v103 v104 v105 v106 v107 v929 v930 v931 v932 v933 v936 v937 s) = (impl_Whole_over_l8_T v106 v929 v930 v931 v932 v933 v936 v937 s).bind fun y => .leaf (outS (impl_Whole_over_l8_E v103 v104 v105 v106 v107 v929 v930 v931 v932 v933 v936 v937) (impl_Whole_over_l8_X v103 v104 v105 v106 v107 v929 v930 v931 v932 v933 v936 v937) y) := by kernel_rfl
theorem impl_Whole_over_l8_ok (v103 v104 : Int) (v105 : List Int) (v106 : Int) (v107 : List Int) : LSound Try.prog 0 (impl_Whole_over_LO v103 v104 v105 v106 v107) 8 (bodyOf Try.f64 8) := by
  intro e L out h
  exact lo_ok (E := impl_Whole_over_l8_E v103 v104 v105 v106 v107 (gI (vAt e 11)) (gI (vAt e 16)) (gI (vAt e 17)) (gI (vAt e 20)) (gI (vAt e 132)) (gX L (vAt e 9) 0) (gRI L (vAt e 10))) (gT := impl_Whole_over_l8_T v106 (gI (vAt e 11)) (gI (vAt e 16)) (gI (vAt e 17)) (gI (vAt e 20)) (gI (vAt e 132)) (gX L (vAt e 9) 0) (gRI L (vAt e 10))) (X := impl_Whole_over_l8_X v103 v104 v105 v106 v107 (gI (vAt e 11)) (gI (vAt e 16)) (gI (vAt e 17)) (gI (vAt e 20)) (gI (vAt e 132)) (gX L (vAt e 9) 0) (gRI L (vAt e 10))) (s0 := ((gI (vAt e 133)), (gPI L (vAt e 9) 0))) tok impl_Whole_over_hO mixed (LoopsOk_eq (l := []) (by kernel_rfl) trivial) (impl_Whole_over_l8_be v103 v104 v105 v106 v107 (gI (vAt e 11)) (gI (vAt e 16)) (gI (vAt e 17)) (gI (vAt e 20)) (gI (vAt e 132)) (gX L (vAt e 9) 0) (gRI L (vAt e 10))) rfl (by intro x; rfl) h
theorem impl_Whole_over_l12_be (v103 v104 : Int) (v105 : List Int) (v106 : Int) (v107 : List Int) (v1069 v1070 v1071 : Int) (v1072 : Nat) (v1073 v1074 v1075 v1076 : Int) (v1079 : List Nat) (v1080 : List Int) (s : Int × (List (List Int))) : bodyT TT (tabD impl_Whole_over_tab) (tabM impl_Whole_over_tab) (impl_Whole_over_LO v103 v104 v105 v106 v107) 0 impl_Whole_over_l12_kill impl_Whole_over_l12_nx (bodyOf Try.f64 12) 12 (impl_Whole_over_l12_E v103 v104 v105 v106 v107 v1069 v1070 v1071 v1072 v1073 v1074 v1075 v1076 v1079 v1080 s) = (impl_Whole_over_l12_T v106 v1069 v1070 v1071 v1072 v1073 v1074 v1075 v1076 v1079 v1080 s).bind fun y => .leaf (outS (impl_Whole_over_l12_E v103 v104 v105 v106 v107 v1069 v1070 v1071 v1072 v1073 v1074 v1075 v1076 v1079 v1080) (impl_Whole_over_l12_X v103 v104 v105 v106 v107 v1069 v1070 v1071 v1072 v1073 v1074 v1075 v1076 v1079 v1080) y) := by kernel_rfl
theorem impl_Whole_over_l12_ok (v103 v104 : Int) (v105 : List Int) (v106 : Int) (v107 : List Int) : LSound Try.prog 0 (impl_Whole_over_LO v103 v104 v105 v106 v107) 12 (bodyOf Try.f64 12) := by
  intro e L out h
  exact lo_ok (E := impl_Whole_over_l12_E v103 v104 v105 v106 v107 (gI (vAt e 11)) (gI (vAt e 16)) (gI (vAt e 17)) (gK (vAt e 23)) (gI (vAt e 24)) (gI (vAt e 155)) (gI (vAt e 156)) (gI (vAt e 173)) (gX L (vAt e 9) 0) (gRI L (vAt e 10))) (gT := impl_Whole_over_l12_T v106 (gI (vAt e 11)) (gI (vAt e 16)) (gI (vAt e 17)) (gK (vAt e 23)) (gI (vAt e 24)) (gI (vAt e 155)) (gI (vAt e 156)) (gI (vAt e 173)) (gX L (vAt e 9) 0) (gRI L (vAt e 10))) (X := impl_Whole_over_l12_X v103 v104 v105 v106 v107 (gI (vAt e 11)) (gI (vAt e 16)) (gI (vAt e 17)) (gK (vAt e 23)) (gI (vAt e 24)) (gI (vAt e 155)) (gI (vAt e 156)) (gI (vAt e 173)) (gX L (vAt e 9) 0) (gRI L (vAt e 10))) (s0 := ((gI (vAt e 174)), (gPI L (vAt e 9) 0))) tok impl_Whole_over_hO mixed (LoopsOk_eq (l := []) (by kernel_rfl) trivial) (impl_Whole_over_l12_be v103 v104 v105 v106 v107 (gI (vAt e 11)) (gI (vAt e 16)) (gI (vAt e 17)) (gK (vAt e 23)) (gI (vAt e 24)) (gI (vAt e 155)) (gI (vAt e 156)) (gI (vAt e 173)) (gX L (vAt e 9) 0) (gRI L (vAt e 10))) rfl (by intro x; rfl) h
theorem impl_Whole_over_l10_be (v103 v104 : Int) (v105 : List Int) (v106 : Int) (v107 : List Int) (v1035 v1036 v1037 v1038 : Int) (v1041 : List Nat) (v1042 : List Int) (s : Int × (List (List Int))) : bodyT TT (tabD impl_Whole_over_tab) (tabM impl_Whole_over_tab) (impl_Whole_over_LO v103 v104 v105 v106 v107) 0 impl_Whole_over_l10_kill impl_Whole_over_l10_nx (bodyOf Try.f64 10) 10 (impl_Whole_over_l10_E v103 v104 v105 v106 v107 v1035 v1036 v1037 v1038 v1041 v1042 s) = (impl_Whole_over_l10_T v103 v104 v105 v106 v107 v1035 v1036 v1037 v1038 v1041 v1042 s).bind fun y => .leaf (outS (impl_Whole_over_l10_E v103 v104 v105 v106 v107 v1035 v1036 v1037 v1038 v1041 v1042) (impl_Whole_over_l10_X v103 v104 v105 v106 v107 v1035 v1036 v1037 v1038 v1041 v1042) y) := by kernel_rfl
theorem impl_Whole_over_l10_ok (v103 v104 : Int) (v105 : List Int) (v106 : Int) (v107 : List Int) : LSound Try.prog 0 (impl_Whole_over_LO v103 v104 v105 v106 v107) 10 (bodyOf Try.f64 10) := by
  intro e L out h
  exact lo_ok (E := impl_Whole_over_l10_E v103 v104 v105 v106 v107 (gI (vAt e 11)) (gI (vAt e 16)) (gI (vAt e 17)) (gI (vAt e 155)) (gX L (vAt e 9) 0) (gRI L (vAt e 10))) (gT := impl_Whole_over_l10_T v103 v104 v105 v106 v107 (gI (vAt e 11)) (gI (vAt e 16)) (gI (vAt e 17)) (gI (vAt e 155)) (gX L (vAt e 9) 0) (gRI L (vAt e 10))) (X := impl_Whole_over_l10_X v103 v104 v105 v106 v107 (gI (vAt e 11)) (gI (vAt e 16)) (gI (vAt e 17)) (gI (vAt e 155)) (gX L (vAt e 9) 0) (gRI L (vAt e 10))) (s0 := ((gI (vAt e 156)), (gPI L (vAt e 9) 0))) tok impl_Whole_over_hO mixed (LoopsOk_eq (l := [(12, bodyOf Try.f64 12)]) (by kernel_rfl) ⟨impl_Whole_over_l12_ok v103 v104 v105 v106 v107, trivial⟩) (impl_Whole_over_l10_be v103 v104 v105 v106 v107 (gI (vAt e 11)) (gI (vAt e 16)) (gI (vAt e 17)) (gI (vAt e 155)) (gX L (vAt e 9) 0) (gRI L (vAt e 10))) rfl (by intro x; rfl) h
theorem impl_Whole_over_l4_be (v103 v104 : Int) (v105 : List Int) (v106 : Int) (v107 : List Int) (s : Int × Int × (List (List Int)) × (List Nat) × (List Int)) : bodyT TT (tabD impl_Whole_over_tab) (tabM impl_Whole_over_tab) (impl_Whole_over_LO v103 v104 v105 v106 v107) 0 impl_Whole_over_l4_kill impl_Whole_over_l4_nx (bodyOf Try.f64 4) 4 (impl_Whole_over_l4_E v103 v104 v105 v106 v107 s) = (impl_Whole_over_l4_T v103 v104 v105 v106 v107 s).bind fun y => .leaf (outS (impl_Whole_over_l4_E v103 v104 v105 v106 v107) (impl_Whole_over_l4_X v103 v104 v105 v106 v107) y) := by kernel_rfl
theorem impl_Whole_over_l4_ok (v103 v104 : Int) (v105 : List Int) (v106 : Int) (v107 : List Int) : LSound Try.prog 0 (impl_Whole_over_LO v103 v104 v105 v106 v107) 4 (bodyOf Try.f64 4) := by
  intro e L out h
  exact lo_ok (E := impl_Whole_over_l4_E v103 v104 v105 v106 v107) (gT := impl_Whole_over_l4_T v103 v104 v105 v106 v107) (X := impl_Whole_over_l4_X v103 v104 v105 v106 v107) (s0 := ((gI (vAt e 11)), (gI (vAt e 66)), (gPI L (vAt e 9) 0), (gX L (vAt e 9) 0), (gRI L (vAt e 10)))) tok impl_Whole_over_hO mixed (LoopsOk_eq (l := [(6, bodyOf Try.f64 6), (8, bodyOf Try.f64 8), (10, bodyOf Try.f64 10)]) (by kernel_rfl) ⟨impl_Whole_over_l6_ok v103 v104 v105 v106 v107, impl_Whole_over_l8_ok v103 v104 v105 v106 v107, impl_Whole_over_l10_ok v103 v104 v105 v106 v107, trivial⟩) (impl_Whole_over_l4_be v103 v104 v105 v106 v107) rfl (by intro x; rfl) h
noncomputable def impl_Whole_over_T (v103 v104 : Int) (v105 : List Int) (v106 : Int) (v107 : List Int) : Tree (Int × (List (List Int)) × (List Nat) × (List Int)) :=
  (.need (some (impl_Whole_over_l0_E v103 v104 v105 v106 v107 ((0 : Int), ([] : List (List Int)), ([] : List Nat))) = some (impl_Whole_over_l0_E v103 v104 v105 v106 v107 ((0 : Int), ([] : List (List Int)), ([] : List Nat)))) <|
  (.call (impl_Whole_over_l0_g v103 v104 v105 v106 v107 ((0 : Int), ([] : List (List Int)), ([] : List Nat))) fun v186 =>
  (.need (some (impl_Whole_over_l4_E v103 v104 v105 v106 v107 ((1 : Int), (0 : Int), v186.1, v186.2, ([] : List Int))) = some (impl_Whole_over_l4_E v103 v104 v105 v106 v107 ((1 : Int), (0 : Int), v186.1, v186.2, ([] : List Int)))) <|
  (.call (impl_Whole_over_l4_g v103 v104 v105 v106 v107 ((1 : Int), (0 : Int), v186.1, v186.2, ([] : List Int))) fun v1258 =>
  .leaf (v1258.1, v1258.2.1, v1258.2.2.1, v1258.2.2.2)))))

noncomputable def impl_Whole_over_g (v103 v104 : Int) (v105 : List Int) (v106 : Int) (v107 : List Int) : Option (Int × (List (List Int)) × (List Nat) × (List Int)) := (impl_Whole_over_T v103 v104 v105 v106 v107).run
def impl_Whole_over_enc (v103 v104 : Int) (v105 : List Int) (v106 : Int) (v107 : List Int) (y : Int × (List (List Int)) × (List Nat) × (List Int)) : Rs := (.tup [.nest 0 0 1 ((y.2.2.1).length), .own 1 0 ((y.2.2.2).length), .int .i64 y.1], [.nest [.sl (.i64 y.2.1) y.2.2.1] false 0, .row (.i64 y.2.2.2) 0])
theorem impl_Whole_over_den (v103 v104 : Int) (v105 : List Int) (v106 : Int) (v107 : List Int) : (den TT (tabD impl_Whole_over_tab) (tabM impl_Whole_over_tab) (impl_Whole_over_LO v103 v104 v105 v106 v107) (codeOf Try.f64) ([.agg [.int .i64 v103, .int .i64 v104, .bslc (BR.root 0) (.i64 v105)], .int .i64 v106, .bslc (BR.root 1) (.i64 v107)] ++ List.replicate (Try.f64.ntmps - ([.agg [.int .i64 v103, .int .i64 v104, .bslc (BR.root 0) (.i64 v105)], .int .i64 v106, .bslc (BR.root 1) (.i64 v107)] : List DV).length) .undef) []).bind (retD TT Try.f64.results.toList 0) = (impl_Whole_over_T v103 v104 v105 v106 v107).bind fun y => .leaf (impl_Whole_over_enc v103 v104 v105 v106 v107 y) := by kernel_rfl
theorem impl_Whole_over_fn (v103 v104 : Int) (v105 : List Int) (v106 : Int) (v107 : List Int) (F : Fr) (h0 : St F [] F.H0) (hA : DVs.Ok F [] [.agg [.int .i64 v103, .int .i64 v104, .bslc (BR.root 0) (.i64 v105)], .int .i64 v106, .bslc (BR.root 1) (.i64 v107)]) {y : Int × (List (List Int)) × (List Nat) × (List Int)} (hy : impl_Whole_over_g v103 v104 v105 v106 v107 = some y) : ∃ F' H', Fwd 0 F F' [] (impl_Whole_over_enc v103 v104 v105 v106 v107 y).2 ∧ FnOk Try.prog 64 (DVs.av F [.agg [.int .i64 v103, .int .i64 v104, .bslc (BR.root 0) (.i64 v105)], .int .i64 v106, .bslc (BR.root 1) (.i64 v107)]) F.H0 ((impl_Whole_over_enc v103 v104 v105 v106 v107 y).1.av F') H' ∧ St F' (impl_Whole_over_enc v103 v104 v105 v106 v107 y).2 H' ∧ (impl_Whole_over_enc v103 v104 v105 v106 v107 y).1.Ok F' (impl_Whole_over_enc v103 v104 v105 v106 v107 y).2 :=
  fn_fin tok impl_Whole_over_hO mixed Try.func64 Try.call64 (by kernel_rfl) (LoopsOk_eq (l := [(0, bodyOf Try.f64 0), (4, bodyOf Try.f64 4)]) (by kernel_rfl) ⟨impl_Whole_over_l0_ok v103 v104 v105 v106 v107, impl_Whole_over_l4_ok v103 v104 v105 v106 v107, trivial⟩) (impl_Whole_over_den v103 v104 v105 v106 v107) hy h0 hA
noncomputable def impl_Whole_over_F : DFn := fun args L =>
  match args with
  | [.agg [.int .i64 v103, .int .i64 v104, a1], .int .i64 v106, a2] =>
    optT (rowI64 L a1) fun v105 =>
    optT (rowI64 L a2) fun v107 =>
    .call (impl_Whole_over_g v103 v104 v105 v106 v107) fun y => .leaf (.tup [.nest (L.length + 0) 0 1 ((y.2.2.1).length), .own (L.length + 1) 0 ((y.2.2.2).length), .int .i64 y.1], L ++ [.nest [.sl (.i64 y.2.1) y.2.2.1] false 0, .row (.i64 y.2.2.2) 0])
  | _ => .fail
theorem impl_Whole_over_Fok : COk Try.prog 64 impl_Whole_over_F true := by
  intro F L H args r L' hs ha hr
  unfold impl_Whole_over_F at hr
  split at hr
  · rename_i v103 v104 a1 v106 a2
    obtain ⟨v105, hv105, hr⟩ := optT_run hr
    obtain ⟨v107, hv107, hr⟩ := optT_run hr
    simp only [Tree.run] at hr
    obtain ⟨y, hy, hr⟩ := Option.bind_eq_some_iff.1 hr
    simp only [Tree.run, Option.some.injEq, Prod.mk.injEq] at hr
    obtain ⟨rfl, rfl⟩ := hr
    exact call_ok1 hs (fun k => (([a1.av F, a2.av F] : List AV)[k]?).getD .top) [.agg [.int .i64 v103, .int .i64 v104, a1], .int .i64 v106, a2] [.agg [.int .i64 v103, .int .i64 v104, .bslc (BR.root 0) (.i64 v105)], .int .i64 v106, .bslc (BR.root 1) (.i64 v107)] (fun F' h0 hi hρ => ⟨by simp [DVs.av, DV.av, BR.av, hρ], impl_Whole_over_fn v103 v104 v105 v106 v107 F' (st_nil hi) ⟨⟨trivial, trivial, bslc_ok hi (by rw [h0, hρ]; exact rowI64_ok hs (DVs.okAt (DVs.okAt ha 0 rfl) 2 rfl) hv105), trivial⟩, trivial, bslc_ok hi (by rw [h0, hρ]; exact rowI64_ok hs (DVs.okAt ha 2 rfl) hv107), trivial⟩ hy⟩) rfl rfl
  · cases hr
/-! (impl.Whole).over -/
noncomputable def impl_Whole_over_i1_l2_T (v1262 v1325 v1326 : Int) (v1328 : List (List Int)) (v1329 : List Nat) (s : Int × (List Int)) : Tree ((Int × (List Int)) ⊕ ((List Int))) :=
  (.br (decide (s.1 < v1326)) (
  (.grd (inb s.1 ((s.2).length)) <|
  (.call (impl_rest_g (nth s.2 (Int.toNat s.1)) v1262) fun v1331 =>
  (.grd (inb s.1 ((s.2).length)) <|
  .leaf (.inl (IntKind.i64.wrap (s.1 + (1 : Int)), List.set s.2 (Int.toNat s.1) v1331)))))
  ) (
  .leaf (.inr s.2)
  ))

noncomputable def impl_Whole_over_i1_l2_g (v1262 v1325 v1326 : Int) (v1328 : List (List Int)) (v1329 : List Nat) (s0 : Int × (List Int)) : Option ((List Int)) := whileM (fun s => (impl_Whole_over_i1_l2_T v1262 v1325 v1326 v1328 v1329 s).run) s0
def impl_Whole_over_i1_l2_E (v1259 v1260 : Int) (v1261 : List Int) (v1262 v1325 v1326 : Int) (v1328 : List (List Int)) (v1329 : List Nat) (s : Int × (List Int)) : Sd := ([Z,.int .i64 v1262,.nilslc,.ptr 0 (0 : Nat) 0 (3 : Nat),Z,Z,Z,Z,Z,.nest 1 0 1 ((v1329).length),.own 2 0 ((([] : List Int)).length),.int .i64 (1 : Int),Z,.own 3 0 ((s.2).length),Z,Z,Z,Z,Z,Z,Z,Z,Z,Z,Z,Z,Z,Z,Z,.int .i64 v1259,.int .i64 v1325,Z,Z,Z,Z,Z,Z,Z,Z,Z,Z,Z,Z,Z,Z,.own 3 0 ((s.2).length),.int .i64 v1326,.int .i64 s.1,Z,Z,Z,Z,Z,Z,Z,Z,Z,Z,Z,Z,Z,Z,Z,Z,Z,Z,Z,Z,Z,Z,Z,Z,Z,Z,Z,Z,Z,Z,Z,Z,Z,Z,Z,Z,Z,Z,Z,Z,Z,Z,Z,Z,Z,Z,Z,Z,Z,Z,Z,Z,Z,Z,Z,Z,Z,Z,Z,Z,Z,Z,Z,Z,Z,Z,Z,Z,Z,Z,Z,Z,Z,Z,Z,Z,Z,Z,Z,Z,Z,Z,Z,Z,Z,Z,Z,Z,Z,Z,Z,Z,Z,Z,Z,Z,Z,Z,Z,Z,Z,Z,Z,Z,Z,Z,Z,Z,Z,Z,Z,Z,Z,Z,Z,Z,Z,Z,Z,Z,Z,Z,Z,Z,Z,Z,Z,Z,Z,Z,Z,Z,Z,Z,Z,Z,Z,Z,Z,Z,Z,Z,Z,Z,Z,Z,Z,Z,Z,Z,Z,Z,Z,Z,Z,Z,Z,Z], [.gen [.int .i64 v1259, .int .i64 v1260, .bslc (BR.root 0) (.i64 v1261)] false 0, .nest [.sl (.i64 v1328) v1329] false 0, .row (.i64 ([] : List Int)) 0, .row (.i64 s.2) 0])
def impl_Whole_over_i1_l2_X (v1259 v1260 : Int) (v1261 : List Int) (v1262 v1325 v1326 : Int) (v1328 : List (List Int)) (v1329 : List Nat) (x : (List Int)) : Out := (.normal, [Z,.int .i64 v1262,.nilslc,.ptr 0 (0 : Nat) 0 (3 : Nat),Z,Z,Z,Z,Z,.nest 1 0 1 ((v1329).length),.own 2 0 ((([] : List Int)).length),.int .i64 (1 : Int),Z,.own 3 0 ((x).length),Z,Z,Z,Z,Z,Z,Z,Z,Z,Z,Z,Z,Z,Z,Z,.int .i64 v1259,.int .i64 v1325,Z,Z,Z,Z,Z,Z,Z,Z,Z,Z,Z,Z,Z,Z,Z,Z,Z,Z,Z,Z,Z,Z,Z,Z,Z,Z,Z,Z,Z,Z,Z,Z,Z,Z,Z,Z,Z,Z,Z,Z,Z,Z,Z,Z,Z,Z,Z,Z,Z,Z,Z,Z,Z,Z,Z,Z,Z,Z,Z,Z,Z,Z,Z,Z,Z,Z,Z,Z,Z,Z,Z,Z,Z,Z,Z,Z,Z,Z,Z,Z,Z,Z,Z,Z,Z,Z,Z,Z,Z,Z,Z,Z,Z,Z,Z,Z,Z,Z,Z,Z,Z,Z,Z,Z,Z,Z,Z,Z,Z,Z,Z,Z,Z,Z,Z,Z,Z,Z,Z,Z,Z,Z,Z,Z,Z,Z,Z,Z,Z,Z,Z,Z,Z,Z,Z,Z,Z,Z,Z,Z,Z,Z,Z,Z,Z,Z,Z,Z,Z,Z,Z,Z,Z,Z,Z,Z,Z,Z,Z,Z,Z,Z,Z,Z,Z,Z,Z,Z,Z,Z,Z,Z,Z,Z,Z], [.gen [.int .i64 v1259, .int .i64 v1260, .bslc (BR.root 0) (.i64 v1261)] false 0, .nest [.sl (.i64 v1328) v1329] false 0, .row (.i64 ([] : List Int)) 0, .row (.i64 x) 0])
def impl_Whole_over_i1_l2_kill : List Nat := KL true [1,3,5,3,1,1,15,2,14,3,158]
def impl_Whole_over_i1_l2_nx : Exit → List Nat
  | .exit 0 => KL true [1,1,1,1,5,3,194]
  | .exit 1 => KL true [1,3,5,3,17,2,175]
  | .exit 2 => KL true [1,3,5,3,1,1,15,2,175]
  | .ret => KL true [6,3,197]
  | _ => []
noncomputable def impl_Whole_over_i1_l0_T (v1259 v1260 : Int) (v1261 : List Int) (v1262 : Int) (s : Int × (List (List Int)) × (List Nat)) : Tree ((Int × (List (List Int)) × (List Nat)) ⊕ ((List (List Int)) × (List Nat))) :=
  (.br (decide (s.1 < v1259)) (
  (.call (impl_Whole_row_g v1260 v1261 s.1) fun v1310 =>
  (.need (some (impl_Whole_over_i1_l2_E v1259 v1260 v1261 v1262 s.1 (((([] : List Int) ++ (AM.sub v1261 (IntKind.i64.wrap (s.1 * v1260)) (IntKind.i64.wrap ((IntKind.i64.wrap (s.1 + (1 : Int))) * v1260)))).length : Nat) : Int) s.2.1 s.2.2 ((0 : Int), ([] : List Int) ++ (AM.sub v1261 (IntKind.i64.wrap (s.1 * v1260)) (IntKind.i64.wrap ((IntKind.i64.wrap (s.1 + (1 : Int))) * v1260))))) = some (impl_Whole_over_i1_l2_E v1259 v1260 v1261 v1262 s.1 (((([] : List Int) ++ (AM.sub v1261 (IntKind.i64.wrap (s.1 * v1260)) (IntKind.i64.wrap ((IntKind.i64.wrap (s.1 + (1 : Int))) * v1260)))).length : Nat) : Int) s.2.1 s.2.2 ((0 : Int), ([] : List Int) ++ (AM.sub v1261 (IntKind.i64.wrap (s.1 * v1260)) (IntKind.i64.wrap ((IntKind.i64.wrap (s.1 + (1 : Int))) * v1260)))))) <|
  (.call (impl_Whole_over_i1_l2_g v1262 s.1 (((([] : List Int) ++ (AM.sub v1261 (IntKind.i64.wrap (s.1 * v1260)) (IntKind.i64.wrap ((IntKind.i64.wrap (s.1 + (1 : Int))) * v1260)))).length : Nat) : Int) s.2.1 s.2.2 ((0 : Int), ([] : List Int) ++ (AM.sub v1261 (IntKind.i64.wrap (s.1 * v1260)) (IntKind.i64.wrap ((IntKind.i64.wrap (s.1 + (1 : Int))) * v1260))))) fun v1332 =>
  (.grd (fits (((s.2.2).length) + (1 : Nat))) <|
  .leaf (.inl (IntKind.i64.wrap (s.1 + (1 : Int)), s.2.1 ++ ([v1332] : List (List Int)), s.2.2 ++ [s.2.1.length + 1]))))))
  ) (
  .leaf (.inr (s.2.1, s.2.2))
  ))

noncomputable def impl_Whole_over_i1_l0_g (v1259 v1260 : Int) (v1261 : List Int) (v1262 : Int) (s0 : Int × (List (List Int)) × (List Nat)) : Option ((List (List Int)) × (List Nat)) := whileM (fun s => (impl_Whole_over_i1_l0_T v1259 v1260 v1261 v1262 s).run) s0
def impl_Whole_over_i1_l0_E (v1259 v1260 : Int) (v1261 : List Int) (v1262 : Int) (s : Int × (List (List Int)) × (List Nat)) : Sd := ([Z,.int .i64 v1262,.nilslc,.ptr 0 (0 : Nat) 0 (3 : Nat),Z,Z,Z,Z,Z,.nest 1 0 1 ((s.2.2).length),.own 2 0 ((([] : List Int)).length),.int .i64 (1 : Int),Z,Z,Z,Z,Z,Z,Z,Z,Z,Z,Z,Z,Z,Z,Z,Z,Z,.int .i64 v1259,.int .i64 s.1,Z,Z,Z,Z,Z,Z,Z,Z,Z,Z,Z,Z,Z,Z,Z,Z,Z,Z,Z,Z,Z,Z,Z,Z,Z,Z,Z,Z,Z,Z,Z,Z,Z,Z,Z,Z,Z,Z,Z,Z,Z,Z,Z,Z,Z,Z,Z,Z,Z,Z,Z,Z,Z,Z,Z,Z,Z,Z,Z,Z,Z,Z,Z,Z,Z,Z,Z,Z,Z,Z,Z,Z,Z,Z,Z,Z,Z,Z,Z,Z,Z,Z,Z,Z,Z,Z,Z,Z,Z,Z,Z,Z,Z,Z,Z,Z,Z,Z,Z,Z,Z,Z,Z,Z,Z,Z,Z,Z,Z,Z,Z,Z,Z,Z,Z,Z,Z,Z,Z,Z,Z,Z,Z,Z,Z,Z,Z,Z,Z,Z,Z,Z,Z,Z,Z,Z,Z,Z,Z,Z,Z,Z,Z,Z,Z,Z,Z,Z,Z,Z,Z,Z,Z,Z,Z,Z,Z,Z,Z,Z,Z,Z,Z,Z,Z,Z,Z,Z,Z,Z,Z,Z,Z,Z,Z], [.gen [.int .i64 v1259, .int .i64 v1260, .bslc (BR.root 0) (.i64 v1261)] false 0, .nest [.sl (.i64 s.2.1) s.2.2] false 0, .row (.i64 ([] : List Int)) 0])
def impl_Whole_over_i1_l0_X (v1259 v1260 : Int) (v1261 : List Int) (v1262 : Int) (x : (List (List Int)) × (List Nat)) : Out := (.normal, [Z,.int .i64 v1262,Z,.ptr 0 (0 : Nat) 0 (3 : Nat),Z,Z,Z,Z,Z,.nest 1 0 1 ((x.2).length),.own 2 0 ((([] : List Int)).length),.int .i64 (1 : Int),Z,Z,Z,Z,Z,Z,Z,Z,Z,Z,Z,Z,Z,Z,Z,Z,Z,Z,Z,Z,Z,Z,Z,Z,Z,Z,Z,Z,Z,Z,Z,Z,Z,Z,Z,Z,Z,Z,Z,Z,Z,Z,Z,Z,Z,Z,Z,Z,Z,Z,Z,Z,Z,Z,Z,Z,Z,Z,Z,Z,Z,Z,Z,Z,Z,Z,Z,Z,Z,Z,Z,Z,Z,Z,Z,Z,Z,Z,Z,Z,Z,Z,Z,Z,Z,Z,Z,Z,Z,Z,Z,Z,Z,Z,Z,Z,Z,Z,Z,Z,Z,Z,Z,Z,Z,Z,Z,Z,Z,Z,Z,Z,Z,Z,Z,Z,Z,Z,Z,Z,Z,Z,Z,Z,Z,Z,Z,Z,Z,Z,Z,Z,Z,Z,Z,Z,Z,Z,Z,Z,Z,Z,Z,Z,Z,Z,Z,Z,Z,Z,Z,Z,Z,Z,Z,Z,Z,Z,Z,Z,Z,Z,Z,Z,Z,Z,Z,Z,Z,Z,Z,Z,Z,Z,Z,Z,Z,Z,Z,Z,Z,Z,Z,Z,Z,Z,Z,Z,Z,Z,Z,Z,Z,Z], [.gen [.int .i64 v1259, .int .i64 v1260, .bslc (BR.root 0) (.i64 v1261)] false 0, .nest [.sl (.i64 x.1) x.2] false 0, .row (.i64 ([] : List Int)) 0])
def impl_Whole_over_i1_l0_kill : List Nat := KL true [1,3,5,3,17,2,175]
def impl_Whole_over_i1_l0_nx : Exit → List Nat
  | .exit 0 => KL true [1,1,1,1,5,3,194]
  | .ret => KL true [6,3,197]
  | _ => []
noncomputable def impl_Whole_over_i1_l6_T (v2038 v2039 v2040 : Int) (v2042 : List (List Int)) (v2043 : List Nat) (v2044 : List Int) (s : Int) : Tree ((Int) ⊕ (Int)) :=
  (.br (decide (s < (((v2043).length : Nat) : Int))) (
  (.grd (inb s ((v2043).length)) <|
  (.grd (inb v2039 ((nget v2042 (nth v2043 (Int.toNat s))).length)) <|
  (.br (decide (nth (nget v2042 (nth v2043 (Int.toNat s))) (Int.toNat v2039) = (0 : Int))) (
  .leaf (.inl (IntKind.i64.wrap (s + (1 : Int))))
  ) (
  .leaf (.inr s)
  ))))
  ) (
  .leaf (.inr s)
  ))

noncomputable def impl_Whole_over_i1_l6_g (v2038 v2039 v2040 : Int) (v2042 : List (List Int)) (v2043 : List Nat) (v2044 : List Int) (s0 : Int) : Option (Int) := whileM (fun s => (impl_Whole_over_i1_l6_T v2038 v2039 v2040 v2042 v2043 v2044 s).run) s0
def impl_Whole_over_i1_l6_E (v1259 v1260 : Int) (v1261 : List Int) (v1262 v2038 v2039 v2040 : Int) (v2042 : List (List Int)) (v2043 : List Nat) (v2044 : List Int) (s : Int) : Sd := ([Z,.int .i64 v1262,Z,Z,Z,Z,Z,Z,Z,.nest 0 0 1 ((v2043).length),.own 1 0 ((v2044).length),.int .i64 v2038,Z,Z,Z,Z,.int .i64 v2039,.int .i64 v2040,.int .i64 s,Z,Z,Z,Z,Z,Z,Z,Z,Z,Z,Z,Z,Z,Z,Z,Z,Z,Z,Z,Z,Z,Z,Z,Z,Z,Z,Z,Z,Z,Z,Z,Z,Z,Z,Z,Z,Z,Z,Z,Z,Z,Z,Z,Z,Z,Z,.int .i64 v1260,.int .i64 v2039,Z,Z,Z,Z,Z,Z,Z,Z,Z,Z,Z,Z,Z,Z,Z,Z,Z,Z,Z,Z,Z,Z,Z,Z,Z,Z,Z,Z,Z,Z,Z,Z,Z,Z,Z,Z,Z,Z,Z,Z,Z,Z,Z,Z,Z,Z,Z,Z,Z,Z,Z,Z,Z,Z,Z,Z,Z,Z,Z,Z,Z,Z,Z,Z,Z,Z,Z,Z,Z,Z,Z,Z,Z,Z,Z,Z,Z,Z,Z,Z,Z,Z,Z,Z,Z,Z,Z,Z,Z,Z,Z,Z,Z,Z,Z,Z,Z,Z,Z,Z,Z,Z,Z,Z,Z,Z,Z,Z,Z,Z,Z,Z,Z,Z,Z,Z,Z,Z,Z,Z,Z,Z,Z,Z,Z,Z,Z,Z,Z,Z,Z,Z,Z,Z,Z,Z,Z,Z,Z], [.nest [.sl (.i64 v2042) v2043] false 0, .row (.i64 v2044) 0])
def impl_Whole_over_i1_l6_X (v1259 v1260 : Int) (v1261 : List Int) (v1262 v2038 v2039 v2040 : Int) (v2042 : List (List Int)) (v2043 : List Nat) (v2044 : List Int) (x : Int) : Out := (.normal, [Z,.int .i64 v1262,Z,Z,Z,Z,Z,Z,Z,.nest 0 0 1 ((v2043).length),.own 1 0 ((v2044).length),.int .i64 v2038,Z,Z,Z,Z,.int .i64 v2039,.int .i64 v2040,.int .i64 x,Z,Z,Z,Z,Z,Z,Z,Z,Z,Z,Z,Z,Z,Z,Z,Z,Z,Z,Z,Z,Z,Z,Z,Z,Z,Z,Z,Z,Z,Z,Z,Z,Z,Z,Z,Z,Z,Z,Z,Z,Z,Z,Z,Z,Z,Z,.int .i64 v1260,.int .i64 v2039,Z,Z,Z,Z,Z,Z,Z,Z,Z,Z,Z,Z,Z,Z,Z,Z,Z,Z,Z,Z,Z,Z,Z,Z,Z,Z,Z,Z,Z,Z,Z,Z,Z,Z,Z,Z,Z,Z,Z,Z,Z,Z,Z,Z,Z,Z,Z,Z,Z,Z,Z,Z,Z,Z,Z,Z,Z,Z,Z,Z,Z,Z,Z,Z,Z,Z,Z,Z,Z,Z,Z,Z,Z,Z,Z,Z,Z,Z,Z,Z,Z,Z,Z,Z,Z,Z,Z,Z,Z,Z,Z,Z,Z,Z,Z,Z,Z,Z,Z,Z,Z,Z,Z,Z,Z,Z,Z,Z,Z,Z,Z,Z,Z,Z,Z,Z,Z,Z,Z,Z,Z,Z,Z,Z,Z,Z,Z,Z,Z,Z,Z,Z,Z,Z,Z,Z,Z,Z,Z], [.nest [.sl (.i64 v2042) v2043] false 0, .row (.i64 v2044) 0])
def impl_Whole_over_i1_l6_kill : List Nat := KL true [1,1,7,3,4,3,46,2,139]
def impl_Whole_over_i1_l6_nx : Exit → List Nat
  | .exit 4 => KL true [9,3,194]
  | .exit 5 => KL true [1,1,7,3,53,2,139]
  | .exit 6 => KL true [1,1,7,3,4,3,46,2,139]
  | .ret => KL true [6,3,197]
  | _ => []
noncomputable def impl_Whole_over_i1_l8_T (v1262 v2066 v2067 v2068 v2069 v2070 : Int) (v2073 : List Nat) (v2074 : List Int) (s : Int × (List (List Int))) : Tree ((Int × (List (List Int))) ⊕ ((List (List Int)))) :=
  (.br (decide (s.1 < v2070)) (
  (.grd (inb v2068 ((v2073).length)) <|
  (.grd (inb v2068 ((v2073).length)) <|
  (.grd (inb s.1 ((nget s.2 (nth v2073 (Int.toNat v2068))).length)) <|
  (.grd (!decide (v1262 = 0)) <|
  (.grd (inb s.1 ((nget s.2 (nth v2073 (Int.toNat v2068))).length)) <|
  .leaf (.inl (IntKind.i64.wrap (s.1 + (1 : Int)), List.set s.2 ((nth v2073 (Int.toNat v2068)) - 1) (List.set (nget s.2 (nth v2073 (Int.toNat v2068))) (Int.toNat s.1) (Int.tmod (IntKind.i64.wrap ((nth (nget s.2 (nth v2073 (Int.toNat v2068))) (Int.toNat s.1)) * v2069)) v1262)))))))))
  ) (
  .leaf (.inr s.2)
  ))

noncomputable def impl_Whole_over_i1_l8_g (v1262 v2066 v2067 v2068 v2069 v2070 : Int) (v2073 : List Nat) (v2074 : List Int) (s0 : Int × (List (List Int))) : Option ((List (List Int))) := whileM (fun s => (impl_Whole_over_i1_l8_T v1262 v2066 v2067 v2068 v2069 v2070 v2073 v2074 s).run) s0
def impl_Whole_over_i1_l8_E (v1259 v1260 : Int) (v1261 : List Int) (v1262 v2066 v2067 v2068 v2069 v2070 : Int) (v2073 : List Nat) (v2074 : List Int) (s : Int × (List (List Int))) : Sd := ([Z,.int .i64 v1262,Z,Z,Z,Z,Z,Z,Z,.nest 0 0 1 ((v2073).length),.own 1 0 ((v2074).length),.int .i64 v2066,Z,Z,Z,Z,.int .i64 v2067,.int .i64 v2068,Z,Z,.int .i64 v2069,Z,Z,Z,Z,Z,Z,Z,Z,Z,Z,Z,Z,Z,Z,Z,Z,Z,Z,Z,Z,Z,Z,Z,Z,Z,Z,Z,Z,Z,Z,Z,Z,Z,Z,Z,Z,Z,Z,Z,Z,Z,Z,Z,Z,.int .i64 v1260,.int .i64 v2067,Z,Z,Z,Z,Z,Z,Z,Z,Z,Z,Z,Z,Z,Z,Z,Z,Z,Z,Z,Z,Z,Z,Z,Z,Z,Z,Z,Z,Z,Z,Z,Z,Z,Z,Z,Z,Z,Z,Z,Z,Z,Z,Z,Z,Z,Z,Z,Z,Z,Z,Z,Z,Z,Z,Z,Z,Z,Z,Z,Z,Z,Z,Z,Z,Z,.int .i64 v2070,.int .i64 s.1,Z,Z,Z,Z,Z,Z,Z,Z,Z,Z,Z,Z,Z,Z,Z,Z,Z,Z,Z,Z,Z,Z,Z,Z,Z,Z,Z,Z,Z,Z,Z,Z,Z,Z,Z,Z,Z,Z,Z,Z,Z,Z,Z,Z,Z,Z,Z,Z,Z,Z,Z,Z,Z,Z,Z,Z,Z,Z,Z,Z,Z,Z,Z,Z,Z,Z,Z,Z,Z,Z,Z,Z], [.nest [.sl (.i64 s.2) v2073] false 0, .row (.i64 v2074) 0])
def impl_Whole_over_i1_l8_X (v1259 v1260 : Int) (v1261 : List Int) (v1262 v2066 v2067 v2068 v2069 v2070 : Int) (v2073 : List Nat) (v2074 : List Int) (x : (List (List Int))) : Out := (.normal, [Z,.int .i64 v1262,Z,Z,Z,Z,Z,Z,Z,.nest 0 0 1 ((v2073).length),.own 1 0 ((v2074).length),.int .i64 v2066,Z,Z,Z,Z,.int .i64 v2067,.int .i64 v2068,Z,Z,Z,Z,Z,Z,Z,Z,Z,Z,Z,Z,Z,Z,Z,Z,Z,Z,Z,Z,Z,Z,Z,Z,Z,Z,Z,Z,Z,Z,Z,Z,Z,Z,Z,Z,Z,Z,Z,Z,Z,Z,Z,Z,Z,Z,Z,.int .i64 v1260,.int .i64 v2067,Z,Z,Z,Z,Z,Z,Z,Z,Z,Z,Z,Z,Z,Z,Z,Z,Z,Z,Z,Z,Z,Z,Z,Z,Z,Z,Z,Z,Z,Z,Z,Z,Z,Z,Z,Z,Z,Z,Z,Z,Z,Z,Z,Z,Z,Z,Z,Z,Z,Z,Z,Z,Z,Z,Z,Z,Z,Z,Z,Z,Z,Z,Z,Z,Z,Z,Z,Z,Z,Z,Z,Z,Z,Z,Z,Z,Z,Z,Z,Z,Z,Z,Z,Z,Z,Z,Z,Z,Z,Z,Z,Z,Z,Z,Z,Z,Z,Z,Z,Z,Z,Z,Z,Z,Z,Z,Z,Z,Z,Z,Z,Z,Z,Z,Z,Z,Z,Z,Z,Z,Z,Z,Z,Z,Z,Z,Z,Z,Z,Z,Z,Z,Z,Z,Z,Z,Z,Z,Z], [.nest [.sl (.i64 x) v2073] false 0, .row (.i64 v2074) 0])
def impl_Whole_over_i1_l8_kill : List Nat := KL true [1,1,7,3,4,2,2,1,44,2,65,2,72]
def impl_Whole_over_i1_l8_nx : Exit → List Nat
  | .exit 4 => KL true [9,3,194]
  | .exit 5 => KL true [1,1,7,3,53,2,139]
  | .exit 8 => KL true [1,1,7,3,4,2,47,2,139]
  | .ret => KL true [6,3,197]
  | _ => []
noncomputable def impl_Whole_over_i1_l12_T (v1262 v2206 v2207 v2208 : Int) (v2209 : Nat) (v2210 v2211 v2212 v2213 : Int) (v2216 : List Nat) (v2217 : List Int) (s : Int × (List (List Int))) : Tree ((Int × (List (List Int))) ⊕ ((List (List Int)))) :=
  (.br (decide (s.1 < v2213)) (
  (.grd (inb s.1 ((nget s.2 v2209).length)) <|
  (.grd (inb v2208 ((v2216).length)) <|
  (.grd (inb s.1 ((nget s.2 (nth v2216 (Int.toNat v2208))).length)) <|
  (.call (impl_rest_g (IntKind.i64.wrap ((nth (nget s.2 v2209) (Int.toNat s.1)) - (IntKind.i64.wrap (v2210 * (nth (nget s.2 (nth v2216 (Int.toNat v2208))) (Int.toNat s.1)))))) v1262) fun v2218 =>
  (.grd (inb s.1 ((nget s.2 v2209).length)) <|
  .leaf (.inl (IntKind.i64.wrap (s.1 + (1 : Int)), List.set s.2 (v2209 - 1) (List.set (nget s.2 v2209) (Int.toNat s.1) v2218))))))))
  ) (
  .leaf (.inr s.2)
  ))

noncomputable def impl_Whole_over_i1_l12_g (v1262 v2206 v2207 v2208 : Int) (v2209 : Nat) (v2210 v2211 v2212 v2213 : Int) (v2216 : List Nat) (v2217 : List Int) (s0 : Int × (List (List Int))) : Option ((List (List Int))) := whileM (fun s => (impl_Whole_over_i1_l12_T v1262 v2206 v2207 v2208 v2209 v2210 v2211 v2212 v2213 v2216 v2217 s).run) s0
def impl_Whole_over_i1_l12_E (v1259 v1260 : Int) (v1261 : List Int) (v1262 v2206 v2207 v2208 : Int) (v2209 : Nat) (v2210 v2211 v2212 v2213 : Int) (v2216 : List Nat) (v2217 : List Int) (s : Int × (List (List Int))) : Sd := ([Z,.int .i64 v1262,Z,Z,Z,Z,Z,Z,Z,.nest 0 0 1 ((v2216).length),.own 1 0 ((v2217).length),.int .i64 v2206,Z,Z,Z,Z,.int .i64 v2207,.int .i64 v2208,Z,Z,Z,Z,Z,.inn 0 0 v2209 ((nget s.2 v2209).length),.int .i64 v2210,Z,Z,Z,Z,Z,Z,Z,Z,Z,Z,Z,Z,Z,Z,Z,Z,Z,Z,Z,Z,Z,Z,Z,Z,Z,Z,Z,Z,Z,Z,Z,Z,Z,Z,Z,Z,Z,Z,Z,Z,.int .i64 v1260,.int .i64 v2207,Z,Z,Z,Z,Z,Z,Z,Z,Z,Z,Z,Z,Z,Z,Z,Z,Z,Z,Z,Z,Z,Z,Z,Z,Z,Z,Z,Z,Z,Z,Z,Z,Z,Z,Z,Z,Z,Z,Z,Z,Z,Z,Z,Z,Z,Z,Z,Z,Z,Z,Z,Z,Z,Z,Z,Z,Z,Z,Z,Z,Z,Z,Z,Z,Z,Z,Z,Z,Z,Z,Z,Z,Z,Z,Z,Z,Z,Z,Z,Z,Z,Z,Z,Z,Z,Z,Z,.nest 0 0 1 ((v2216).length),.int .i64 v2211,.int .i64 v2212,Z,Z,Z,Z,Z,Z,Z,Z,Z,Z,Z,Z,Z,Z,Z,Z,.int .i64 v2213,.int .i64 s.1,Z,Z,Z,Z,Z,Z,Z,Z,Z,Z,Z,Z,Z,Z,Z,Z,Z,Z,Z,Z,Z,Z,Z,Z,Z,Z,Z,Z,Z,Z,Z], [.nest [.sl (.i64 s.2) v2216] false 0, .row (.i64 v2217) 0])
def impl_Whole_over_i1_l12_X (v1259 v1260 : Int) (v1261 : List Int) (v1262 v2206 v2207 v2208 : Int) (v2209 : Nat) (v2210 v2211 v2212 v2213 : Int) (v2216 : List Nat) (v2217 : List Int) (x : (List (List Int))) : Out := (.normal, [Z,.int .i64 v1262,Z,Z,Z,Z,Z,Z,Z,.nest 0 0 1 ((v2216).length),.own 1 0 ((v2217).length),.int .i64 v2206,Z,Z,Z,Z,.int .i64 v2207,.int .i64 v2208,Z,Z,Z,Z,Z,Z,Z,Z,Z,Z,Z,Z,Z,Z,Z,Z,Z,Z,Z,Z,Z,Z,Z,Z,Z,Z,Z,Z,Z,Z,Z,Z,Z,Z,Z,Z,Z,Z,Z,Z,Z,Z,Z,Z,Z,Z,Z,.int .i64 v1260,.int .i64 v2207,Z,Z,Z,Z,Z,Z,Z,Z,Z,Z,Z,Z,Z,Z,Z,Z,Z,Z,Z,Z,Z,Z,Z,Z,Z,Z,Z,Z,Z,Z,Z,Z,Z,Z,Z,Z,Z,Z,Z,Z,Z,Z,Z,Z,Z,Z,Z,Z,Z,Z,Z,Z,Z,Z,Z,Z,Z,Z,Z,Z,Z,Z,Z,Z,Z,Z,Z,Z,Z,Z,Z,Z,Z,Z,Z,Z,Z,Z,Z,Z,Z,Z,Z,Z,Z,Z,Z,.nest 0 0 1 ((v2216).length),.int .i64 v2211,.int .i64 v2212,Z,Z,Z,Z,Z,Z,Z,Z,Z,Z,Z,Z,Z,Z,Z,Z,Z,Z,Z,Z,Z,Z,Z,Z,Z,Z,Z,Z,Z,Z,Z,Z,Z,Z,Z,Z,Z,Z,Z,Z,Z,Z,Z,Z,Z,Z,Z,Z,Z], [.nest [.sl (.i64 x) v2216] false 0, .row (.i64 v2217) 0])
def impl_Whole_over_i1_l12_kill : List Nat := KL true [1,1,7,3,4,2,5,2,40,2,87,3,16,2,31]
def impl_Whole_over_i1_l12_nx : Exit → List Nat
  | .exit 4 => KL true [9,3,194]
  | .exit 5 => KL true [1,1,7,3,53,2,139]
  | .exit 10 => KL true [1,1,7,3,4,1,48,2,139]
  | .exit 11 => KL true [1,1,7,3,4,2,47,2,87,3,49]
  | .exit 12 => KL true [1,1,7,3,4,2,47,2,87,3,49]
  | .ret => KL true [6,3,197]
  | _ => []
noncomputable def impl_Whole_over_i1_l10_T (v1259 v1260 : Int) (v1261 : List Int) (v1262 v2172 v2173 v2174 v2175 : Int) (v2178 : List Nat) (v2179 : List Int) (s : Int × (List (List Int))) : Tree ((Int × (List (List Int))) ⊕ ((List (List Int)))) :=
  (.br (decide (s.1 < v2175)) (
  (.grd (inb s.1 ((v2178).length)) <|
  (.grd (inb v2173 ((nget s.2 (nth v2178 (Int.toNat s.1))).length)) <|
  (.br (!decide (s.1 = v2174)) (
  (.br (!decide (nth (nget s.2 (nth v2178 (Int.toNat s.1))) (Int.toNat v2173) = (0 : Int))) (
  (.need (some (impl_Whole_over_i1_l12_E v1259 v1260 v1261 v1262 v2172 v2173 v2174 (nth v2178 (Int.toNat s.1)) (nth (nget s.2 (nth v2178 (Int.toNat s.1))) (Int.toNat v2173)) v2175 s.1 (((nget s.2 (nth v2178 (Int.toNat s.1))).length : Nat) : Int) v2178 v2179 ((0 : Int), s.2)) = some (impl_Whole_over_i1_l12_E v1259 v1260 v1261 v1262 v2172 v2173 v2174 (nth v2178 (Int.toNat s.1)) (nth (nget s.2 (nth v2178 (Int.toNat s.1))) (Int.toNat v2173)) v2175 s.1 (((nget s.2 (nth v2178 (Int.toNat s.1))).length : Nat) : Int) v2178 v2179 ((0 : Int), s.2))) <|
  (.call (impl_Whole_over_i1_l12_g v1262 v2172 v2173 v2174 (nth v2178 (Int.toNat s.1)) (nth (nget s.2 (nth v2178 (Int.toNat s.1))) (Int.toNat v2173)) v2175 s.1 (((nget s.2 (nth v2178 (Int.toNat s.1))).length : Nat) : Int) v2178 v2179 ((0 : Int), s.2)) fun v2219 =>
  .leaf (.inl (IntKind.i64.wrap (s.1 + (1 : Int)), v2219))))
  ) (
  .leaf (.inl (IntKind.i64.wrap (s.1 + (1 : Int)), s.2))
  ))
  ) (
  .leaf (.inl (IntKind.i64.wrap (s.1 + (1 : Int)), s.2))
  ))))
  ) (
  .leaf (.inr s.2)
  ))

noncomputable def impl_Whole_over_i1_l10_g (v1259 v1260 : Int) (v1261 : List Int) (v1262 v2172 v2173 v2174 v2175 : Int) (v2178 : List Nat) (v2179 : List Int) (s0 : Int × (List (List Int))) : Option ((List (List Int))) := whileM (fun s => (impl_Whole_over_i1_l10_T v1259 v1260 v1261 v1262 v2172 v2173 v2174 v2175 v2178 v2179 s).run) s0
def impl_Whole_over_i1_l10_E (v1259 v1260 : Int) (v1261 : List Int) (v1262 v2172 v2173 v2174 v2175 : Int) (v2178 : List Nat) (v2179 : List Int) (s : Int × (List (List Int))) : Sd := ([Z,.int .i64 v1262,Z,Z,Z,Z,Z,Z,Z,.nest 0 0 1 ((v2178).length),.own 1 0 ((v2179).length),.int .i64 v2172,Z,Z,Z,Z,.int .i64 v2173,.int .i64 v2174,Z,Z,Z,Z,Z,Z,Z,Z,Z,Z,Z,Z,Z,Z,Z,Z,Z,Z,Z,Z,Z,Z,Z,Z,Z,Z,Z,Z,Z,Z,Z,Z,Z,Z,Z,Z,Z,Z,Z,Z,Z,Z,Z,Z,Z,Z,Z,.int .i64 v1260,.int .i64 v2173,Z,Z,Z,Z,Z,Z,Z,Z,Z,Z,Z,Z,Z,Z,Z,Z,Z,Z,Z,Z,Z,Z,Z,Z,Z,Z,Z,Z,Z,Z,Z,Z,Z,Z,Z,Z,Z,Z,Z,Z,Z,Z,Z,Z,Z,Z,Z,Z,Z,Z,Z,Z,Z,Z,Z,Z,Z,Z,Z,Z,Z,Z,Z,Z,Z,Z,Z,Z,Z,Z,Z,Z,Z,Z,Z,Z,Z,Z,Z,Z,Z,Z,Z,Z,Z,Z,Z,.nest 0 0 1 ((v2178).length),.int .i64 v2175,.int .i64 s.1,Z,Z,Z,Z,Z,Z,Z,Z,Z,Z,Z,Z,Z,Z,Z,Z,Z,Z,Z,Z,Z,Z,Z,Z,Z,Z,Z,Z,Z,Z,Z,Z,Z,Z,Z,Z,Z,Z,Z,Z,Z,Z,Z,Z,Z,Z,Z,Z,Z], [.nest [.sl (.i64 s.2) v2178] false 0, .row (.i64 v2179) 0])
def impl_Whole_over_i1_l10_X (v1259 v1260 : Int) (v1261 : List Int) (v1262 v2172 v2173 v2174 v2175 : Int) (v2178 : List Nat) (v2179 : List Int) (x : (List (List Int))) : Out := (.normal, [Z,.int .i64 v1262,Z,Z,Z,Z,Z,Z,Z,.nest 0 0 1 ((v2178).length),.own 1 0 ((v2179).length),.int .i64 v2172,Z,Z,Z,Z,.int .i64 v2173,Z,Z,Z,Z,Z,Z,Z,Z,Z,Z,Z,Z,Z,Z,Z,Z,Z,Z,Z,Z,Z,Z,Z,Z,Z,Z,Z,Z,Z,Z,Z,Z,Z,Z,Z,Z,Z,Z,Z,Z,Z,Z,Z,Z,Z,Z,Z,Z,.int .i64 v1260,.int .i64 v2173,Z,Z,Z,Z,Z,Z,Z,Z,Z,Z,Z,Z,Z,Z,Z,Z,Z,Z,Z,Z,Z,Z,Z,Z,Z,Z,Z,Z,Z,Z,Z,Z,Z,Z,Z,Z,Z,Z,Z,Z,Z,Z,Z,Z,Z,Z,Z,Z,Z,Z,Z,Z,Z,Z,Z,Z,Z,Z,Z,Z,Z,Z,Z,Z,Z,Z,Z,Z,Z,Z,Z,Z,Z,Z,Z,Z,Z,Z,Z,Z,Z,Z,Z,Z,Z,Z,Z,Z,Z,Z,Z,Z,Z,Z,Z,Z,Z,Z,Z,Z,Z,Z,Z,Z,Z,Z,Z,Z,Z,Z,Z,Z,Z,Z,Z,Z,Z,Z,Z,Z,Z,Z,Z,Z,Z,Z,Z,Z,Z,Z,Z,Z,Z,Z,Z,Z,Z,Z,Z], [.nest [.sl (.i64 x) v2178] false 0, .row (.i64 v2179) 0])
def impl_Whole_over_i1_l10_kill : List Nat := KL true [1,1,7,3,4,2,47,2,87,3,49]
def impl_Whole_over_i1_l10_nx : Exit → List Nat
  | .exit 4 => KL true [9,3,194]
  | .exit 5 => KL true [1,1,7,3,53,2,139]
  | .exit 10 => KL true [1,1,7,3,4,1,48,2,139]
  | .ret => KL true [6,3,197]
  | _ => []
noncomputable def impl_Whole_over_i1_l4_T (v1259 v1260 : Int) (v1261 : List Int) (v1262 : Int) (s : Int × Int × (List (List Int)) × (List Nat) × (List Int)) : Tree ((Int × Int × (List (List Int)) × (List Nat) × (List Int)) ⊕ (Int × (List (List Int)) × (List Nat) × (List Int))) :=
  (.br (decide (s.2.1 < v1260)) (
  (.need (some (impl_Whole_over_i1_l6_E v1259 v1260 v1261 v1262 s.1 s.2.1 (((s.2.2.2.2).length : Nat) : Int) s.2.2.1 s.2.2.2.1 s.2.2.2.2 (((s.2.2.2.2).length : Nat) : Int)) = some (impl_Whole_over_i1_l6_E v1259 v1260 v1261 v1262 s.1 s.2.1 (((s.2.2.2.2).length : Nat) : Int) s.2.2.1 s.2.2.2.1 s.2.2.2.2 (((s.2.2.2.2).length : Nat) : Int))) <|
  (.call (impl_Whole_over_i1_l6_g s.1 s.2.1 (((s.2.2.2.2).length : Nat) : Int) s.2.2.1 s.2.2.2.1 s.2.2.2.2 (((s.2.2.2.2).length : Nat) : Int)) fun v2045 =>
  (.br (decide (v2045 = (((s.2.2.2.1).length : Nat) : Int))) (
  .leaf (.inl ((0 : Int), IntKind.i64.wrap (s.2.1 + (1 : Int)), s.2.2.1, s.2.2.2.1, s.2.2.2.2))
  ) (
  (.br (!decide (v2045 = (((s.2.2.2.2).length : Nat) : Int))) (
  (.grd (inb (((s.2.2.2.2).length : Nat) : Int) ((s.2.2.2.1).length)) <|
  (.grd (inb v2045 ((s.2.2.2.1).length)) <|
  (.grd (inb v2045 ((s.2.2.2.1).length)) <|
  (.grd (inb (((s.2.2.2.2).length : Nat) : Int) ((s.2.2.2.1).length)) <|
  (.call (impl_rest_g (IntKind.i64.wrap (0 - s.1)) v1262) fun v2046 =>
  (.grd (inb (((s.2.2.2.2).length : Nat) : Int) ((s.2.2.2.1).length)) <|
  (.grd (inb s.2.1 ((nget s.2.2.1 (nth (List.set (List.set s.2.2.2.1 (Int.toNat v2045) (nth s.2.2.2.1 (Int.toNat (((s.2.2.2.2).length : Nat) : Int)))) (Int.toNat (((s.2.2.2.2).length : Nat) : Int)) (nth s.2.2.2.1 (Int.toNat v2045))) (Int.toNat (((s.2.2.2.2).length : Nat) : Int)))).length)) <|
  (.grd (!decide (v1262 = 0)) <|
  (.call (impl_backOver_g (nth (nget s.2.2.1 (nth (List.set (List.set s.2.2.2.1 (Int.toNat v2045) (nth s.2.2.2.1 (Int.toNat (((s.2.2.2.2).length : Nat) : Int)))) (Int.toNat (((s.2.2.2.2).length : Nat) : Int)) (nth s.2.2.2.1 (Int.toNat v2045))) (Int.toNat (((s.2.2.2.2).length : Nat) : Int)))) (Int.toNat s.2.1)) v1262) fun v2047 =>
  (.grd (inb (((s.2.2.2.2).length : Nat) : Int) ((s.2.2.2.1).length)) <|
  (.need (some (impl_Whole_over_i1_l8_E v1259 v1260 v1261 v1262 (Int.tmod (IntKind.i64.wrap (v2046 * (nth (nget s.2.2.1 (nth (List.set (List.set s.2.2.2.1 (Int.toNat v2045) (nth s.2.2.2.1 (Int.toNat (((s.2.2.2.2).length : Nat) : Int)))) (Int.toNat (((s.2.2.2.2).length : Nat) : Int)) (nth s.2.2.2.1 (Int.toNat v2045))) (Int.toNat (((s.2.2.2.2).length : Nat) : Int)))) (Int.toNat s.2.1)))) v1262) s.2.1 (((s.2.2.2.2).length : Nat) : Int) v2047 (((nget s.2.2.1 (nth (List.set (List.set s.2.2.2.1 (Int.toNat v2045) (nth s.2.2.2.1 (Int.toNat (((s.2.2.2.2).length : Nat) : Int)))) (Int.toNat (((s.2.2.2.2).length : Nat) : Int)) (nth s.2.2.2.1 (Int.toNat v2045))) (Int.toNat (((s.2.2.2.2).length : Nat) : Int)))).length : Nat) : Int) (List.set (List.set s.2.2.2.1 (Int.toNat v2045) (nth s.2.2.2.1 (Int.toNat (((s.2.2.2.2).length : Nat) : Int)))) (Int.toNat (((s.2.2.2.2).length : Nat) : Int)) (nth s.2.2.2.1 (Int.toNat v2045))) s.2.2.2.2 ((0 : Int), s.2.2.1)) = some (impl_Whole_over_i1_l8_E v1259 v1260 v1261 v1262 (Int.tmod (IntKind.i64.wrap (v2046 * (nth (nget s.2.2.1 (nth (List.set (List.set s.2.2.2.1 (Int.toNat v2045) (nth s.2.2.2.1 (Int.toNat (((s.2.2.2.2).length : Nat) : Int)))) (Int.toNat (((s.2.2.2.2).length : Nat) : Int)) (nth s.2.2.2.1 (Int.toNat v2045))) (Int.toNat (((s.2.2.2.2).length : Nat) : Int)))) (Int.toNat s.2.1)))) v1262) s.2.1 (((s.2.2.2.2).length : Nat) : Int) v2047 (((nget s.2.2.1 (nth (List.set (List.set s.2.2.2.1 (Int.toNat v2045) (nth s.2.2.2.1 (Int.toNat (((s.2.2.2.2).length : Nat) : Int)))) (Int.toNat (((s.2.2.2.2).length : Nat) : Int)) (nth s.2.2.2.1 (Int.toNat v2045))) (Int.toNat (((s.2.2.2.2).length : Nat) : Int)))).length : Nat) : Int) (List.set (List.set s.2.2.2.1 (Int.toNat v2045) (nth s.2.2.2.1 (Int.toNat (((s.2.2.2.2).length : Nat) : Int)))) (Int.toNat (((s.2.2.2.2).length : Nat) : Int)) (nth s.2.2.2.1 (Int.toNat v2045))) s.2.2.2.2 ((0 : Int), s.2.2.1))) <|
  (.call (impl_Whole_over_i1_l8_g v1262 (Int.tmod (IntKind.i64.wrap (v2046 * (nth (nget s.2.2.1 (nth (List.set (List.set s.2.2.2.1 (Int.toNat v2045) (nth s.2.2.2.1 (Int.toNat (((s.2.2.2.2).length : Nat) : Int)))) (Int.toNat (((s.2.2.2.2).length : Nat) : Int)) (nth s.2.2.2.1 (Int.toNat v2045))) (Int.toNat (((s.2.2.2.2).length : Nat) : Int)))) (Int.toNat s.2.1)))) v1262) s.2.1 (((s.2.2.2.2).length : Nat) : Int) v2047 (((nget s.2.2.1 (nth (List.set (List.set s.2.2.2.1 (Int.toNat v2045) (nth s.2.2.2.1 (Int.toNat (((s.2.2.2.2).length : Nat) : Int)))) (Int.toNat (((s.2.2.2.2).length : Nat) : Int)) (nth s.2.2.2.1 (Int.toNat v2045))) (Int.toNat (((s.2.2.2.2).length : Nat) : Int)))).length : Nat) : Int) (List.set (List.set s.2.2.2.1 (Int.toNat v2045) (nth s.2.2.2.1 (Int.toNat (((s.2.2.2.2).length : Nat) : Int)))) (Int.toNat (((s.2.2.2.2).length : Nat) : Int)) (nth s.2.2.2.1 (Int.toNat v2045))) s.2.2.2.2 ((0 : Int), s.2.2.1)) fun v2075 =>
  (.need (some (impl_Whole_over_i1_l10_E v1259 v1260 v1261 v1262 (Int.tmod (IntKind.i64.wrap (v2046 * (nth (nget s.2.2.1 (nth (List.set (List.set s.2.2.2.1 (Int.toNat v2045) (nth s.2.2.2.1 (Int.toNat (((s.2.2.2.2).length : Nat) : Int)))) (Int.toNat (((s.2.2.2.2).length : Nat) : Int)) (nth s.2.2.2.1 (Int.toNat v2045))) (Int.toNat (((s.2.2.2.2).length : Nat) : Int)))) (Int.toNat s.2.1)))) v1262) s.2.1 (((s.2.2.2.2).length : Nat) : Int) ((((List.set (List.set s.2.2.2.1 (Int.toNat v2045) (nth s.2.2.2.1 (Int.toNat (((s.2.2.2.2).length : Nat) : Int)))) (Int.toNat (((s.2.2.2.2).length : Nat) : Int)) (nth s.2.2.2.1 (Int.toNat v2045)))).length : Nat) : Int) (List.set (List.set s.2.2.2.1 (Int.toNat v2045) (nth s.2.2.2.1 (Int.toNat (((s.2.2.2.2).length : Nat) : Int)))) (Int.toNat (((s.2.2.2.2).length : Nat) : Int)) (nth s.2.2.2.1 (Int.toNat v2045))) s.2.2.2.2 ((0 : Int), v2075)) = some (impl_Whole_over_i1_l10_E v1259 v1260 v1261 v1262 (Int.tmod (IntKind.i64.wrap (v2046 * (nth (nget s.2.2.1 (nth (List.set (List.set s.2.2.2.1 (Int.toNat v2045) (nth s.2.2.2.1 (Int.toNat (((s.2.2.2.2).length : Nat) : Int)))) (Int.toNat (((s.2.2.2.2).length : Nat) : Int)) (nth s.2.2.2.1 (Int.toNat v2045))) (Int.toNat (((s.2.2.2.2).length : Nat) : Int)))) (Int.toNat s.2.1)))) v1262) s.2.1 (((s.2.2.2.2).length : Nat) : Int) ((((List.set (List.set s.2.2.2.1 (Int.toNat v2045) (nth s.2.2.2.1 (Int.toNat (((s.2.2.2.2).length : Nat) : Int)))) (Int.toNat (((s.2.2.2.2).length : Nat) : Int)) (nth s.2.2.2.1 (Int.toNat v2045)))).length : Nat) : Int) (List.set (List.set s.2.2.2.1 (Int.toNat v2045) (nth s.2.2.2.1 (Int.toNat (((s.2.2.2.2).length : Nat) : Int)))) (Int.toNat (((s.2.2.2.2).length : Nat) : Int)) (nth s.2.2.2.1 (Int.toNat v2045))) s.2.2.2.2 ((0 : Int), v2075))) <|
  (.call (impl_Whole_over_i1_l10_g v1259 v1260 v1261 v1262 (Int.tmod (IntKind.i64.wrap (v2046 * (nth (nget s.2.2.1 (nth (List.set (List.set s.2.2.2.1 (Int.toNat v2045) (nth s.2.2.2.1 (Int.toNat (((s.2.2.2.2).length : Nat) : Int)))) (Int.toNat (((s.2.2.2.2).length : Nat) : Int)) (nth s.2.2.2.1 (Int.toNat v2045))) (Int.toNat (((s.2.2.2.2).length : Nat) : Int)))) (Int.toNat s.2.1)))) v1262) s.2.1 (((s.2.2.2.2).length : Nat) : Int) ((((List.set (List.set s.2.2.2.1 (Int.toNat v2045) (nth s.2.2.2.1 (Int.toNat (((s.2.2.2.2).length : Nat) : Int)))) (Int.toNat (((s.2.2.2.2).length : Nat) : Int)) (nth s.2.2.2.1 (Int.toNat v2045)))).length : Nat) : Int) (List.set (List.set s.2.2.2.1 (Int.toNat v2045) (nth s.2.2.2.1 (Int.toNat (((s.2.2.2.2).length : Nat) : Int)))) (Int.toNat (((s.2.2.2.2).length : Nat) : Int)) (nth s.2.2.2.1 (Int.toNat v2045))) s.2.2.2.2 ((0 : Int), v2075)) fun v2220 =>
  (.grd (fits (s.2.2.2.2 ++ ([s.2.1] : List Int)).length) <|
  .leaf (.inl ((Int.tmod (IntKind.i64.wrap (v2046 * (nth (nget s.2.2.1 (nth (List.set (List.set s.2.2.2.1 (Int.toNat v2045) (nth s.2.2.2.1 (Int.toNat (((s.2.2.2.2).length : Nat) : Int)))) (Int.toNat (((s.2.2.2.2).length : Nat) : Int)) (nth s.2.2.2.1 (Int.toNat v2045))) (Int.toNat (((s.2.2.2.2).length : Nat) : Int)))) (Int.toNat s.2.1)))) v1262), IntKind.i64.wrap (s.2.1 + (1 : Int)), v2220, (List.set (List.set s.2.2.2.1 (Int.toNat v2045) (nth s.2.2.2.1 (Int.toNat (((s.2.2.2.2).length : Nat) : Int)))) (Int.toNat (((s.2.2.2.2).length : Nat) : Int)) (nth s.2.2.2.1 (Int.toNat v2045))), s.2.2.2.2 ++ ([s.2.1] : List Int))))))))))))))))))
  ) (
  (.grd (inb (((s.2.2.2.2).length : Nat) : Int) ((s.2.2.2.1).length)) <|
  (.grd (inb s.2.1 ((nget s.2.2.1 (nth s.2.2.2.1 (Int.toNat (((s.2.2.2.2).length : Nat) : Int)))).length)) <|
  (.grd (!decide (v1262 = 0)) <|
  (.call (impl_backOver_g (nth (nget s.2.2.1 (nth s.2.2.2.1 (Int.toNat (((s.2.2.2.2).length : Nat) : Int)))) (Int.toNat s.2.1)) v1262) fun v2221 =>
  (.grd (inb (((s.2.2.2.2).length : Nat) : Int) ((s.2.2.2.1).length)) <|
  (.need (some (impl_Whole_over_i1_l8_E v1259 v1260 v1261 v1262 (Int.tmod (IntKind.i64.wrap (s.1 * (nth (nget s.2.2.1 (nth s.2.2.2.1 (Int.toNat (((s.2.2.2.2).length : Nat) : Int)))) (Int.toNat s.2.1)))) v1262) s.2.1 (((s.2.2.2.2).length : Nat) : Int) v2221 (((nget s.2.2.1 (nth s.2.2.2.1 (Int.toNat (((s.2.2.2.2).length : Nat) : Int)))).length : Nat) : Int) s.2.2.2.1 s.2.2.2.2 ((0 : Int), s.2.2.1)) = some (impl_Whole_over_i1_l8_E v1259 v1260 v1261 v1262 (Int.tmod (IntKind.i64.wrap (s.1 * (nth (nget s.2.2.1 (nth s.2.2.2.1 (Int.toNat (((s.2.2.2.2).length : Nat) : Int)))) (Int.toNat s.2.1)))) v1262) s.2.1 (((s.2.2.2.2).length : Nat) : Int) v2221 (((nget s.2.2.1 (nth s.2.2.2.1 (Int.toNat (((s.2.2.2.2).length : Nat) : Int)))).length : Nat) : Int) s.2.2.2.1 s.2.2.2.2 ((0 : Int), s.2.2.1))) <|
  (.call (impl_Whole_over_i1_l8_g v1262 (Int.tmod (IntKind.i64.wrap (s.1 * (nth (nget s.2.2.1 (nth s.2.2.2.1 (Int.toNat (((s.2.2.2.2).length : Nat) : Int)))) (Int.toNat s.2.1)))) v1262) s.2.1 (((s.2.2.2.2).length : Nat) : Int) v2221 (((nget s.2.2.1 (nth s.2.2.2.1 (Int.toNat (((s.2.2.2.2).length : Nat) : Int)))).length : Nat) : Int) s.2.2.2.1 s.2.2.2.2 ((0 : Int), s.2.2.1)) fun v2249 =>
  (.need (some (impl_Whole_over_i1_l10_E v1259 v1260 v1261 v1262 (Int.tmod (IntKind.i64.wrap (s.1 * (nth (nget s.2.2.1 (nth s.2.2.2.1 (Int.toNat (((s.2.2.2.2).length : Nat) : Int)))) (Int.toNat s.2.1)))) v1262) s.2.1 (((s.2.2.2.2).length : Nat) : Int) (((s.2.2.2.1).length : Nat) : Int) s.2.2.2.1 s.2.2.2.2 ((0 : Int), v2249)) = some (impl_Whole_over_i1_l10_E v1259 v1260 v1261 v1262 (Int.tmod (IntKind.i64.wrap (s.1 * (nth (nget s.2.2.1 (nth s.2.2.2.1 (Int.toNat (((s.2.2.2.2).length : Nat) : Int)))) (Int.toNat s.2.1)))) v1262) s.2.1 (((s.2.2.2.2).length : Nat) : Int) (((s.2.2.2.1).length : Nat) : Int) s.2.2.2.1 s.2.2.2.2 ((0 : Int), v2249))) <|
  (.call (impl_Whole_over_i1_l10_g v1259 v1260 v1261 v1262 (Int.tmod (IntKind.i64.wrap (s.1 * (nth (nget s.2.2.1 (nth s.2.2.2.1 (Int.toNat (((s.2.2.2.2).length : Nat) : Int)))) (Int.toNat s.2.1)))) v1262) s.2.1 (((s.2.2.2.2).length : Nat) : Int) (((s.2.2.2.1).length : Nat) : Int) s.2.2.2.1 s.2.2.2.2 ((0 : Int), v2249)) fun v2394 =>
  (.grd (fits (s.2.2.2.2 ++ ([s.2.1] : List Int)).length) <|
  .leaf (.inl ((Int.tmod (IntKind.i64.wrap (s.1 * (nth (nget s.2.2.1 (nth s.2.2.2.1 (Int.toNat (((s.2.2.2.2).length : Nat) : Int)))) (Int.toNat s.2.1)))) v1262), IntKind.i64.wrap (s.2.1 + (1 : Int)), v2394, s.2.2.2.1, s.2.2.2.2 ++ ([s.2.1] : List Int)))))))))))))
  ))
  ))))
  ) (
  .leaf (.inr (s.1, s.2.2.1, s.2.2.2.1, s.2.2.2.2))
  ))

noncomputable def impl_Whole_over_i1_l4_g (v1259 v1260 : Int) (v1261 : List Int) (v1262 : Int) (s0 : Int × Int × (List (List Int)) × (List Nat) × (List Int)) : Option (Int × (List (List Int)) × (List Nat) × (List Int)) := whileM (fun s => (impl_Whole_over_i1_l4_T v1259 v1260 v1261 v1262 s).run) s0
def impl_Whole_over_i1_l4_E (v1259 v1260 : Int) (v1261 : List Int) (v1262 : Int) (s : Int × Int × (List (List Int)) × (List Nat) × (List Int)) : Sd := ([Z,.int .i64 v1262,Z,Z,Z,Z,Z,Z,Z,.nest 0 0 1 ((s.2.2.2.1).length),.own 1 0 ((s.2.2.2.2).length),.int .i64 s.1,Z,Z,Z,Z,Z,Z,Z,Z,Z,Z,Z,Z,Z,Z,Z,Z,Z,Z,Z,Z,Z,Z,Z,Z,Z,Z,Z,Z,Z,Z,Z,Z,Z,Z,Z,Z,Z,Z,Z,Z,Z,Z,Z,Z,Z,Z,Z,Z,Z,Z,Z,Z,Z,.int .i64 v1260,.int .i64 s.2.1,Z,Z,Z,Z,Z,Z,Z,Z,Z,Z,Z,Z,Z,Z,Z,Z,Z,Z,Z,Z,Z,Z,Z,Z,Z,Z,Z,Z,Z,Z,Z,Z,Z,Z,Z,Z,Z,Z,Z,Z,Z,Z,Z,Z,Z,Z,Z,Z,Z,Z,Z,Z,Z,Z,Z,Z,Z,Z,Z,Z,Z,Z,Z,Z,Z,Z,Z,Z,Z,Z,Z,Z,Z,Z,Z,Z,Z,Z,Z,Z,Z,Z,Z,Z,Z,Z,Z,Z,Z,Z,Z,Z,Z,Z,Z,Z,Z,Z,Z,Z,Z,Z,Z,Z,Z,Z,Z,Z,Z,Z,Z,Z,Z,Z,Z,Z,Z,Z,Z,Z,Z,Z,Z,Z,Z,Z,Z,Z,Z,Z,Z,Z,Z,Z,Z,Z,Z,Z,Z], [.nest [.sl (.i64 s.2.2.1) s.2.2.2.1] false 0, .row (.i64 s.2.2.2.2) 0])
def impl_Whole_over_i1_l4_X (v1259 v1260 : Int) (v1261 : List Int) (v1262 : Int) (x : Int × (List (List Int)) × (List Nat) × (List Int)) : Out := (.normal, [Z,Z,Z,Z,Z,Z,Z,Z,Z,.nest 0 0 1 ((x.2.2.1).length),.own 1 0 ((x.2.2.2).length),.int .i64 x.1,Z,Z,Z,Z,Z,Z,Z,Z,Z,Z,Z,Z,Z,Z,Z,Z,Z,Z,Z,Z,Z,Z,Z,Z,Z,Z,Z,Z,Z,Z,Z,Z,Z,Z,Z,Z,Z,Z,Z,Z,Z,Z,Z,Z,Z,Z,Z,Z,Z,Z,Z,Z,Z,Z,Z,Z,Z,Z,Z,Z,Z,Z,Z,Z,Z,Z,Z,Z,Z,Z,Z,Z,Z,Z,Z,Z,Z,Z,Z,Z,Z,Z,Z,Z,Z,Z,Z,Z,Z,Z,Z,Z,Z,Z,Z,Z,Z,Z,Z,Z,Z,Z,Z,Z,Z,Z,Z,Z,Z,Z,Z,Z,Z,Z,Z,Z,Z,Z,Z,Z,Z,Z,Z,Z,Z,Z,Z,Z,Z,Z,Z,Z,Z,Z,Z,Z,Z,Z,Z,Z,Z,Z,Z,Z,Z,Z,Z,Z,Z,Z,Z,Z,Z,Z,Z,Z,Z,Z,Z,Z,Z,Z,Z,Z,Z,Z,Z,Z,Z,Z,Z,Z,Z,Z,Z,Z,Z,Z,Z,Z,Z,Z,Z,Z,Z,Z,Z,Z,Z,Z,Z,Z,Z,Z], [.nest [.sl (.i64 x.2.1) x.2.2.1] false 0, .row (.i64 x.2.2.2) 0])
def impl_Whole_over_i1_l4_kill : List Nat := KL true [1,1,7,3,53,2,139]
def impl_Whole_over_i1_l4_nx : Exit → List Nat
  | .exit 4 => KL true [9,3,194]
  | .ret => KL true [6,3,197]
  | _ => []
noncomputable def impl_Whole_over_i1_LO (v1259 v1260 : Int) (v1261 : List Int) (v1262 : Int) : LOr := fun id e L =>
  match id with
  | 2 => .need (normA 0 impl_Whole_over_i1_l2_kill e L = some (impl_Whole_over_i1_l2_E v1259 v1260 v1261 v1262 (gI (vAt e 30)) (gI (vAt e 46)) (gPI L (vAt e 9) 0) (gX L (vAt e 9) 0) ((gI (vAt e 47)), (gRI L (vAt e 13))))) (.call (impl_Whole_over_i1_l2_g v1262 (gI (vAt e 30)) (gI (vAt e 46)) (gPI L (vAt e 9) 0) (gX L (vAt e 9) 0) ((gI (vAt e 47)), (gRI L (vAt e 13)))) fun x => .leaf (impl_Whole_over_i1_l2_X v1259 v1260 v1261 v1262 (gI (vAt e 30)) (gI (vAt e 46)) (gPI L (vAt e 9) 0) (gX L (vAt e 9) 0) x))
  | 0 => .need (normA 0 impl_Whole_over_i1_l0_kill e L = some (impl_Whole_over_i1_l0_E v1259 v1260 v1261 v1262 ((gI (vAt e 30)), (gPI L (vAt e 9) 0), (gX L (vAt e 9) 0)))) (.call (impl_Whole_over_i1_l0_g v1259 v1260 v1261 v1262 ((gI (vAt e 30)), (gPI L (vAt e 9) 0), (gX L (vAt e 9) 0))) fun x => .leaf (impl_Whole_over_i1_l0_X v1259 v1260 v1261 v1262 x))
  | 6 => .need (normA 0 impl_Whole_over_i1_l6_kill e L = some (impl_Whole_over_i1_l6_E v1259 v1260 v1261 v1262 (gI (vAt e 11)) (gI (vAt e 16)) (gI (vAt e 17)) (gPI L (vAt e 9) 0) (gX L (vAt e 9) 0) (gRI L (vAt e 10)) (gI (vAt e 18)))) (.call (impl_Whole_over_i1_l6_g (gI (vAt e 11)) (gI (vAt e 16)) (gI (vAt e 17)) (gPI L (vAt e 9) 0) (gX L (vAt e 9) 0) (gRI L (vAt e 10)) (gI (vAt e 18))) fun x => .leaf (impl_Whole_over_i1_l6_X v1259 v1260 v1261 v1262 (gI (vAt e 11)) (gI (vAt e 16)) (gI (vAt e 17)) (gPI L (vAt e 9) 0) (gX L (vAt e 9) 0) (gRI L (vAt e 10)) x))
  | 8 => .need (normA 0 impl_Whole_over_i1_l8_kill e L = some (impl_Whole_over_i1_l8_E v1259 v1260 v1261 v1262 (gI (vAt e 11)) (gI (vAt e 16)) (gI (vAt e 17)) (gI (vAt e 20)) (gI (vAt e 132)) (gX L (vAt e 9) 0) (gRI L (vAt e 10)) ((gI (vAt e 133)), (gPI L (vAt e 9) 0)))) (.call (impl_Whole_over_i1_l8_g v1262 (gI (vAt e 11)) (gI (vAt e 16)) (gI (vAt e 17)) (gI (vAt e 20)) (gI (vAt e 132)) (gX L (vAt e 9) 0) (gRI L (vAt e 10)) ((gI (vAt e 133)), (gPI L (vAt e 9) 0))) fun x => .leaf (impl_Whole_over_i1_l8_X v1259 v1260 v1261 v1262 (gI (vAt e 11)) (gI (vAt e 16)) (gI (vAt e 17)) (gI (vAt e 20)) (gI (vAt e 132)) (gX L (vAt e 9) 0) (gRI L (vAt e 10)) x))
  | 12 => .need (normA 0 impl_Whole_over_i1_l12_kill e L = some (impl_Whole_over_i1_l12_E v1259 v1260 v1261 v1262 (gI (vAt e 11)) (gI (vAt e 16)) (gI (vAt e 17)) (gK (vAt e 23)) (gI (vAt e 24)) (gI (vAt e 155)) (gI (vAt e 156)) (gI (vAt e 173)) (gX L (vAt e 9) 0) (gRI L (vAt e 10)) ((gI (vAt e 174)), (gPI L (vAt e 9) 0)))) (.call (impl_Whole_over_i1_l12_g v1262 (gI (vAt e 11)) (gI (vAt e 16)) (gI (vAt e 17)) (gK (vAt e 23)) (gI (vAt e 24)) (gI (vAt e 155)) (gI (vAt e 156)) (gI (vAt e 173)) (gX L (vAt e 9) 0) (gRI L (vAt e 10)) ((gI (vAt e 174)), (gPI L (vAt e 9) 0))) fun x => .leaf (impl_Whole_over_i1_l12_X v1259 v1260 v1261 v1262 (gI (vAt e 11)) (gI (vAt e 16)) (gI (vAt e 17)) (gK (vAt e 23)) (gI (vAt e 24)) (gI (vAt e 155)) (gI (vAt e 156)) (gI (vAt e 173)) (gX L (vAt e 9) 0) (gRI L (vAt e 10)) x))
  | 10 => .need (normA 0 impl_Whole_over_i1_l10_kill e L = some (impl_Whole_over_i1_l10_E v1259 v1260 v1261 v1262 (gI (vAt e 11)) (gI (vAt e 16)) (gI (vAt e 17)) (gI (vAt e 155)) (gX L (vAt e 9) 0) (gRI L (vAt e 10)) ((gI (vAt e 156)), (gPI L (vAt e 9) 0)))) (.call (impl_Whole_over_i1_l10_g v1259 v1260 v1261 v1262 (gI (vAt e 11)) (gI (vAt e 16)) (gI (vAt e 17)) (gI (vAt e 155)) (gX L (vAt e 9) 0) (gRI L (vAt e 10)) ((gI (vAt e 156)), (gPI L (vAt e 9) 0))) fun x => .leaf (impl_Whole_over_i1_l10_X v1259 v1260 v1261 v1262 (gI (vAt e 11)) (gI (vAt e 16)) (gI (vAt e 17)) (gI (vAt e 155)) (gX L (vAt e 9) 0) (gRI L (vAt e 10)) x))
  | 4 => .need (normA 0 impl_Whole_over_i1_l4_kill e L = some (impl_Whole_over_i1_l4_E v1259 v1260 v1261 v1262 ((gI (vAt e 11)), (gI (vAt e 66)), (gPI L (vAt e 9) 0), (gX L (vAt e 9) 0), (gRI L (vAt e 10))))) (.call (impl_Whole_over_i1_l4_g v1259 v1260 v1261 v1262 ((gI (vAt e 11)), (gI (vAt e 66)), (gPI L (vAt e 9) 0), (gX L (vAt e 9) 0), (gRI L (vAt e 10)))) fun x => .leaf (impl_Whole_over_i1_l4_X v1259 v1260 v1261 v1262 x))
  | _ => .fail
noncomputable def impl_Whole_over_i1_tab : List (FuncId × DFn × Bool) := [(127, impl_Whole_row_F, true), (70, impl_rest_F, true), (123, impl_backOver_F, true)]
theorem impl_Whole_over_i1_hO : OrcOk Try.prog (tabD impl_Whole_over_i1_tab) (tabM impl_Whole_over_i1_tab) := tabD_cons impl_Whole_row_Fok (tabD_cons impl_rest_Fok (tabD_cons impl_backOver_Fok (tabD_nil _)))
theorem impl_Whole_over_i1_l2_be (v1259 v1260 : Int) (v1261 : List Int) (v1262 v1325 v1326 : Int) (v1328 : List (List Int)) (v1329 : List Nat) (s : Int × (List Int)) : bodyT TT (tabD impl_Whole_over_i1_tab) (tabM impl_Whole_over_i1_tab) (impl_Whole_over_i1_LO v1259 v1260 v1261 v1262) 0 impl_Whole_over_i1_l2_kill impl_Whole_over_i1_l2_nx (bodyOf Try.f64 2) 2 (impl_Whole_over_i1_l2_E v1259 v1260 v1261 v1262 v1325 v1326 v1328 v1329 s) = (impl_Whole_over_i1_l2_T v1262 v1325 v1326 v1328 v1329 s).bind fun y => .leaf (outS (impl_Whole_over_i1_l2_E v1259 v1260 v1261 v1262 v1325 v1326 v1328 v1329) (impl_Whole_over_i1_l2_X v1259 v1260 v1261 v1262 v1325 v1326 v1328 v1329) y) := by kernel_rfl
theorem impl_Whole_over_i1_l2_ok (v1259 v1260 : Int) (v1261 : List Int) (v1262 : Int) : LSound Try.prog 0 (impl_Whole_over_i1_LO v1259 v1260 v1261 v1262) 2 (bodyOf Try.f64 2) := by
  intro e L out h
  exact lo_ok (E := impl_Whole_over_i1_l2_E v1259 v1260 v1261 v1262 (gI (vAt e 30)) (gI (vAt e 46)) (gPI L (vAt e 9) 0) (gX L (vAt e 9) 0)) (gT := impl_Whole_over_i1_l2_T v1262 (gI (vAt e 30)) (gI (vAt e 46)) (gPI L (vAt e 9) 0) (gX L (vAt e 9) 0)) (X := impl_Whole_over_i1_l2_X v1259 v1260 v1261 v1262 (gI (vAt e 30)) (gI (vAt e 46)) (gPI L (vAt e 9) 0) (gX L (vAt e 9) 0)) (s0 := ((gI (vAt e 47)), (gRI L (vAt e 13)))) tok impl_Whole_over_i1_hO mixed (LoopsOk_eq (l := []) (by kernel_rfl) trivial) (impl_Whole_over_i1_l2_be v1259 v1260 v1261 v1262 (gI (vAt e 30)) (gI (vAt e 46)) (gPI L (vAt e 9) 0) (gX L (vAt e 9) 0)) rfl (by intro x; rfl) h
theorem impl_Whole_over_i1_l0_be (v1259 v1260 : Int) (v1261 : List Int) (v1262 : Int) (s : Int × (List (List Int)) × (List Nat)) : bodyT TT (tabD impl_Whole_over_i1_tab) (tabM impl_Whole_over_i1_tab) (impl_Whole_over_i1_LO v1259 v1260 v1261 v1262) 0 impl_Whole_over_i1_l0_kill impl_Whole_over_i1_l0_nx (bodyOf Try.f64 0) 0 (impl_Whole_over_i1_l0_E v1259 v1260 v1261 v1262 s) = (impl_Whole_over_i1_l0_T v1259 v1260 v1261 v1262 s).bind fun y => .leaf (outS (impl_Whole_over_i1_l0_E v1259 v1260 v1261 v1262) (impl_Whole_over_i1_l0_X v1259 v1260 v1261 v1262) y) := by kernel_rfl
theorem impl_Whole_over_i1_l0_ok (v1259 v1260 : Int) (v1261 : List Int) (v1262 : Int) : LSound Try.prog 0 (impl_Whole_over_i1_LO v1259 v1260 v1261 v1262) 0 (bodyOf Try.f64 0) := by
  intro e L out h
  exact lo_ok (E := impl_Whole_over_i1_l0_E v1259 v1260 v1261 v1262) (gT := impl_Whole_over_i1_l0_T v1259 v1260 v1261 v1262) (X := impl_Whole_over_i1_l0_X v1259 v1260 v1261 v1262) (s0 := ((gI (vAt e 30)), (gPI L (vAt e 9) 0), (gX L (vAt e 9) 0))) tok impl_Whole_over_i1_hO mixed (LoopsOk_eq (l := [(2, bodyOf Try.f64 2)]) (by kernel_rfl) ⟨impl_Whole_over_i1_l2_ok v1259 v1260 v1261 v1262, trivial⟩) (impl_Whole_over_i1_l0_be v1259 v1260 v1261 v1262) rfl (by intro x; rfl) h
theorem impl_Whole_over_i1_l6_be (v1259 v1260 : Int) (v1261 : List Int) (v1262 v2038 v2039 v2040 : Int) (v2042 : List (List Int)) (v2043 : List Nat) (v2044 : List Int) (s : Int) : bodyT TT (tabD impl_Whole_over_i1_tab) (tabM impl_Whole_over_i1_tab) (impl_Whole_over_i1_LO v1259 v1260 v1261 v1262) 0 impl_Whole_over_i1_l6_kill impl_Whole_over_i1_l6_nx (bodyOf Try.f64 6) 6 (impl_Whole_over_i1_l6_E v1259 v1260 v1261 v1262 v2038 v2039 v2040 v2042 v2043 v2044 s) = (impl_Whole_over_i1_l6_T v2038 v2039 v2040 v2042 v2043 v2044 s).bind fun y => .leaf (outS (impl_Whole_over_i1_l6_E v1259 v1260 v1261 v1262 v2038 v2039 v2040 v2042 v2043 v2044) (impl_Whole_over_i1_l6_X v1259 v1260 v1261 v1262 v2038 v2039 v2040 v2042 v2043 v2044) y) := by kernel_rfl
theorem impl_Whole_over_i1_l6_ok (v1259 v1260 : Int) (v1261 : List Int) (v1262 : Int) : LSound Try.prog 0 (impl_Whole_over_i1_LO v1259 v1260 v1261 v1262) 6 (bodyOf Try.f64 6) := by
  intro e L out h
  exact lo_ok (E := impl_Whole_over_i1_l6_E v1259 v1260 v1261 v1262 (gI (vAt e 11)) (gI (vAt e 16)) (gI (vAt e 17)) (gPI L (vAt e 9) 0) (gX L (vAt e 9) 0) (gRI L (vAt e 10))) (gT := impl_Whole_over_i1_l6_T (gI (vAt e 11)) (gI (vAt e 16)) (gI (vAt e 17)) (gPI L (vAt e 9) 0) (gX L (vAt e 9) 0) (gRI L (vAt e 10))) (X := impl_Whole_over_i1_l6_X v1259 v1260 v1261 v1262 (gI (vAt e 11)) (gI (vAt e 16)) (gI (vAt e 17)) (gPI L (vAt e 9) 0) (gX L (vAt e 9) 0) (gRI L (vAt e 10))) (s0 := (gI (vAt e 18))) tok impl_Whole_over_i1_hO mixed (LoopsOk_eq (l := []) (by kernel_rfl) trivial) (impl_Whole_over_i1_l6_be v1259 v1260 v1261 v1262 (gI (vAt e 11)) (gI (vAt e 16)) (gI (vAt e 17)) (gPI L (vAt e 9) 0) (gX L (vAt e 9) 0) (gRI L (vAt e 10))) rfl (by intro x; rfl) h
theorem impl_Whole_over_i1_l8_be (v1259 v1260 : Int) (v1261 : List Int) (v1262 v2066 v2067 v2068 v2069 v2070 : Int) (v2073 : List Nat) (v2074 : List Int) (s : Int × (List (List Int))) : bodyT TT (tabD impl_Whole_over_i1_tab) (tabM impl_Whole_over_i1_tab) (impl_Whole_over_i1_LO v1259 v1260 v1261 v1262) 0 impl_Whole_over_i1_l8_kill impl_Whole_over_i1_l8_nx (bodyOf Try.f64 8) 8 (impl_Whole_over_i1_l8_E v1259 v1260 v1261 v1262 v2066 v2067 v2068 v2069 v2070 v2073 v2074 s) = (impl_Whole_over_i1_l8_T v1262 v2066 v2067 v2068 v2069 v2070 v2073 v2074 s).bind fun y => .leaf (outS (impl_Whole_over_i1_l8_E v1259 v1260 v1261 v1262 v2066 v2067 v2068 v2069 v2070 v2073 v2074) (impl_Whole_over_i1_l8_X v1259 v1260 v1261 v1262 v2066 v2067 v2068 v2069 v2070 v2073 v2074) y) := by kernel_rfl
theorem impl_Whole_over_i1_l8_ok (v1259 v1260 : Int) (v1261 : List Int) (v1262 : Int) : LSound Try.prog 0 (impl_Whole_over_i1_LO v1259 v1260 v1261 v1262) 8 (bodyOf Try.f64 8) := by
  intro e L out h
  exact lo_ok (E := impl_Whole_over_i1_l8_E v1259 v1260 v1261 v1262 (gI (vAt e 11)) (gI (vAt e 16)) (gI (vAt e 17)) (gI (vAt e 20)) (gI (vAt e 132)) (gX L (vAt e 9) 0) (gRI L (vAt e 10))) (gT := impl_Whole_over_i1_l8_T v1262 (gI (vAt e 11)) (gI (vAt e 16)) (gI (vAt e 17)) (gI (vAt e 20)) (gI (vAt e 132)) (gX L (vAt e 9) 0) (gRI L (vAt e 10))) (X := impl_Whole_over_i1_l8_X v1259 v1260 v1261 v1262 (gI (vAt e 11)) (gI (vAt e 16)) (gI (vAt e 17)) (gI (vAt e 20)) (gI (vAt e 132)) (gX L (vAt e 9) 0) (gRI L (vAt e 10))) (s0 := ((gI (vAt e 133)), (gPI L (vAt e 9) 0))) tok impl_Whole_over_i1_hO mixed (LoopsOk_eq (l := []) (by kernel_rfl) trivial) (impl_Whole_over_i1_l8_be v1259 v1260 v1261 v1262 (gI (vAt e 11)) (gI (vAt e 16)) (gI (vAt e 17)) (gI (vAt e 20)) (gI (vAt e 132)) (gX L (vAt e 9) 0) (gRI L (vAt e 10))) rfl (by intro x; rfl) h
theorem impl_Whole_over_i1_l12_be (v1259 v1260 : Int) (v1261 : List Int) (v1262 v2206 v2207 v2208 : Int) (v2209 : Nat) (v2210 v2211 v2212 v2213 : Int) (v2216 : List Nat) (v2217 : List Int) (s : Int × (List (List Int))) : bodyT TT (tabD impl_Whole_over_i1_tab) (tabM impl_Whole_over_i1_tab) (impl_Whole_over_i1_LO v1259 v1260 v1261 v1262) 0 impl_Whole_over_i1_l12_kill impl_Whole_over_i1_l12_nx (bodyOf Try.f64 12) 12 (impl_Whole_over_i1_l12_E v1259 v1260 v1261 v1262 v2206 v2207 v2208 v2209 v2210 v2211 v2212 v2213 v2216 v2217 s) = (impl_Whole_over_i1_l12_T v1262 v2206 v2207 v2208 v2209 v2210 v2211 v2212 v2213 v2216 v2217 s).bind fun y => .leaf (outS (impl_Whole_over_i1_l12_E v1259 v1260 v1261 v1262 v2206 v2207 v2208 v2209 v2210 v2211 v2212 v2213 v2216 v2217) (impl_Whole_over_i1_l12_X v1259 v1260 v1261 v1262 v2206 v2207 v2208 v2209 v2210 v2211 v2212 v2213 v2216 v2217) y) := by kernel_rfl
theorem impl_Whole_over_i1_l12_ok (v1259 v1260 : Int) (v1261 : List Int) (v1262 : Int) : LSound Try.prog 0 (impl_Whole_over_i1_LO v1259 v1260 v1261 v1262) 12 (bodyOf Try.f64 12) := by
  intro e L out h
  exact lo_ok (E := impl_Whole_over_i1_l12_E v1259 v1260 v1261 v1262 (gI (vAt e 11)) (gI (vAt e 16)) (gI (vAt e 17)) (gK (vAt e 23)) (gI (vAt e 24)) (gI (vAt e 155)) (gI (vAt e 156)) (gI (vAt e 173)) (gX L (vAt e 9) 0) (gRI L (vAt e 10))) (gT := impl_Whole_over_i1_l12_T v1262 (gI (vAt e 11)) (gI (vAt e 16)) (gI (vAt e 17)) (gK (vAt e 23)) (gI (vAt e 24)) (gI (vAt e 155)) (gI (vAt e 156)) (gI (vAt e 173)) (gX L (vAt e 9) 0) (gRI L (vAt e 10))) (X := impl_Whole_over_i1_l12_X v1259 v1260 v1261 v1262 (gI (vAt e 11)) (gI (vAt e 16)) (gI (vAt e 17)) (gK (vAt e 23)) (gI (vAt e 24)) (gI (vAt e 155)) (gI (vAt e 156)) (gI (vAt e 173)) (gX L (vAt e 9) 0) (gRI L (vAt e 10))) (s0 := ((gI (vAt e 174)), (gPI L (vAt e 9) 0))) tok impl_Whole_over_i1_hO mixed (LoopsOk_eq (l := []) (by kernel_rfl) trivial) (impl_Whole_over_i1_l12_be v1259 v1260 v1261 v1262 (gI (vAt e 11)) (gI (vAt e 16)) (gI (vAt e 17)) (gK (vAt e 23)) (gI (vAt e 24)) (gI (vAt e 155)) (gI (vAt e 156)) (gI (vAt e 173)) (gX L (vAt e 9) 0) (gRI L (vAt e 10))) rfl (by intro x; rfl) h
theorem impl_Whole_over_i1_l10_be (v1259 v1260 : Int) (v1261 : List Int) (v1262 v2172 v2173 v2174 v2175 : Int) (v2178 : List Nat) (v2179 : List Int) (s : Int × (List (List Int))) : bodyT TT (tabD impl_Whole_over_i1_tab) (tabM impl_Whole_over_i1_tab) (impl_Whole_over_i1_LO v1259 v1260 v1261 v1262) 0 impl_Whole_over_i1_l10_kill impl_Whole_over_i1_l10_nx (bodyOf Try.f64 10) 10 (impl_Whole_over_i1_l10_E v1259 v1260 v1261 v1262 v2172 v2173 v2174 v2175 v2178 v2179 s) = (impl_Whole_over_i1_l10_T v1259 v1260 v1261 v1262 v2172 v2173 v2174 v2175 v2178 v2179 s).bind fun y => .leaf (outS (impl_Whole_over_i1_l10_E v1259 v1260 v1261 v1262 v2172 v2173 v2174 v2175 v2178 v2179) (impl_Whole_over_i1_l10_X v1259 v1260 v1261 v1262 v2172 v2173 v2174 v2175 v2178 v2179) y) := by kernel_rfl
theorem impl_Whole_over_i1_l10_ok (v1259 v1260 : Int) (v1261 : List Int) (v1262 : Int) : LSound Try.prog 0 (impl_Whole_over_i1_LO v1259 v1260 v1261 v1262) 10 (bodyOf Try.f64 10) := by
  intro e L out h
  exact lo_ok (E := impl_Whole_over_i1_l10_E v1259 v1260 v1261 v1262 (gI (vAt e 11)) (gI (vAt e 16)) (gI (vAt e 17)) (gI (vAt e 155)) (gX L (vAt e 9) 0) (gRI L (vAt e 10))) (gT := impl_Whole_over_i1_l10_T v1259 v1260 v1261 v1262 (gI (vAt e 11)) (gI (vAt e 16)) (gI (vAt e 17)) (gI (vAt e 155)) (gX L (vAt e 9) 0) (gRI L (vAt e 10))) (X := impl_Whole_over_i1_l10_X v1259 v1260 v1261 v1262 (gI (vAt e 11)) (gI (vAt e 16)) (gI (vAt e 17)) (gI (vAt e 155)) (gX L (vAt e 9) 0) (gRI L (vAt e 10))) (s0 := ((gI (vAt e 156)), (gPI L (vAt e 9) 0))) tok impl_Whole_over_i1_hO mixed (LoopsOk_eq (l := [(12, bodyOf Try.f64 12)]) (by kernel_rfl) ⟨impl_Whole_over_i1_l12_ok v1259 v1260 v1261 v1262, trivial⟩) (impl_Whole_over_i1_l10_be v1259 v1260 v1261 v1262 (gI (vAt e 11)) (gI (vAt e 16)) (gI (vAt e 17)) (gI (vAt e 155)) (gX L (vAt e 9) 0) (gRI L (vAt e 10))) rfl (by intro x; rfl) h
theorem impl_Whole_over_i1_l4_be (v1259 v1260 : Int) (v1261 : List Int) (v1262 : Int) (s : Int × Int × (List (List Int)) × (List Nat) × (List Int)) : bodyT TT (tabD impl_Whole_over_i1_tab) (tabM impl_Whole_over_i1_tab) (impl_Whole_over_i1_LO v1259 v1260 v1261 v1262) 0 impl_Whole_over_i1_l4_kill impl_Whole_over_i1_l4_nx (bodyOf Try.f64 4) 4 (impl_Whole_over_i1_l4_E v1259 v1260 v1261 v1262 s) = (impl_Whole_over_i1_l4_T v1259 v1260 v1261 v1262 s).bind fun y => .leaf (outS (impl_Whole_over_i1_l4_E v1259 v1260 v1261 v1262) (impl_Whole_over_i1_l4_X v1259 v1260 v1261 v1262) y) := by kernel_rfl
theorem impl_Whole_over_i1_l4_ok (v1259 v1260 : Int) (v1261 : List Int) (v1262 : Int) : LSound Try.prog 0 (impl_Whole_over_i1_LO v1259 v1260 v1261 v1262) 4 (bodyOf Try.f64 4) := by
  intro e L out h
  exact lo_ok (E := impl_Whole_over_i1_l4_E v1259 v1260 v1261 v1262) (gT := impl_Whole_over_i1_l4_T v1259 v1260 v1261 v1262) (X := impl_Whole_over_i1_l4_X v1259 v1260 v1261 v1262) (s0 := ((gI (vAt e 11)), (gI (vAt e 66)), (gPI L (vAt e 9) 0), (gX L (vAt e 9) 0), (gRI L (vAt e 10)))) tok impl_Whole_over_i1_hO mixed (LoopsOk_eq (l := [(6, bodyOf Try.f64 6), (8, bodyOf Try.f64 8), (10, bodyOf Try.f64 10)]) (by kernel_rfl) ⟨impl_Whole_over_i1_l6_ok v1259 v1260 v1261 v1262, impl_Whole_over_i1_l8_ok v1259 v1260 v1261 v1262, impl_Whole_over_i1_l10_ok v1259 v1260 v1261 v1262, trivial⟩) (impl_Whole_over_i1_l4_be v1259 v1260 v1261 v1262) rfl (by intro x; rfl) h
noncomputable def impl_Whole_over_i1_T (v1259 v1260 : Int) (v1261 : List Int) (v1262 : Int) : Tree (Int × (List (List Int)) × (List Nat) × (List Int)) :=
  (.need (some (impl_Whole_over_i1_l0_E v1259 v1260 v1261 v1262 ((0 : Int), ([] : List (List Int)), ([] : List Nat))) = some (impl_Whole_over_i1_l0_E v1259 v1260 v1261 v1262 ((0 : Int), ([] : List (List Int)), ([] : List Nat)))) <|
  (.call (impl_Whole_over_i1_l0_g v1259 v1260 v1261 v1262 ((0 : Int), ([] : List (List Int)), ([] : List Nat))) fun v1333 =>
  (.need (some (impl_Whole_over_i1_l4_E v1259 v1260 v1261 v1262 ((1 : Int), (0 : Int), v1333.1, v1333.2, ([] : List Int))) = some (impl_Whole_over_i1_l4_E v1259 v1260 v1261 v1262 ((1 : Int), (0 : Int), v1333.1, v1333.2, ([] : List Int)))) <|
  (.call (impl_Whole_over_i1_l4_g v1259 v1260 v1261 v1262 ((1 : Int), (0 : Int), v1333.1, v1333.2, ([] : List Int))) fun v2395 =>
  .leaf (v2395.1, v2395.2.1, v2395.2.2.1, v2395.2.2.2)))))

noncomputable def impl_Whole_over_i1_g (v1259 v1260 : Int) (v1261 : List Int) (v1262 : Int) : Option (Int × (List (List Int)) × (List Nat) × (List Int)) := (impl_Whole_over_i1_T v1259 v1260 v1261 v1262).run
def impl_Whole_over_i1_enc (v1259 v1260 : Int) (v1261 : List Int) (v1262 : Int) (y : Int × (List (List Int)) × (List Nat) × (List Int)) : Rs := (.tup [.nest 0 0 1 ((y.2.2.1).length), .own 1 0 ((y.2.2.2).length), .int .i64 y.1], [.nest [.sl (.i64 y.2.1) y.2.2.1] false 0, .row (.i64 y.2.2.2) 0])
theorem impl_Whole_over_i1_den (v1259 v1260 : Int) (v1261 : List Int) (v1262 : Int) : (den TT (tabD impl_Whole_over_i1_tab) (tabM impl_Whole_over_i1_tab) (impl_Whole_over_i1_LO v1259 v1260 v1261 v1262) (codeOf Try.f64) ([.agg [.int .i64 v1259, .int .i64 v1260, .bslc (BR.root 0) (.i64 v1261)], .int .i64 v1262, .nilslc] ++ List.replicate (Try.f64.ntmps - ([.agg [.int .i64 v1259, .int .i64 v1260, .bslc (BR.root 0) (.i64 v1261)], .int .i64 v1262, .nilslc] : List DV).length) .undef) []).bind (retD TT Try.f64.results.toList 0) = (impl_Whole_over_i1_T v1259 v1260 v1261 v1262).bind fun y => .leaf (impl_Whole_over_i1_enc v1259 v1260 v1261 v1262 y) := by kernel_rfl
theorem impl_Whole_over_i1_fn (v1259 v1260 : Int) (v1261 : List Int) (v1262 : Int) (F : Fr) (h0 : St F [] F.H0) (hA : DVs.Ok F [] [.agg [.int .i64 v1259, .int .i64 v1260, .bslc (BR.root 0) (.i64 v1261)], .int .i64 v1262, .nilslc]) {y : Int × (List (List Int)) × (List Nat) × (List Int)} (hy : impl_Whole_over_i1_g v1259 v1260 v1261 v1262 = some y) : ∃ F' H', Fwd 0 F F' [] (impl_Whole_over_i1_enc v1259 v1260 v1261 v1262 y).2 ∧ FnOk Try.prog 64 (DVs.av F [.agg [.int .i64 v1259, .int .i64 v1260, .bslc (BR.root 0) (.i64 v1261)], .int .i64 v1262, .nilslc]) F.H0 ((impl_Whole_over_i1_enc v1259 v1260 v1261 v1262 y).1.av F') H' ∧ St F' (impl_Whole_over_i1_enc v1259 v1260 v1261 v1262 y).2 H' ∧ (impl_Whole_over_i1_enc v1259 v1260 v1261 v1262 y).1.Ok F' (impl_Whole_over_i1_enc v1259 v1260 v1261 v1262 y).2 :=
  fn_fin tok impl_Whole_over_i1_hO mixed Try.func64 Try.call64 (by kernel_rfl) (LoopsOk_eq (l := [(0, bodyOf Try.f64 0), (4, bodyOf Try.f64 4)]) (by kernel_rfl) ⟨impl_Whole_over_i1_l0_ok v1259 v1260 v1261 v1262, impl_Whole_over_i1_l4_ok v1259 v1260 v1261 v1262, trivial⟩) (impl_Whole_over_i1_den v1259 v1260 v1261 v1262) hy h0 hA
noncomputable def impl_Whole_over_i1_F : DFn := fun args L =>
  match args with
  | [.agg [.int .i64 v1259, .int .i64 v1260, a1], .int .i64 v1262, .nilslc] =>
    optT (rowI64 L a1) fun v1261 =>
    .call (impl_Whole_over_i1_g v1259 v1260 v1261 v1262) fun y => .leaf (.tup [.nest (L.length + 0) 0 1 ((y.2.2.1).length), .own (L.length + 1) 0 ((y.2.2.2).length), .int .i64 y.1], L ++ [.nest [.sl (.i64 y.2.1) y.2.2.1] false 0, .row (.i64 y.2.2.2) 0])
  | _ => .fail
theorem impl_Whole_over_i1_Fok : COk Try.prog 64 impl_Whole_over_i1_F true := by
  intro F L H args r L' hs ha hr
  unfold impl_Whole_over_i1_F at hr
  split at hr
  · rename_i v1259 v1260 a1 v1262
    obtain ⟨v1261, hv1261, hr⟩ := optT_run hr
    simp only [Tree.run] at hr
    obtain ⟨y, hy, hr⟩ := Option.bind_eq_some_iff.1 hr
    simp only [Tree.run, Option.some.injEq, Prod.mk.injEq] at hr
    obtain ⟨rfl, rfl⟩ := hr
    exact call_ok1 hs (fun k => (([a1.av F] : List AV)[k]?).getD .top) [.agg [.int .i64 v1259, .int .i64 v1260, a1], .int .i64 v1262, .nilslc] [.agg [.int .i64 v1259, .int .i64 v1260, .bslc (BR.root 0) (.i64 v1261)], .int .i64 v1262, .nilslc] (fun F' h0 hi hρ => ⟨by simp [DVs.av, DV.av, BR.av, hρ], impl_Whole_over_i1_fn v1259 v1260 v1261 v1262 F' (st_nil hi) ⟨⟨trivial, trivial, bslc_ok hi (by rw [h0, hρ]; exact rowI64_ok hs (DVs.okAt (DVs.okAt ha 0 rfl) 2 rfl) hv1261), trivial⟩, trivial, trivial, trivial⟩ hy⟩) rfl rfl
  · cases hr
/-! impl.RankOver -/
noncomputable def impl_RankOver_LO (v57 v58 : Int) (v59 : List Int) (v60 : Int) : LOr := fun id e L =>
  match id with
  | _ => .fail
noncomputable def impl_RankOver_tab : List (FuncId × DFn × Bool) := [(63, impl_ValidWhole_F, true), (58, impl_IsPrime_F, true), (64, impl_Whole_over_i1_F, true), (65, impl_lengthI_F, true)]
theorem impl_RankOver_hO : OrcOk Try.prog (tabD impl_RankOver_tab) (tabM impl_RankOver_tab) := tabD_cons impl_ValidWhole_Fok (tabD_cons impl_IsPrime_Fok (tabD_cons impl_Whole_over_i1_Fok (tabD_cons impl_lengthI_Fok (tabD_nil _))))
noncomputable def impl_RankOver_T (v57 v58 : Int) (v59 : List Int) (v60 : Int) : Tree ((Unit) ⊕ (Int)) :=
  (.call (impl_ValidWhole_g v57 v58 v59) fun v94 =>
  (.br (!v94) (
  .leaf (.inl ())
  ) (
  (.call (impl_IsPrime_g v60) fun v102 =>
  (.br (!v102) (
  .leaf (.inl ())
  ) (
  (.call (impl_Whole_over_i1_g v57 v58 v59 v60) fun v2396 =>
  .leaf (.inr (impl_lengthI_v v2396.2.2.2)))
  )))
  )))

noncomputable def impl_RankOver_g (v57 v58 : Int) (v59 : List Int) (v60 : Int) : Option ((Unit) ⊕ (Int)) := (impl_RankOver_T v57 v58 v59 v60).run
def impl_RankOver_enc (v57 v58 : Int) (v59 : List Int) (v60 : Int) (y : (Unit) ⊕ (Int)) : Rs := (match y with | .inl y => (.tup [.int .i64 (0 : Int), .lit false], []) | .inr y => (.tup [.int .i64 y, .lit true], []))
theorem impl_RankOver_den (v57 v58 : Int) (v59 : List Int) (v60 : Int) : (den TT (tabD impl_RankOver_tab) (tabM impl_RankOver_tab) (impl_RankOver_LO v57 v58 v59 v60) (codeOf Try.f18) ([.agg [.int .i64 v57, .int .i64 v58, .bslc (BR.root 0) (.i64 v59)], .int .i64 v60] ++ List.replicate (Try.f18.ntmps - ([.agg [.int .i64 v57, .int .i64 v58, .bslc (BR.root 0) (.i64 v59)], .int .i64 v60] : List DV).length) .undef) []).bind (retD TT Try.f18.results.toList 0) = (impl_RankOver_T v57 v58 v59 v60).bind fun y => .leaf (impl_RankOver_enc v57 v58 v59 v60 y) := by kernel_rfl
theorem impl_RankOver_fn (v57 v58 : Int) (v59 : List Int) (v60 : Int) (F : Fr) (h0 : St F [] F.H0) (hA : DVs.Ok F [] [.agg [.int .i64 v57, .int .i64 v58, .bslc (BR.root 0) (.i64 v59)], .int .i64 v60]) {y : (Unit) ⊕ (Int)} (hy : impl_RankOver_g v57 v58 v59 v60 = some y) : ∃ F' H', Fwd 0 F F' [] (impl_RankOver_enc v57 v58 v59 v60 y).2 ∧ FnOk Try.prog 18 (DVs.av F [.agg [.int .i64 v57, .int .i64 v58, .bslc (BR.root 0) (.i64 v59)], .int .i64 v60]) F.H0 ((impl_RankOver_enc v57 v58 v59 v60 y).1.av F') H' ∧ St F' (impl_RankOver_enc v57 v58 v59 v60 y).2 H' ∧ (impl_RankOver_enc v57 v58 v59 v60 y).1.Ok F' (impl_RankOver_enc v57 v58 v59 v60 y).2 :=
  fn_fin tok impl_RankOver_hO mixed Try.func18 Try.call18 (by kernel_rfl) (LoopsOk_eq (l := []) (by kernel_rfl) trivial) (impl_RankOver_den v57 v58 v59 v60) hy h0 hA
noncomputable def impl_RankOver_F : DFn := fun args L =>
  match args with
  | [.agg [.int .i64 v57, .int .i64 v58, a1], .int .i64 v60] =>
    optT (rowI64 L a1) fun v59 =>
    .call (impl_RankOver_g v57 v58 v59 v60) fun y => .sum y (fun y0 => .leaf (.tup [.int .i64 (0 : Int), .lit false], L)) (fun z0 => .leaf (.tup [.int .i64 z0, .lit true], L))
  | _ => .fail
theorem impl_RankOver_Fok : COk Try.prog 18 impl_RankOver_F true := by
  intro F L H args r L' hs ha hr
  unfold impl_RankOver_F at hr
  split at hr
  · rename_i v57 v58 a1 v60
    obtain ⟨v59, hv59, hr⟩ := optT_run hr
    simp only [Tree.run] at hr
    obtain ⟨y, hy, hr⟩ := Option.bind_eq_some_iff.1 hr
    cases y with
    | inl y =>
      simp only [Tree.run, Option.some.injEq, Prod.mk.injEq] at hr
      obtain ⟨rfl, rfl⟩ := hr
      exact call_ok0 hs (fun k => (([a1.av F] : List AV)[k]?).getD .top) [.agg [.int .i64 v57, .int .i64 v58, a1], .int .i64 v60] [.agg [.int .i64 v57, .int .i64 v58, .bslc (BR.root 0) (.i64 v59)], .int .i64 v60] (fun F' h0 hi hρ => ⟨by simp [DVs.av, DV.av, BR.av, hρ], impl_RankOver_fn v57 v58 v59 v60 F' (st_nil hi) ⟨⟨trivial, trivial, bslc_ok hi (by rw [h0, hρ]; exact rowI64_ok hs (DVs.okAt (DVs.okAt ha 0 rfl) 2 rfl) hv59), trivial⟩, trivial, trivial⟩ hy⟩) rfl
    | inr y =>
      simp only [Tree.run, Option.some.injEq, Prod.mk.injEq] at hr
      obtain ⟨rfl, rfl⟩ := hr
      exact call_ok0 hs (fun k => (([a1.av F] : List AV)[k]?).getD .top) [.agg [.int .i64 v57, .int .i64 v58, a1], .int .i64 v60] [.agg [.int .i64 v57, .int .i64 v58, .bslc (BR.root 0) (.i64 v59)], .int .i64 v60] (fun F' h0 hi hρ => ⟨by simp [DVs.av, DV.av, BR.av, hρ], impl_RankOver_fn v57 v58 v59 v60 F' (st_nil hi) ⟨⟨trivial, trivial, bslc_ok hi (by rw [h0, hρ]; exact rowI64_ok hs (DVs.okAt (DVs.okAt ha 0 rfl) 2 rfl) hv59), trivial⟩, trivial, trivial⟩ hy⟩) rfl
  · cases hr
/-! slices.Index[list of int64,int64] -/
noncomputable def slices_IndexI_l0_T (v2413 : List Int) (v2414 s : Int) : Tree ((Int) ⊕ ((Int) ⊕ (Unit))) :=
  (.br (decide (s < ((v2413.length : Nat) : Int))) (
  (.grd (inb s v2413.length) <|
  (.br (decide (v2414 = nth v2413 (Int.toNat s))) (
  .leaf (.inr (.inl s))
  ) (
  .leaf (.inl (IntKind.i64.wrap (s + (1 : Int))))
  )))
  ) (
  .leaf (.inr (.inr ()))
  ))

noncomputable def slices_IndexI_l0_g (v2413 : List Int) (v2414 s0 : Int) : Option ((Int) ⊕ (Unit)) := whileM (fun s => (slices_IndexI_l0_T v2413 v2414 s).run) s0
def slices_IndexI_l0_E (v2413 : List Int) (v2414 s : Int) : Sd := ([.bslc (BR.root 0) (.i64 v2413),.int .i64 v2414,Z,Z,Z,Z,Z,.int .i64 ((v2413.length : Nat) : Int),.int .i64 s,Z,Z,Z,Z,Z,Z,Z,Z,Z,Z], [])
def slices_IndexI_l0_X (v2413 : List Int) (v2414 : Int) (x : (Int) ⊕ (Unit)) : Out := (match x with | .inl x => (.ret, [Z,Z,Z,Z,.int .i64 x,Z,Z,Z,Z,Z,Z,Z,Z,Z,Z,Z,Z,Z,Z], []) | .inr x => (.normal, [Z,Z,Z,Z,Z,Z,Z,Z,Z,Z,Z,Z,Z,Z,Z,Z,Z,Z,Z], []))
def slices_IndexI_l0_kill : List Nat := KL true [0,2,5,2,10]
def slices_IndexI_l0_nx : Exit → List Nat
  | .exit 0 => KL true [19]
  | .ret => KL true [4,1,14]
  | _ => []
noncomputable def slices_IndexI_LO (v2413 : List Int) (v2414 : Int) : LOr := fun id e L =>
  match id with
  | 0 => .need (normA 0 slices_IndexI_l0_kill e L = some (slices_IndexI_l0_E v2413 v2414 (gI (vAt e 8)))) (.call (slices_IndexI_l0_g v2413 v2414 (gI (vAt e 8))) fun x => .sum x (fun b0 => .leaf (slices_IndexI_l0_X v2413 v2414 (.inl b0))) (fun c0 => .leaf (slices_IndexI_l0_X v2413 v2414 (.inr c0))))
  | _ => .fail
noncomputable def slices_IndexI_tab : List (FuncId × DFn × Bool) := []
theorem slices_IndexI_hO : OrcOk Try.prog (tabD slices_IndexI_tab) (tabM slices_IndexI_tab) := tabD_nil _
theorem slices_IndexI_l0_be (v2413 : List Int) (v2414 s : Int) : bodyT TT (tabD slices_IndexI_tab) (tabM slices_IndexI_tab) (slices_IndexI_LO v2413 v2414) 0 slices_IndexI_l0_kill slices_IndexI_l0_nx (bodyOf Try.f130 0) 0 (slices_IndexI_l0_E v2413 v2414 s) = (slices_IndexI_l0_T v2413 v2414 s).bind fun y => .leaf (outS (slices_IndexI_l0_E v2413 v2414) (slices_IndexI_l0_X v2413 v2414) y) := by kernel_rfl
theorem slices_IndexI_l0_ok (v2413 : List Int) (v2414 : Int) : LSound Try.prog 0 (slices_IndexI_LO v2413 v2414) 0 (bodyOf Try.f130 0) := by
  intro e L out h
  exact lo_ok (E := slices_IndexI_l0_E v2413 v2414) (gT := slices_IndexI_l0_T v2413 v2414) (X := slices_IndexI_l0_X v2413 v2414) (s0 := (gI (vAt e 8))) tok slices_IndexI_hO mixed (LoopsOk_eq (l := []) (by kernel_rfl) trivial) (slices_IndexI_l0_be v2413 v2414) rfl (by intro x; (cases x with | inl b => rfl | inr x => exact rfl)) h
noncomputable def slices_IndexI_T (v2413 : List Int) (v2414 : Int) : Tree (Int) :=
  (.need (some (slices_IndexI_l0_E v2413 v2414 (0 : Int)) = some (slices_IndexI_l0_E v2413 v2414 (0 : Int))) <|
  (.call (slices_IndexI_l0_g v2413 v2414 (0 : Int)) fun v2418 =>
  (.sum v2418 (fun v2419 =>
  .leaf v2419
  ) (fun v2420 =>
  .leaf (-1 : Int)
  ))))

noncomputable def slices_IndexI_g (v2413 : List Int) (v2414 : Int) : Option (Int) := (slices_IndexI_T v2413 v2414).run
def slices_IndexI_enc (v2413 : List Int) (v2414 y : Int) : Rs := (.int .i64 y, [])
theorem slices_IndexI_den (v2413 : List Int) (v2414 : Int) : (den TT (tabD slices_IndexI_tab) (tabM slices_IndexI_tab) (slices_IndexI_LO v2413 v2414) (codeOf Try.f130) ([.bslc (BR.root 0) (.i64 v2413), .int .i64 v2414] ++ List.replicate (Try.f130.ntmps - ([.bslc (BR.root 0) (.i64 v2413), .int .i64 v2414] : List DV).length) .undef) []).bind (retD TT Try.f130.results.toList 0) = (slices_IndexI_T v2413 v2414).bind fun y => .leaf (slices_IndexI_enc v2413 v2414 y) := by kernel_rfl
theorem slices_IndexI_fn (v2413 : List Int) (v2414 : Int) (F : Fr) (h0 : St F [] F.H0) (hA : DVs.Ok F [] [.bslc (BR.root 0) (.i64 v2413), .int .i64 v2414]) {y : Int} (hy : slices_IndexI_g v2413 v2414 = some y) : ∃ F' H', Fwd 0 F F' [] (slices_IndexI_enc v2413 v2414 y).2 ∧ FnOk Try.prog 130 (DVs.av F [.bslc (BR.root 0) (.i64 v2413), .int .i64 v2414]) F.H0 ((slices_IndexI_enc v2413 v2414 y).1.av F') H' ∧ St F' (slices_IndexI_enc v2413 v2414 y).2 H' ∧ (slices_IndexI_enc v2413 v2414 y).1.Ok F' (slices_IndexI_enc v2413 v2414 y).2 :=
  fn_fin tok slices_IndexI_hO mixed Try.func130 Try.call130 (by kernel_rfl) (LoopsOk_eq (l := [(0, bodyOf Try.f130 0)]) (by kernel_rfl) ⟨slices_IndexI_l0_ok v2413 v2414, trivial⟩) (slices_IndexI_den v2413 v2414) hy h0 hA
noncomputable def slices_IndexI_F : DFn := fun args L =>
  match args with
  | [a1, .int .i64 v2414] =>
    optT (rowI64 L a1) fun v2413 =>
    .call (slices_IndexI_g v2413 v2414) fun y => .leaf (.int .i64 y, L)
  | _ => .fail
theorem slices_IndexI_Fok : COk Try.prog 130 slices_IndexI_F true := by
  intro F L H args r L' hs ha hr
  unfold slices_IndexI_F at hr
  split at hr
  · rename_i a1 v2414
    obtain ⟨v2413, hv2413, hr⟩ := optT_run hr
    simp only [Tree.run] at hr
    obtain ⟨y, hy, hr⟩ := Option.bind_eq_some_iff.1 hr
    simp only [Tree.run, Option.some.injEq, Prod.mk.injEq] at hr
    obtain ⟨rfl, rfl⟩ := hr
    exact call_ok0 hs (fun k => (([a1.av F] : List AV)[k]?).getD .top) [a1, .int .i64 v2414] [.bslc (BR.root 0) (.i64 v2413), .int .i64 v2414] (fun F' h0 hi hρ => ⟨by simp [DVs.av, DV.av, BR.av, hρ], slices_IndexI_fn v2413 v2414 F' (st_nil hi) ⟨bslc_ok hi (by rw [h0, hρ]; exact rowI64_ok hs (DVs.okAt ha 0 rfl) hv2413), trivial, trivial⟩ hy⟩) rfl
  · cases hr
/-! slices.Contains[list of int64,int64] -/
noncomputable def slices_ContainsI_LO (v2411 : List Int) (v2412 : Int) : LOr := fun id e L =>
  match id with
  | _ => .fail
noncomputable def slices_ContainsI_tab : List (FuncId × DFn × Bool) := [(130, slices_IndexI_F, true)]
theorem slices_ContainsI_hO : OrcOk Try.prog (tabD slices_ContainsI_tab) (tabM slices_ContainsI_tab) := tabD_cons slices_IndexI_Fok (tabD_nil _)
noncomputable def slices_ContainsI_T (v2411 : List Int) (v2412 : Int) : Tree (Bool) :=
  (.call (slices_IndexI_g v2411 v2412) fun v2421 =>
  .leaf (decide ((0 : Int) ≤ v2421)))

noncomputable def slices_ContainsI_g (v2411 : List Int) (v2412 : Int) : Option (Bool) := (slices_ContainsI_T v2411 v2412).run
def slices_ContainsI_enc (v2411 : List Int) (v2412 : Int) (y : Bool) : Rs := (.bool y, [])
theorem slices_ContainsI_den (v2411 : List Int) (v2412 : Int) : (den TT (tabD slices_ContainsI_tab) (tabM slices_ContainsI_tab) (slices_ContainsI_LO v2411 v2412) (codeOf Try.f69) ([.bslc (BR.root 0) (.i64 v2411), .int .i64 v2412] ++ List.replicate (Try.f69.ntmps - ([.bslc (BR.root 0) (.i64 v2411), .int .i64 v2412] : List DV).length) .undef) []).bind (retD TT Try.f69.results.toList 0) = (slices_ContainsI_T v2411 v2412).bind fun y => .leaf (slices_ContainsI_enc v2411 v2412 y) := by kernel_rfl
theorem slices_ContainsI_fn (v2411 : List Int) (v2412 : Int) (F : Fr) (h0 : St F [] F.H0) (hA : DVs.Ok F [] [.bslc (BR.root 0) (.i64 v2411), .int .i64 v2412]) {y : Bool} (hy : slices_ContainsI_g v2411 v2412 = some y) : ∃ F' H', Fwd 0 F F' [] (slices_ContainsI_enc v2411 v2412 y).2 ∧ FnOk Try.prog 69 (DVs.av F [.bslc (BR.root 0) (.i64 v2411), .int .i64 v2412]) F.H0 ((slices_ContainsI_enc v2411 v2412 y).1.av F') H' ∧ St F' (slices_ContainsI_enc v2411 v2412 y).2 H' ∧ (slices_ContainsI_enc v2411 v2412 y).1.Ok F' (slices_ContainsI_enc v2411 v2412 y).2 :=
  fn_fin tok slices_ContainsI_hO mixed Try.func69 Try.call69 (by kernel_rfl) (LoopsOk_eq (l := []) (by kernel_rfl) trivial) (slices_ContainsI_den v2411 v2412) hy h0 hA
noncomputable def slices_ContainsI_F : DFn := fun args L =>
  match args with
  | [a1, .int .i64 v2412] =>
    optT (rowI64 L a1) fun v2411 =>
    .call (slices_ContainsI_g v2411 v2412) fun y => .leaf (.bool y, L)
  | _ => .fail
theorem slices_ContainsI_Fok : COk Try.prog 69 slices_ContainsI_F true := by
  intro F L H args r L' hs ha hr
  unfold slices_ContainsI_F at hr
  split at hr
  · rename_i a1 v2412
    obtain ⟨v2411, hv2411, hr⟩ := optT_run hr
    simp only [Tree.run] at hr
    obtain ⟨y, hy, hr⟩ := Option.bind_eq_some_iff.1 hr
    simp only [Tree.run, Option.some.injEq, Prod.mk.injEq] at hr
    obtain ⟨rfl, rfl⟩ := hr
    exact call_ok0 hs (fun k => (([a1.av F] : List AV)[k]?).getD .top) [a1, .int .i64 v2412] [.bslc (BR.root 0) (.i64 v2411), .int .i64 v2412] (fun F' h0 hi hρ => ⟨by simp [DVs.av, DV.av, BR.av, hρ], slices_ContainsI_fn v2411 v2412 F' (st_nil hi) ⟨bslc_ok hi (by rw [h0, hρ]; exact rowI64_ok hs (DVs.okAt ha 0 rfl) hv2411), trivial, trivial⟩ hy⟩) rfl
  · cases hr
/-! impl.NullOver -/
noncomputable def impl_NullOver_l2_T (v2403 v2513 v2514 : Int) (v2516 : List (List Int)) (v2517 : List Nat) (v2518 : List Int) (v2519 : List (List Int)) (v2520 : List Nat) (s : Int × (List Int)) : Tree ((Int × (List Int)) ⊕ ((List Int))) :=
  (.br (decide (s.1 < v2514)) (
  (.grd (inb s.1 ((v2518).length)) <|
  (.grd (inb s.1 ((v2517).length)) <|
  (.grd (inb v2513 ((nget v2516 (nth v2517 (Int.toNat s.1))).length)) <|
  (.call (impl_rest_g (IntKind.i64.wrap (0 - (nth (nget v2516 (nth v2517 (Int.toNat s.1))) (Int.toNat v2513)))) v2403) fun v2522 =>
  (.grd (inb (nth v2518 (Int.toNat s.1)) ((s.2).length)) <|
  .leaf (.inl (IntKind.i64.wrap (s.1 + (1 : Int)), List.set s.2 (Int.toNat (nth v2518 (Int.toNat s.1))) v2522)))))))
  ) (
  .leaf (.inr s.2)
  ))

noncomputable def impl_NullOver_l2_g (v2403 v2513 v2514 : Int) (v2516 : List (List Int)) (v2517 : List Nat) (v2518 : List Int) (v2519 : List (List Int)) (v2520 : List Nat) (s0 : Int × (List Int)) : Option ((List Int)) := whileM (fun s => (impl_NullOver_l2_T v2403 v2513 v2514 v2516 v2517 v2518 v2519 v2520 s).run) s0
def impl_NullOver_l2_E (v2400 v2401 : Int) (v2402 : List Int) (v2403 v2513 v2514 : Int) (v2516 : List (List Int)) (v2517 : List Nat) (v2518 : List Int) (v2519 : List (List Int)) (v2520 : List Nat) (s : Int × (List Int)) : Sd := ([Z,.int .i64 v2403,.ptr 0 (0 : Nat) 0 (3 : Nat),Z,Z,Z,.nest 1 0 1 ((v2517).length),.own 2 0 ((v2518).length),Z,.nest 3 0 1 ((v2520).length),.int .i64 v2513,.own 4 0 ((s.2).length),Z,Z,Z,Z,Z,Z,Z,Z,Z,Z,Z,Z,Z,Z,Z,Z,Z,Z,Z,.int .i64 v2401,.int .i64 v2513,Z,Z,Z,Z,Z,Z,Z,Z,Z,Z,Z,.own 2 0 ((v2518).length),.int .i64 v2514,.int .i64 s.1,Z,Z,Z,Z,Z,Z,Z,Z,Z,Z,Z,Z,Z,Z,Z,Z,Z,Z,Z,Z,Z,Z,Z,Z], [.gen [.int .i64 v2400, .int .i64 v2401, .bslc (BR.root 0) (.i64 v2402)] false 0, .nest [.sl (.i64 v2516) v2517] false 0, .row (.i64 v2518) 0, .nest [.sl (.i64 v2519) v2520] false 0, .row (.i64 s.2) 0])
def impl_NullOver_l2_X (v2400 v2401 : Int) (v2402 : List Int) (v2403 v2513 v2514 : Int) (v2516 : List (List Int)) (v2517 : List Nat) (v2518 : List Int) (v2519 : List (List Int)) (v2520 : List Nat) (x : (List Int)) : Out := (.normal, [Z,.int .i64 v2403,.ptr 0 (0 : Nat) 0 (3 : Nat),Z,Z,Z,.nest 1 0 1 ((v2517).length),.own 2 0 ((v2518).length),Z,.nest 3 0 1 ((v2520).length),Z,.own 4 0 ((x).length),Z,Z,Z,Z,Z,Z,Z,Z,Z,Z,Z,Z,Z,Z,Z,Z,Z,Z,Z,.int .i64 v2401,.int .i64 v2513,Z,Z,Z,Z,Z,Z,Z,Z,Z,Z,Z,Z,Z,Z,Z,Z,Z,Z,Z,Z,Z,Z,Z,Z,Z,Z,Z,Z,Z,Z,Z,Z,Z,Z,Z,Z,Z,Z], [.gen [.int .i64 v2400, .int .i64 v2401, .bslc (BR.root 0) (.i64 v2402)] false 0, .nest [.sl (.i64 v2516) v2517] false 0, .row (.i64 v2518) 0, .nest [.sl (.i64 v2519) v2520] false 0, .row (.i64 x) 0])
def impl_NullOver_l2_kill : List Nat := KL true [1,2,3,2,1,3,19,2,11,3,24]
def impl_NullOver_l2_nx : Exit → List Nat
  | .exit 0 => KL true [9,1,61]
  | .exit 1 => KL true [1,2,3,2,1,1,21,2,38]
  | .exit 2 => KL true [1,2,3,2,1,1,1,1,19,2,38]
  | .ret => KL true [4,2,65]
  | _ => []
noncomputable def impl_NullOver_l0_T (v2400 v2401 : Int) (v2402 : List Int) (v2403 : Int) (v2487 : List (List Int)) (v2488 : List Nat) (v2489 : List Int) (s : Int × (List (List Int)) × (List Nat)) : Tree ((Int × (List (List Int)) × (List Nat)) ⊕ ((List (List Int)) × (List Nat))) :=
  (.br (decide (s.1 < v2401)) (
  (.call (slices_ContainsI_g v2489 s.1) fun v2492 =>
  (.br v2492 (
  .leaf (.inl (IntKind.i64.wrap (s.1 + (1 : Int)), s.2.1, s.2.2))
  ) (
  (.need (v2401 = v2401) <|
  (.grd (inb v2401 (maxN + 1)) <|
  (.grd (inb s.1 (Int.toNat v2401)) <|
  (.need (some (impl_NullOver_l2_E v2400 v2401 v2402 v2403 s.1 (((v2489).length : Nat) : Int) v2487 v2488 v2489 s.2.1 s.2.2 ((0 : Int), List.set (List.replicate (Int.toNat v2401) (0 : Int)) (Int.toNat s.1) (1 : Int))) = some (impl_NullOver_l2_E v2400 v2401 v2402 v2403 s.1 (((v2489).length : Nat) : Int) v2487 v2488 v2489 s.2.1 s.2.2 ((0 : Int), List.set (List.replicate (Int.toNat v2401) (0 : Int)) (Int.toNat s.1) (1 : Int)))) <|
  (.call (impl_NullOver_l2_g v2403 s.1 (((v2489).length : Nat) : Int) v2487 v2488 v2489 s.2.1 s.2.2 ((0 : Int), List.set (List.replicate (Int.toNat v2401) (0 : Int)) (Int.toNat s.1) (1 : Int))) fun v2523 =>
  (.grd (fits (((s.2.2).length) + (1 : Nat))) <|
  .leaf (.inl (IntKind.i64.wrap (s.1 + (1 : Int)), s.2.1 ++ ([v2523] : List (List Int)), s.2.2 ++ [s.2.1.length + 1]))))))))
  )))
  ) (
  .leaf (.inr (s.2.1, s.2.2))
  ))

noncomputable def impl_NullOver_l0_g (v2400 v2401 : Int) (v2402 : List Int) (v2403 : Int) (v2487 : List (List Int)) (v2488 : List Nat) (v2489 : List Int) (s0 : Int × (List (List Int)) × (List Nat)) : Option ((List (List Int)) × (List Nat)) := whileM (fun s => (impl_NullOver_l0_T v2400 v2401 v2402 v2403 v2487 v2488 v2489 s).run) s0
def impl_NullOver_l0_E (v2400 v2401 : Int) (v2402 : List Int) (v2403 : Int) (v2487 : List (List Int)) (v2488 : List Nat) (v2489 : List Int) (s : Int × (List (List Int)) × (List Nat)) : Sd := ([Z,.int .i64 v2403,.ptr 0 (0 : Nat) 0 (3 : Nat),Z,Z,Z,.nest 1 0 1 ((v2488).length),.own 2 0 ((v2489).length),Z,.nest 3 0 1 ((s.2.2).length),Z,Z,Z,Z,Z,Z,Z,Z,Z,Z,Z,Z,Z,Z,Z,Z,Z,Z,Z,Z,Z,.int .i64 v2401,.int .i64 s.1,Z,Z,Z,Z,Z,Z,Z,Z,Z,Z,Z,Z,Z,Z,Z,Z,Z,Z,Z,Z,Z,Z,Z,Z,Z,Z,Z,Z,Z,Z,Z,Z,Z,Z,Z,Z,Z,Z], [.gen [.int .i64 v2400, .int .i64 v2401, .bslc (BR.root 0) (.i64 v2402)] false 0, .nest [.sl (.i64 v2487) v2488] false 0, .row (.i64 v2489) 0, .nest [.sl (.i64 s.2.1) s.2.2] false 0])
def impl_NullOver_l0_X (v2400 v2401 : Int) (v2402 : List Int) (v2403 : Int) (v2487 : List (List Int)) (v2488 : List Nat) (v2489 : List Int) (x : (List (List Int)) × (List Nat)) : Out := (.normal, [Z,Z,Z,Z,Z,Z,Z,Z,Z,.nest 0 0 1 ((x.2).length),Z,Z,Z,Z,Z,Z,Z,Z,Z,Z,Z,Z,Z,Z,Z,Z,Z,Z,Z,Z,Z,Z,Z,Z,Z,Z,Z,Z,Z,Z,Z,Z,Z,Z,Z,Z,Z,Z,Z,Z,Z,Z,Z,Z,Z,Z,Z,Z,Z,Z,Z,Z,Z,Z,Z,Z,Z,Z,Z,Z,Z], [.nest [.sl (.i64 x.1) x.2] false 0])
def impl_NullOver_l0_kill : List Nat := KL true [1,2,3,2,1,1,21,2,38]
def impl_NullOver_l0_nx : Exit → List Nat
  | .exit 0 => KL true [9,1,61]
  | .ret => KL true [4,2,65]
  | _ => []
noncomputable def impl_NullOver_LO (v2400 v2401 : Int) (v2402 : List Int) (v2403 : Int) : LOr := fun id e L =>
  match id with
  | 2 => .need (normA 0 impl_NullOver_l2_kill e L = some (impl_NullOver_l2_E v2400 v2401 v2402 v2403 (gI (vAt e 10)) (gI (vAt e 45)) (gPI L (vAt e 6) 0) (gX L (vAt e 6) 0) (gRI L (vAt e 7)) (gPI L (vAt e 9) 0) (gX L (vAt e 9) 0) ((gI (vAt e 46)), (gRI L (vAt e 11))))) (.call (impl_NullOver_l2_g v2403 (gI (vAt e 10)) (gI (vAt e 45)) (gPI L (vAt e 6) 0) (gX L (vAt e 6) 0) (gRI L (vAt e 7)) (gPI L (vAt e 9) 0) (gX L (vAt e 9) 0) ((gI (vAt e 46)), (gRI L (vAt e 11)))) fun x => .leaf (impl_NullOver_l2_X v2400 v2401 v2402 v2403 (gI (vAt e 10)) (gI (vAt e 45)) (gPI L (vAt e 6) 0) (gX L (vAt e 6) 0) (gRI L (vAt e 7)) (gPI L (vAt e 9) 0) (gX L (vAt e 9) 0) x))
  | 0 => .need (normA 0 impl_NullOver_l0_kill e L = some (impl_NullOver_l0_E v2400 v2401 v2402 v2403 (gPI L (vAt e 6) 0) (gX L (vAt e 6) 0) (gRI L (vAt e 7)) ((gI (vAt e 32)), (gPI L (vAt e 9) 0), (gX L (vAt e 9) 0)))) (.call (impl_NullOver_l0_g v2400 v2401 v2402 v2403 (gPI L (vAt e 6) 0) (gX L (vAt e 6) 0) (gRI L (vAt e 7)) ((gI (vAt e 32)), (gPI L (vAt e 9) 0), (gX L (vAt e 9) 0))) fun x => .leaf (impl_NullOver_l0_X v2400 v2401 v2402 v2403 (gPI L (vAt e 6) 0) (gX L (vAt e 6) 0) (gRI L (vAt e 7)) x))
  | _ => .fail
noncomputable def impl_NullOver_tab : List (FuncId × DFn × Bool) := [(63, impl_ValidWhole_F, true), (58, impl_IsPrime_F, true), (64, impl_Whole_over_i1_F, true), (69, slices_ContainsI_F, true), (70, impl_rest_F, true)]
theorem impl_NullOver_hO : OrcOk Try.prog (tabD impl_NullOver_tab) (tabM impl_NullOver_tab) := tabD_cons impl_ValidWhole_Fok (tabD_cons impl_IsPrime_Fok (tabD_cons impl_Whole_over_i1_Fok (tabD_cons slices_ContainsI_Fok (tabD_cons impl_rest_Fok (tabD_nil _)))))
theorem impl_NullOver_l2_be (v2400 v2401 : Int) (v2402 : List Int) (v2403 v2513 v2514 : Int) (v2516 : List (List Int)) (v2517 : List Nat) (v2518 : List Int) (v2519 : List (List Int)) (v2520 : List Nat) (s : Int × (List Int)) : bodyT TT (tabD impl_NullOver_tab) (tabM impl_NullOver_tab) (impl_NullOver_LO v2400 v2401 v2402 v2403) 0 impl_NullOver_l2_kill impl_NullOver_l2_nx (bodyOf Try.f27 2) 2 (impl_NullOver_l2_E v2400 v2401 v2402 v2403 v2513 v2514 v2516 v2517 v2518 v2519 v2520 s) = (impl_NullOver_l2_T v2403 v2513 v2514 v2516 v2517 v2518 v2519 v2520 s).bind fun y => .leaf (outS (impl_NullOver_l2_E v2400 v2401 v2402 v2403 v2513 v2514 v2516 v2517 v2518 v2519 v2520) (impl_NullOver_l2_X v2400 v2401 v2402 v2403 v2513 v2514 v2516 v2517 v2518 v2519 v2520) y) := by kernel_rfl
theorem impl_NullOver_l2_ok (v2400 v2401 : Int) (v2402 : List Int) (v2403 : Int) : LSound Try.prog 0 (impl_NullOver_LO v2400 v2401 v2402 v2403) 2 (bodyOf Try.f27 2) := by
  intro e L out h
  exact lo_ok (E := impl_NullOver_l2_E v2400 v2401 v2402 v2403 (gI (vAt e 10)) (gI (vAt e 45)) (gPI L (vAt e 6) 0) (gX L (vAt e 6) 0) (gRI L (vAt e 7)) (gPI L (vAt e 9) 0) (gX L (vAt e 9) 0)) (gT := impl_NullOver_l2_T v2403 (gI (vAt e 10)) (gI (vAt e 45)) (gPI L (vAt e 6) 0) (gX L (vAt e 6) 0) (gRI L (vAt e 7)) (gPI L (vAt e 9) 0) (gX L (vAt e 9) 0)) (X := impl_NullOver_l2_X v2400 v2401 v2402 v2403 (gI (vAt e 10)) (gI (vAt e 45)) (gPI L (vAt e 6) 0) (gX L (vAt e 6) 0) (gRI L (vAt e 7)) (gPI L (vAt e 9) 0) (gX L (vAt e 9) 0)) (s0 := ((gI (vAt e 46)), (gRI L (vAt e 11)))) tok impl_NullOver_hO mixed (LoopsOk_eq (l := []) (by kernel_rfl) trivial) (impl_NullOver_l2_be v2400 v2401 v2402 v2403 (gI (vAt e 10)) (gI (vAt e 45)) (gPI L (vAt e 6) 0) (gX L (vAt e 6) 0) (gRI L (vAt e 7)) (gPI L (vAt e 9) 0) (gX L (vAt e 9) 0)) rfl (by intro x; rfl) h
theorem impl_NullOver_l0_be (v2400 v2401 : Int) (v2402 : List Int) (v2403 : Int) (v2487 : List (List Int)) (v2488 : List Nat) (v2489 : List Int) (s : Int × (List (List Int)) × (List Nat)) : bodyT TT (tabD impl_NullOver_tab) (tabM impl_NullOver_tab) (impl_NullOver_LO v2400 v2401 v2402 v2403) 0 impl_NullOver_l0_kill impl_NullOver_l0_nx (bodyOf Try.f27 0) 0 (impl_NullOver_l0_E v2400 v2401 v2402 v2403 v2487 v2488 v2489 s) = (impl_NullOver_l0_T v2400 v2401 v2402 v2403 v2487 v2488 v2489 s).bind fun y => .leaf (outS (impl_NullOver_l0_E v2400 v2401 v2402 v2403 v2487 v2488 v2489) (impl_NullOver_l0_X v2400 v2401 v2402 v2403 v2487 v2488 v2489) y) := by kernel_rfl
theorem impl_NullOver_l0_ok (v2400 v2401 : Int) (v2402 : List Int) (v2403 : Int) : LSound Try.prog 0 (impl_NullOver_LO v2400 v2401 v2402 v2403) 0 (bodyOf Try.f27 0) := by
  intro e L out h
  exact lo_ok (E := impl_NullOver_l0_E v2400 v2401 v2402 v2403 (gPI L (vAt e 6) 0) (gX L (vAt e 6) 0) (gRI L (vAt e 7))) (gT := impl_NullOver_l0_T v2400 v2401 v2402 v2403 (gPI L (vAt e 6) 0) (gX L (vAt e 6) 0) (gRI L (vAt e 7))) (X := impl_NullOver_l0_X v2400 v2401 v2402 v2403 (gPI L (vAt e 6) 0) (gX L (vAt e 6) 0) (gRI L (vAt e 7))) (s0 := ((gI (vAt e 32)), (gPI L (vAt e 9) 0), (gX L (vAt e 9) 0))) tok impl_NullOver_hO mixed (LoopsOk_eq (l := [(2, bodyOf Try.f27 2)]) (by kernel_rfl) ⟨impl_NullOver_l2_ok v2400 v2401 v2402 v2403, trivial⟩) (impl_NullOver_l0_be v2400 v2401 v2402 v2403 (gPI L (vAt e 6) 0) (gX L (vAt e 6) 0) (gRI L (vAt e 7))) rfl (by intro x; rfl) h
noncomputable def impl_NullOver_T (v2400 v2401 : Int) (v2402 : List Int) (v2403 : Int) : Tree ((Unit) ⊕ ((List (List Int)) × (List Nat))) :=
  (.call (impl_ValidWhole_g v2400 v2401 v2402) fun v2404 =>
  (.br (!v2404) (
  .leaf (.inl ())
  ) (
  (.call (impl_IsPrime_g v2403) fun v2405 =>
  (.br (!v2405) (
  .leaf (.inl ())
  ) (
  (.call (impl_Whole_over_i1_g v2400 v2401 v2402 v2403) fun v2406 =>
  (.need (some (impl_NullOver_l0_E v2400 v2401 v2402 v2403 v2406.2.1 v2406.2.2.1 v2406.2.2.2 ((0 : Int), ([] : List (List Int)), ([] : List Nat))) = some (impl_NullOver_l0_E v2400 v2401 v2402 v2403 v2406.2.1 v2406.2.2.1 v2406.2.2.2 ((0 : Int), ([] : List (List Int)), ([] : List Nat)))) <|
  (.call (impl_NullOver_l0_g v2400 v2401 v2402 v2403 v2406.2.1 v2406.2.2.1 v2406.2.2.2 ((0 : Int), ([] : List (List Int)), ([] : List Nat))) fun v2524 =>
  .leaf (.inr (v2524.1, v2524.2)))))
  )))
  )))

noncomputable def impl_NullOver_g (v2400 v2401 : Int) (v2402 : List Int) (v2403 : Int) : Option ((Unit) ⊕ ((List (List Int)) × (List Nat))) := (impl_NullOver_T v2400 v2401 v2402 v2403).run
def impl_NullOver_enc (v2400 v2401 : Int) (v2402 : List Int) (v2403 : Int) (y : (Unit) ⊕ ((List (List Int)) × (List Nat))) : Rs := (match y with | .inl y => (.tup [.nilslc, .lit false], []) | .inr y => (.tup [.nest 0 0 1 ((y.2).length), .lit true], [.nest [.sl (.i64 y.1) y.2] false 0]))
theorem impl_NullOver_den (v2400 v2401 : Int) (v2402 : List Int) (v2403 : Int) : (den TT (tabD impl_NullOver_tab) (tabM impl_NullOver_tab) (impl_NullOver_LO v2400 v2401 v2402 v2403) (codeOf Try.f27) ([.agg [.int .i64 v2400, .int .i64 v2401, .bslc (BR.root 0) (.i64 v2402)], .int .i64 v2403] ++ List.replicate (Try.f27.ntmps - ([.agg [.int .i64 v2400, .int .i64 v2401, .bslc (BR.root 0) (.i64 v2402)], .int .i64 v2403] : List DV).length) .undef) []).bind (retD TT Try.f27.results.toList 0) = (impl_NullOver_T v2400 v2401 v2402 v2403).bind fun y => .leaf (impl_NullOver_enc v2400 v2401 v2402 v2403 y) := by kernel_rfl
theorem impl_NullOver_fn (v2400 v2401 : Int) (v2402 : List Int) (v2403 : Int) (F : Fr) (h0 : St F [] F.H0) (hA : DVs.Ok F [] [.agg [.int .i64 v2400, .int .i64 v2401, .bslc (BR.root 0) (.i64 v2402)], .int .i64 v2403]) {y : (Unit) ⊕ ((List (List Int)) × (List Nat))} (hy : impl_NullOver_g v2400 v2401 v2402 v2403 = some y) : ∃ F' H', Fwd 0 F F' [] (impl_NullOver_enc v2400 v2401 v2402 v2403 y).2 ∧ FnOk Try.prog 27 (DVs.av F [.agg [.int .i64 v2400, .int .i64 v2401, .bslc (BR.root 0) (.i64 v2402)], .int .i64 v2403]) F.H0 ((impl_NullOver_enc v2400 v2401 v2402 v2403 y).1.av F') H' ∧ St F' (impl_NullOver_enc v2400 v2401 v2402 v2403 y).2 H' ∧ (impl_NullOver_enc v2400 v2401 v2402 v2403 y).1.Ok F' (impl_NullOver_enc v2400 v2401 v2402 v2403 y).2 :=
  fn_fin tok impl_NullOver_hO mixed Try.func27 Try.call27 (by kernel_rfl) (LoopsOk_eq (l := [(0, bodyOf Try.f27 0)]) (by kernel_rfl) ⟨impl_NullOver_l0_ok v2400 v2401 v2402 v2403, trivial⟩) (impl_NullOver_den v2400 v2401 v2402 v2403) hy h0 hA
noncomputable def impl_NullOver_F : DFn := fun args L =>
  match args with
  | [.agg [.int .i64 v2400, .int .i64 v2401, a1], .int .i64 v2403] =>
    optT (rowI64 L a1) fun v2402 =>
    .call (impl_NullOver_g v2400 v2401 v2402 v2403) fun y => .sum y (fun y0 => .leaf (.tup [.nilslc, .lit false], L)) (fun z0 => .leaf (.tup [.nest (L.length + 0) 0 1 ((z0.2).length), .lit true], L ++ [.nest [.sl (.i64 z0.1) z0.2] false 0]))
  | _ => .fail
theorem impl_NullOver_Fok : COk Try.prog 27 impl_NullOver_F true := by
  intro F L H args r L' hs ha hr
  unfold impl_NullOver_F at hr
  split at hr
  · rename_i v2400 v2401 a1 v2403
    obtain ⟨v2402, hv2402, hr⟩ := optT_run hr
    simp only [Tree.run] at hr
    obtain ⟨y, hy, hr⟩ := Option.bind_eq_some_iff.1 hr
    cases y with
    | inl y =>
      simp only [Tree.run, Option.some.injEq, Prod.mk.injEq] at hr
      obtain ⟨rfl, rfl⟩ := hr
      exact call_ok0 hs (fun k => (([a1.av F] : List AV)[k]?).getD .top) [.agg [.int .i64 v2400, .int .i64 v2401, a1], .int .i64 v2403] [.agg [.int .i64 v2400, .int .i64 v2401, .bslc (BR.root 0) (.i64 v2402)], .int .i64 v2403] (fun F' h0 hi hρ => ⟨by simp [DVs.av, DV.av, BR.av, hρ], impl_NullOver_fn v2400 v2401 v2402 v2403 F' (st_nil hi) ⟨⟨trivial, trivial, bslc_ok hi (by rw [h0, hρ]; exact rowI64_ok hs (DVs.okAt (DVs.okAt ha 0 rfl) 2 rfl) hv2402), trivial⟩, trivial, trivial⟩ hy⟩) rfl
    | inr y =>
      simp only [Tree.run, Option.some.injEq, Prod.mk.injEq] at hr
      obtain ⟨rfl, rfl⟩ := hr
      exact call_ok1 hs (fun k => (([a1.av F] : List AV)[k]?).getD .top) [.agg [.int .i64 v2400, .int .i64 v2401, a1], .int .i64 v2403] [.agg [.int .i64 v2400, .int .i64 v2401, .bslc (BR.root 0) (.i64 v2402)], .int .i64 v2403] (fun F' h0 hi hρ => ⟨by simp [DVs.av, DV.av, BR.av, hρ], impl_NullOver_fn v2400 v2401 v2402 v2403 F' (st_nil hi) ⟨⟨trivial, trivial, bslc_ok hi (by rw [h0, hρ]; exact rowI64_ok hs (DVs.okAt (DVs.okAt ha 0 rfl) 2 rfl) hv2402), trivial⟩, trivial, trivial⟩ hy⟩) rfl rfl
  · cases hr
/-! impl.SolveOver -/
noncomputable def impl_SolveOver_l0_T (v3117 v3136 : Int) (v3138 : List Int) (v3140 : List (List Int)) (v3141 : List Nat) (s : Int × (List Int)) : Tree ((Int × (List Int)) ⊕ ((Unit) ⊕ ((List Int)))) :=
  (.br (decide (s.1 < v3136)) (
  (.grd (inb s.1 ((v3141).length)) <|
  (.grd (inb v3117 ((nget v3140 (nth v3141 (Int.toNat s.1))).length)) <|
  (.br (decide (s.1 < (((v3138).length : Nat) : Int))) (
  (.grd (inb s.1 ((v3138).length)) <|
  (.grd (inb (nth v3138 (Int.toNat s.1)) ((s.2).length)) <|
  .leaf (.inl (IntKind.i64.wrap (s.1 + (1 : Int)), List.set s.2 (Int.toNat (nth v3138 (Int.toNat s.1))) (nth (nget v3140 (nth v3141 (Int.toNat s.1))) (Int.toNat v3117))))))
  ) (
  (.br (!decide (nth (nget v3140 (nth v3141 (Int.toNat s.1))) (Int.toNat v3117) = (0 : Int))) (
  .leaf (.inr (.inl ()))
  ) (
  .leaf (.inl (IntKind.i64.wrap (s.1 + (1 : Int)), s.2))
  ))
  ))))
  ) (
  .leaf (.inr (.inr s.2))
  ))

noncomputable def impl_SolveOver_l0_g (v3117 v3136 : Int) (v3138 : List Int) (v3140 : List (List Int)) (v3141 : List Nat) (s0 : Int × (List Int)) : Option ((Unit) ⊕ ((List Int))) := whileM (fun s => (impl_SolveOver_l0_T v3117 v3136 v3138 v3140 v3141 s).run) s0
def impl_SolveOver_l0_E (v3116 v3117 : Int) (v3118 v3119 : List Int) (v3120 v3136 : Int) (v3138 : List Int) (v3140 : List (List Int)) (v3141 : List Nat) (s : Int × (List Int)) : Sd := ([Z,Z,Z,.ptr 0 (0 : Nat) 0 (3 : Nat),Z,Z,Z,Z,Z,.own 1 0 ((v3138).length),Z,.own 2 0 ((s.2).length),Z,Z,Z,Z,Z,Z,Z,Z,Z,Z,Z,Z,Z,Z,Z,Z,Z,Z,Z,Z,Z,Z,Z,Z,Z,Z,Z,Z,Z,Z,Z,Z,Z,Z,.nest 3 0 1 ((v3141).length),.int .i64 v3136,.int .i64 s.1,Z,Z,Z,Z,Z,Z,Z,Z,Z,Z,Z,Z,Z,Z,Z,Z,Z,Z,Z,Z,Z,Z,Z,Z,Z,Z], [.gen [.int .i64 v3116, .int .i64 v3117, .bslc (BR.root 0) (.i64 v3118)] false 0, .row (.i64 v3138) 0, .row (.i64 s.2) 0, .nest [.sl (.i64 v3140) v3141] false 0])
def impl_SolveOver_l0_X (v3116 v3117 : Int) (v3118 v3119 : List Int) (v3120 v3136 : Int) (v3138 : List Int) (v3140 : List (List Int)) (v3141 : List Nat) (x : (Unit) ⊕ ((List Int))) : Out := (match x with | .inl x => (.ret, [Z,Z,Z,Z,Z,Z,.nilslc,.lit false,Z,Z,Z,Z,Z,Z,Z,Z,Z,Z,Z,Z,Z,Z,Z,Z,Z,Z,Z,Z,Z,Z,Z,Z,Z,Z,Z,Z,Z,Z,Z,Z,Z,Z,Z,Z,Z,Z,Z,Z,Z,Z,Z,Z,Z,Z,Z,Z,Z,Z,Z,Z,Z,Z,Z,Z,Z,Z,Z,Z,Z,Z,Z,Z,Z,Z,Z], []) | .inr x => (.normal, [Z,Z,Z,Z,Z,Z,Z,Z,Z,Z,Z,.own 0 0 ((x).length),Z,Z,Z,Z,Z,Z,Z,Z,Z,Z,Z,Z,Z,Z,Z,Z,Z,Z,Z,Z,Z,Z,Z,Z,Z,Z,Z,Z,Z,Z,Z,Z,Z,Z,Z,Z,Z,Z,Z,Z,Z,Z,Z,Z,Z,Z,Z,Z,Z,Z,Z,Z,Z,Z,Z,Z,Z,Z,Z,Z,Z,Z,Z], [.row (.i64 x) 0]))
def impl_SolveOver_l0_kill : List Nat := KL true [3,1,5,1,1,1,34,3,26]
def impl_SolveOver_l0_nx : Exit → List Nat
  | .exit 0 => KL true [11,1,63]
  | .ret => KL true [6,2,67]
  | _ => []
noncomputable def impl_SolveOver_LO (v3116 v3117 : Int) (v3118 v3119 : List Int) (v3120 : Int) : LOr := fun id e L =>
  match id with
  | 0 => .need (normA 0 impl_SolveOver_l0_kill e L = some (impl_SolveOver_l0_E v3116 v3117 v3118 v3119 v3120 (gI (vAt e 47)) (gRI L (vAt e 9)) (gPI L (vAt e 46) 0) (gX L (vAt e 46) 0) ((gI (vAt e 48)), (gRI L (vAt e 11))))) (.call (impl_SolveOver_l0_g v3117 (gI (vAt e 47)) (gRI L (vAt e 9)) (gPI L (vAt e 46) 0) (gX L (vAt e 46) 0) ((gI (vAt e 48)), (gRI L (vAt e 11)))) fun x => .sum x (fun b0 => .leaf (impl_SolveOver_l0_X v3116 v3117 v3118 v3119 v3120 (gI (vAt e 47)) (gRI L (vAt e 9)) (gPI L (vAt e 46) 0) (gX L (vAt e 46) 0) (.inl b0))) (fun c0 => .leaf (impl_SolveOver_l0_X v3116 v3117 v3118 v3119 v3120 (gI (vAt e 47)) (gRI L (vAt e 9)) (gPI L (vAt e 46) 0) (gX L (vAt e 46) 0) (.inr c0))))
  | _ => .fail
noncomputable def impl_SolveOver_tab : List (FuncId × DFn × Bool) := [(63, impl_ValidWhole_F, true), (58, impl_IsPrime_F, true), (65, impl_lengthI_F, true), (67, impl_allIn_F, true), (64, impl_Whole_over_F, true)]
theorem impl_SolveOver_hO : OrcOk Try.prog (tabD impl_SolveOver_tab) (tabM impl_SolveOver_tab) := tabD_cons impl_ValidWhole_Fok (tabD_cons impl_IsPrime_Fok (tabD_cons impl_lengthI_Fok (tabD_cons impl_allIn_Fok (tabD_cons impl_Whole_over_Fok (tabD_nil _)))))
theorem impl_SolveOver_l0_be (v3116 v3117 : Int) (v3118 v3119 : List Int) (v3120 v3136 : Int) (v3138 : List Int) (v3140 : List (List Int)) (v3141 : List Nat) (s : Int × (List Int)) : bodyT TT (tabD impl_SolveOver_tab) (tabM impl_SolveOver_tab) (impl_SolveOver_LO v3116 v3117 v3118 v3119 v3120) 0 impl_SolveOver_l0_kill impl_SolveOver_l0_nx (bodyOf Try.f21 0) 0 (impl_SolveOver_l0_E v3116 v3117 v3118 v3119 v3120 v3136 v3138 v3140 v3141 s) = (impl_SolveOver_l0_T v3117 v3136 v3138 v3140 v3141 s).bind fun y => .leaf (outS (impl_SolveOver_l0_E v3116 v3117 v3118 v3119 v3120 v3136 v3138 v3140 v3141) (impl_SolveOver_l0_X v3116 v3117 v3118 v3119 v3120 v3136 v3138 v3140 v3141) y) := by kernel_rfl
theorem impl_SolveOver_l0_ok (v3116 v3117 : Int) (v3118 v3119 : List Int) (v3120 : Int) : LSound Try.prog 0 (impl_SolveOver_LO v3116 v3117 v3118 v3119 v3120) 0 (bodyOf Try.f21 0) := by
  intro e L out h
  exact lo_ok (E := impl_SolveOver_l0_E v3116 v3117 v3118 v3119 v3120 (gI (vAt e 47)) (gRI L (vAt e 9)) (gPI L (vAt e 46) 0) (gX L (vAt e 46) 0)) (gT := impl_SolveOver_l0_T v3117 (gI (vAt e 47)) (gRI L (vAt e 9)) (gPI L (vAt e 46) 0) (gX L (vAt e 46) 0)) (X := impl_SolveOver_l0_X v3116 v3117 v3118 v3119 v3120 (gI (vAt e 47)) (gRI L (vAt e 9)) (gPI L (vAt e 46) 0) (gX L (vAt e 46) 0)) (s0 := ((gI (vAt e 48)), (gRI L (vAt e 11)))) tok impl_SolveOver_hO mixed (LoopsOk_eq (l := []) (by kernel_rfl) trivial) (impl_SolveOver_l0_be v3116 v3117 v3118 v3119 v3120 (gI (vAt e 47)) (gRI L (vAt e 9)) (gPI L (vAt e 46) 0) (gX L (vAt e 46) 0)) rfl (by intro x; (cases x with | inl b => rfl | inr x => exact rfl)) h
noncomputable def impl_SolveOver_T (v3116 v3117 : Int) (v3118 v3119 : List Int) (v3120 : Int) : Tree ((Unit) ⊕ ((List Int))) :=
  (.call (impl_ValidWhole_g v3116 v3117 v3118) fun v3121 =>
  (.br (!v3121) (
  .leaf (.inl ())
  ) (
  (.call (impl_IsPrime_g v3120) fun v3122 =>
  (.br (!v3122) (
  .leaf (.inl ())
  ) (
  (.br (!decide ((impl_lengthI_v v3119) = v3116)) (
  .leaf (.inl ())
  ) (
  (.call (impl_allIn_g v3119 (-1000000 : Int) (1000000 : Int)) fun v3123 =>
  (.br (!v3123) (
  .leaf (.inl ())
  ) (
  (.call (impl_Whole_over_g v3116 v3117 v3118 v3120 v3119) fun v3124 =>
  (.need (v3117 = v3117) <|
  (.grd (inb v3117 (maxN + 1)) <|
  (.need (some (impl_SolveOver_l0_E v3116 v3117 v3118 v3119 v3120 (((v3124.2.2.1).length : Nat) : Int) v3124.2.2.2 v3124.2.1 v3124.2.2.1 ((0 : Int), List.replicate (Int.toNat v3117) (0 : Int))) = some (impl_SolveOver_l0_E v3116 v3117 v3118 v3119 v3120 (((v3124.2.2.1).length : Nat) : Int) v3124.2.2.2 v3124.2.1 v3124.2.2.1 ((0 : Int), List.replicate (Int.toNat v3117) (0 : Int)))) <|
  (.call (impl_SolveOver_l0_g v3117 (((v3124.2.2.1).length : Nat) : Int) v3124.2.2.2 v3124.2.1 v3124.2.2.1 ((0 : Int), List.replicate (Int.toNat v3117) (0 : Int))) fun v3142 =>
  (.sum v3142 (fun v3143 =>
  .leaf (.inl ())
  ) (fun v3144 =>
  .leaf (.inr v3144)
  )))))))
  )))
  ))
  )))
  )))

noncomputable def impl_SolveOver_g (v3116 v3117 : Int) (v3118 v3119 : List Int) (v3120 : Int) : Option ((Unit) ⊕ ((List Int))) := (impl_SolveOver_T v3116 v3117 v3118 v3119 v3120).run
def impl_SolveOver_enc (v3116 v3117 : Int) (v3118 v3119 : List Int) (v3120 : Int) (y : (Unit) ⊕ ((List Int))) : Rs := (match y with | .inl y => (.tup [.nilslc, .lit false], []) | .inr y => (.tup [.own 0 0 ((y).length), .lit true], [.row (.i64 y) 0]))
theorem impl_SolveOver_den (v3116 v3117 : Int) (v3118 v3119 : List Int) (v3120 : Int) : (den TT (tabD impl_SolveOver_tab) (tabM impl_SolveOver_tab) (impl_SolveOver_LO v3116 v3117 v3118 v3119 v3120) (codeOf Try.f21) ([.agg [.int .i64 v3116, .int .i64 v3117, .bslc (BR.root 0) (.i64 v3118)], .bslc (BR.root 1) (.i64 v3119), .int .i64 v3120] ++ List.replicate (Try.f21.ntmps - ([.agg [.int .i64 v3116, .int .i64 v3117, .bslc (BR.root 0) (.i64 v3118)], .bslc (BR.root 1) (.i64 v3119), .int .i64 v3120] : List DV).length) .undef) []).bind (retD TT Try.f21.results.toList 0) = (impl_SolveOver_T v3116 v3117 v3118 v3119 v3120).bind fun y => .leaf (impl_SolveOver_enc v3116 v3117 v3118 v3119 v3120 y) := by kernel_rfl
theorem impl_SolveOver_fn (v3116 v3117 : Int) (v3118 v3119 : List Int) (v3120 : Int) (F : Fr) (h0 : St F [] F.H0) (hA : DVs.Ok F [] [.agg [.int .i64 v3116, .int .i64 v3117, .bslc (BR.root 0) (.i64 v3118)], .bslc (BR.root 1) (.i64 v3119), .int .i64 v3120]) {y : (Unit) ⊕ ((List Int))} (hy : impl_SolveOver_g v3116 v3117 v3118 v3119 v3120 = some y) : ∃ F' H', Fwd 0 F F' [] (impl_SolveOver_enc v3116 v3117 v3118 v3119 v3120 y).2 ∧ FnOk Try.prog 21 (DVs.av F [.agg [.int .i64 v3116, .int .i64 v3117, .bslc (BR.root 0) (.i64 v3118)], .bslc (BR.root 1) (.i64 v3119), .int .i64 v3120]) F.H0 ((impl_SolveOver_enc v3116 v3117 v3118 v3119 v3120 y).1.av F') H' ∧ St F' (impl_SolveOver_enc v3116 v3117 v3118 v3119 v3120 y).2 H' ∧ (impl_SolveOver_enc v3116 v3117 v3118 v3119 v3120 y).1.Ok F' (impl_SolveOver_enc v3116 v3117 v3118 v3119 v3120 y).2 :=
  fn_fin tok impl_SolveOver_hO mixed Try.func21 Try.call21 (by kernel_rfl) (LoopsOk_eq (l := [(0, bodyOf Try.f21 0)]) (by kernel_rfl) ⟨impl_SolveOver_l0_ok v3116 v3117 v3118 v3119 v3120, trivial⟩) (impl_SolveOver_den v3116 v3117 v3118 v3119 v3120) hy h0 hA
noncomputable def impl_SolveOver_F : DFn := fun args L =>
  match args with
  | [.agg [.int .i64 v3116, .int .i64 v3117, a1], a2, .int .i64 v3120] =>
    optT (rowI64 L a1) fun v3118 =>
    optT (rowI64 L a2) fun v3119 =>
    .call (impl_SolveOver_g v3116 v3117 v3118 v3119 v3120) fun y => .sum y (fun y0 => .leaf (.tup [.nilslc, .lit false], L)) (fun z0 => .leaf (.tup [.own (L.length + 0) 0 ((z0).length), .lit true], L ++ [.row (.i64 z0) 0]))
  | _ => .fail
theorem impl_SolveOver_Fok : COk Try.prog 21 impl_SolveOver_F true := by
  intro F L H args r L' hs ha hr
  unfold impl_SolveOver_F at hr
  split at hr
  · rename_i v3116 v3117 a1 a2 v3120
    obtain ⟨v3118, hv3118, hr⟩ := optT_run hr
    obtain ⟨v3119, hv3119, hr⟩ := optT_run hr
    simp only [Tree.run] at hr
    obtain ⟨y, hy, hr⟩ := Option.bind_eq_some_iff.1 hr
    cases y with
    | inl y =>
      simp only [Tree.run, Option.some.injEq, Prod.mk.injEq] at hr
      obtain ⟨rfl, rfl⟩ := hr
      exact call_ok0 hs (fun k => (([a1.av F, a2.av F] : List AV)[k]?).getD .top) [.agg [.int .i64 v3116, .int .i64 v3117, a1], a2, .int .i64 v3120] [.agg [.int .i64 v3116, .int .i64 v3117, .bslc (BR.root 0) (.i64 v3118)], .bslc (BR.root 1) (.i64 v3119), .int .i64 v3120] (fun F' h0 hi hρ => ⟨by simp [DVs.av, DV.av, BR.av, hρ], impl_SolveOver_fn v3116 v3117 v3118 v3119 v3120 F' (st_nil hi) ⟨⟨trivial, trivial, bslc_ok hi (by rw [h0, hρ]; exact rowI64_ok hs (DVs.okAt (DVs.okAt ha 0 rfl) 2 rfl) hv3118), trivial⟩, bslc_ok hi (by rw [h0, hρ]; exact rowI64_ok hs (DVs.okAt ha 1 rfl) hv3119), trivial, trivial⟩ hy⟩) rfl
    | inr y =>
      simp only [Tree.run, Option.some.injEq, Prod.mk.injEq] at hr
      obtain ⟨rfl, rfl⟩ := hr
      exact call_ok1 hs (fun k => (([a1.av F, a2.av F] : List AV)[k]?).getD .top) [.agg [.int .i64 v3116, .int .i64 v3117, a1], a2, .int .i64 v3120] [.agg [.int .i64 v3116, .int .i64 v3117, .bslc (BR.root 0) (.i64 v3118)], .bslc (BR.root 1) (.i64 v3119), .int .i64 v3120] (fun F' h0 hi hρ => ⟨by simp [DVs.av, DV.av, BR.av, hρ], impl_SolveOver_fn v3116 v3117 v3118 v3119 v3120 F' (st_nil hi) ⟨⟨trivial, trivial, bslc_ok hi (by rw [h0, hρ]; exact rowI64_ok hs (DVs.okAt (DVs.okAt ha 0 rfl) 2 rfl) hv3118), trivial⟩, bslc_ok hi (by rw [h0, hρ]; exact rowI64_ok hs (DVs.okAt ha 1 rfl) hv3119), trivial, trivial⟩ hy⟩) rfl rfl
  · cases hr
/-! impl.BackOver -/
noncomputable def impl_BackOver_LO (v3281 v3282 : Int) : LOr := fun id e L =>
  match id with
  | _ => .fail
noncomputable def impl_BackOver_tab : List (FuncId × DFn × Bool) := [(58, impl_IsPrime_F, true), (123, impl_backOver_F, true)]
theorem impl_BackOver_hO : OrcOk Try.prog (tabD impl_BackOver_tab) (tabM impl_BackOver_tab) := tabD_cons impl_IsPrime_Fok (tabD_cons impl_backOver_Fok (tabD_nil _))
noncomputable def impl_BackOver_T (v3281 v3282 : Int) : Tree ((Unit) ⊕ (Int)) :=
  (.call (impl_IsPrime_g v3282) fun v3283 =>
  (.br (!v3283) (
  .leaf (.inl ())
  ) (
  (.grd (!decide (v3282 = 0)) <|
  (.br (decide (Int.tmod v3281 v3282 = (0 : Int))) (
  .leaf (.inl ())
  ) (
  (.call (impl_backOver_g v3281 v3282) fun v3284 =>
  .leaf (.inr v3284))
  )))
  )))

noncomputable def impl_BackOver_g (v3281 v3282 : Int) : Option ((Unit) ⊕ (Int)) := (impl_BackOver_T v3281 v3282).run
def impl_BackOver_enc (v3281 v3282 : Int) (y : (Unit) ⊕ (Int)) : Rs := (match y with | .inl y => (.tup [.int .i64 (0 : Int), .lit false], []) | .inr y => (.tup [.int .i64 y, .lit true], []))
theorem impl_BackOver_den (v3281 v3282 : Int) : (den TT (tabD impl_BackOver_tab) (tabM impl_BackOver_tab) (impl_BackOver_LO v3281 v3282) (codeOf Try.f57) ([.int .i64 v3281, .int .i64 v3282] ++ List.replicate (Try.f57.ntmps - ([.int .i64 v3281, .int .i64 v3282] : List DV).length) .undef) []).bind (retD TT Try.f57.results.toList 0) = (impl_BackOver_T v3281 v3282).bind fun y => .leaf (impl_BackOver_enc v3281 v3282 y) := by kernel_rfl
theorem impl_BackOver_fn (v3281 v3282 : Int) (F : Fr) (h0 : St F [] F.H0) (hA : DVs.Ok F [] [.int .i64 v3281, .int .i64 v3282]) {y : (Unit) ⊕ (Int)} (hy : impl_BackOver_g v3281 v3282 = some y) : ∃ F' H', Fwd 0 F F' [] (impl_BackOver_enc v3281 v3282 y).2 ∧ FnOk Try.prog 57 (DVs.av F [.int .i64 v3281, .int .i64 v3282]) F.H0 ((impl_BackOver_enc v3281 v3282 y).1.av F') H' ∧ St F' (impl_BackOver_enc v3281 v3282 y).2 H' ∧ (impl_BackOver_enc v3281 v3282 y).1.Ok F' (impl_BackOver_enc v3281 v3282 y).2 :=
  fn_fin tok impl_BackOver_hO mixed Try.func57 Try.call57 (by kernel_rfl) (LoopsOk_eq (l := []) (by kernel_rfl) trivial) (impl_BackOver_den v3281 v3282) hy h0 hA
noncomputable def impl_BackOver_F : DFn := fun args L =>
  match args with
  | [.int .i64 v3281, .int .i64 v3282] =>
    .call (impl_BackOver_g v3281 v3282) fun y => .sum y (fun y0 => .leaf (.tup [.int .i64 (0 : Int), .lit false], L)) (fun z0 => .leaf (.tup [.int .i64 z0, .lit true], L))
  | _ => .fail
theorem impl_BackOver_Fok : COk Try.prog 57 impl_BackOver_F true := by
  intro F L H args r L' hs ha hr
  unfold impl_BackOver_F at hr
  split at hr
  · rename_i v3281 v3282
    simp only [Tree.run] at hr
    obtain ⟨y, hy, hr⟩ := Option.bind_eq_some_iff.1 hr
    cases y with
    | inl y =>
      simp only [Tree.run, Option.some.injEq, Prod.mk.injEq] at hr
      obtain ⟨rfl, rfl⟩ := hr
      exact call_ok0 hs (fun k => (([] : List AV)[k]?).getD .top) [.int .i64 v3281, .int .i64 v3282] [.int .i64 v3281, .int .i64 v3282] (fun F' h0 hi hρ => ⟨by simp [DVs.av, DV.av, BR.av, hρ], impl_BackOver_fn v3281 v3282 F' (st_nil hi) ⟨trivial, trivial, trivial⟩ hy⟩) rfl
    | inr y =>
      simp only [Tree.run, Option.some.injEq, Prod.mk.injEq] at hr
      obtain ⟨rfl, rfl⟩ := hr
      exact call_ok0 hs (fun k => (([] : List AV)[k]?).getD .top) [.int .i64 v3281, .int .i64 v3282] [.int .i64 v3281, .int .i64 v3282] (fun F' h0 hi hρ => ⟨by simp [DVs.av, DV.av, BR.av, hρ], impl_BackOver_fn v3281 v3282 F' (st_nil hi) ⟨trivial, trivial, trivial⟩ hy⟩) rfl
  · cases hr
/-! laws.FnPrimes -/
noncomputable def laws_FnPrimes_l4_T (v2974 v2975 v2976 v2977 v2978 v2981 v2982 : Int) (v2983 : List (List Int)) (v2984 : List Nat) (v2985 : List Int) (s : Int × Int) : Tree ((Int × Int) ⊕ (Int)) :=
  (.br (decide (s.2 < v2976)) (
  (.grd (inb (IntKind.i64.wrap ((IntKind.i64.wrap (v2978 * v2976)) + s.2)) ((v2985).length)) <|
  (.grd (inb v2977 ((v2984).length)) <|
  (.grd (inb s.2 ((nget v2983 (nth v2984 (Int.toNat v2977))).length)) <|
  .leaf (.inl (IntKind.i64.wrap (s.1 + (IntKind.i64.wrap ((nth v2985 (Int.toNat (IntKind.i64.wrap ((IntKind.i64.wrap (v2978 * v2976)) + s.2)))) * (nth (nget v2983 (nth v2984 (Int.toNat v2977))) (Int.toNat s.2))))), IntKind.i64.wrap (s.2 + (1 : Int)))))))
  ) (
  .leaf (.inr s.1)
  ))

noncomputable def laws_FnPrimes_l4_g (v2974 v2975 v2976 v2977 v2978 v2981 v2982 : Int) (v2983 : List (List Int)) (v2984 : List Nat) (v2985 : List Int) (s0 : Int × Int) : Option (Int) := whileM (fun s => (laws_FnPrimes_l4_T v2974 v2975 v2976 v2977 v2978 v2981 v2982 v2983 v2984 v2985 s).run) s0
def laws_FnPrimes_l4_E (v1 v2 : List Int) (v2974 v2975 v2976 v2977 v2978 v2981 v2982 : Int) (v2983 : List (List Int)) (v2984 : List Nat) (v2985 : List Int) (s : Int × Int) : Sd := ([Z,.bslc (BR.root 1) (.u8 v2),Z,Z,Z,Z,.int .i64 v2974,.int .i64 v2975,.int .i64 v2976,.ptr 0 (0 : Nat) 0 (3 : Nat),Z,Z,.nest 1 0 1 ((v2984).length),Z,.int .i64 v2977,.int .i64 v2978,.int .i64 s.1,.int .i64 s.2,Z,Z,Z,Z,Z,Z,Z,Z,Z,Z,Z,Z,Z,Z,Z,Z,Z,Z,Z,Z,Z,Z,Z,Z,Z,Z,Z,Z,Z,Z,Z,Z,Z,Z,Z,Z,Z,Z,Z,Z,Z,Z,Z,Z,Z,Z,Z,Z,Z,Z,Z,Z,Z,Z,Z,Z,Z,Z,Z,Z,Z,Z,Z,Z,Z,Z,Z,Z,Z,Z,Z,Z,Z,Z,Z,Z,Z,Z,Z,Z,Z,Z,Z,Z,Z,Z,Z,Z,Z,Z,Z,Z,Z,Z,Z,Z,Z,Z,Z,Z,Z,Z,Z,Z,Z,Z,Z,Z,Z,Z,Z,Z,Z,Z,Z,Z,Z,Z,Z,Z,Z,Z,Z,Z,Z,Z,Z,Z,Z,Z,Z,Z,Z,Z,Z,Z,Z,Z,Z,Z,Z,Z,Z,Z,Z,Z,Z,Z,Z,Z,Z,Z,Z,Z,Z,Z,Z,Z,Z,Z,Z,Z,Z,Z,Z,Z,Z,Z,Z,Z,Z,Z,Z,Z,Z,Z,Z,Z,Z,Z,Z,Z,Z,Z,Z,Z,Z,Z,Z,Z,Z,Z,Z,Z,Z,Z,Z,Z,Z,Z,Z,Z,Z,Z,Z,Z,Z,Z,Z,Z,Z,Z,Z,Z,Z,Z,Z,Z,Z,Z,Z,Z,Z,Z,Z,Z,Z,Z,Z,Z,Z,Z,Z,Z,Z,Z,Z,Z,Z,Z,Z,Z,Z,Z,Z,Z,Z,Z,Z,Z,Z,Z,Z,Z,Z,Z,Z,Z,Z,Z,Z,Z,Z,Z,Z,Z,Z], [.gen [.int .i64 v2981, .int .i64 v2982, .own 2 0 ((v2985).length)] false 0, .nest [.sl (.i64 v2983) v2984] false 0, .row (.i64 v2985) 0])
def laws_FnPrimes_l4_X (v1 v2 : List Int) (v2974 v2975 v2976 v2977 v2978 v2981 v2982 : Int) (v2983 : List (List Int)) (v2984 : List Nat) (v2985 : List Int) (x : Int) : Out := (.normal, [Z,.bslc (BR.root 1) (.u8 v2),Z,Z,Z,Z,.int .i64 v2974,.int .i64 v2975,.int .i64 v2976,.ptr 0 (0 : Nat) 0 (3 : Nat),Z,Z,.nest 1 0 1 ((v2984).length),Z,.int .i64 v2977,.int .i64 v2978,.int .i64 x,Z,Z,Z,Z,Z,Z,Z,Z,Z,Z,Z,Z,Z,Z,Z,Z,Z,Z,Z,Z,Z,Z,Z,Z,Z,Z,Z,Z,Z,Z,Z,Z,Z,Z,Z,Z,Z,Z,Z,Z,Z,Z,Z,Z,Z,Z,Z,Z,Z,Z,Z,Z,Z,Z,Z,Z,Z,Z,Z,Z,Z,Z,Z,Z,Z,Z,Z,Z,Z,Z,Z,Z,Z,Z,Z,Z,Z,Z,Z,Z,Z,Z,Z,Z,Z,Z,Z,Z,Z,Z,Z,Z,Z,Z,Z,Z,Z,Z,Z,Z,Z,Z,Z,Z,Z,Z,Z,Z,Z,Z,Z,Z,Z,Z,Z,Z,Z,Z,Z,Z,Z,Z,Z,Z,Z,Z,Z,Z,Z,Z,Z,Z,Z,Z,Z,Z,Z,Z,Z,Z,Z,Z,Z,Z,Z,Z,Z,Z,Z,Z,Z,Z,Z,Z,Z,Z,Z,Z,Z,Z,Z,Z,Z,Z,Z,Z,Z,Z,Z,Z,Z,Z,Z,Z,Z,Z,Z,Z,Z,Z,Z,Z,Z,Z,Z,Z,Z,Z,Z,Z,Z,Z,Z,Z,Z,Z,Z,Z,Z,Z,Z,Z,Z,Z,Z,Z,Z,Z,Z,Z,Z,Z,Z,Z,Z,Z,Z,Z,Z,Z,Z,Z,Z,Z,Z,Z,Z,Z,Z,Z,Z,Z,Z,Z,Z,Z,Z,Z,Z,Z,Z,Z,Z,Z,Z,Z,Z,Z,Z,Z,Z,Z,Z,Z,Z,Z,Z,Z,Z,Z,Z,Z,Z,Z,Z,Z,Z,Z], [.gen [.int .i64 v2981, .int .i64 v2982, .own 2 0 ((v2985).length)] false 0, .nest [.sl (.i64 v2983) v2984] false 0, .row (.i64 v2985) 0])
def laws_FnPrimes_l4_kill : List Nat := KL true [1,1,4,4,2,1,1,4,267]
def laws_FnPrimes_l4_nx : Exit → List Nat
  | .exit 0 => KL true [1,1,4,4,275]
  | .exit 1 => KL true [1,1,4,4,2,1,1,1,270]
  | .exit 2 => KL true [1,1,4,4,2,1,1,1,270]
  | .exit 3 => KL true [1,1,4,4,2,1,1,2,269]
  | .exit 4 => KL true [1,1,4,4,2,1,1,3,268]
  | .ret => KL true [4,1,280]
  | _ => []
noncomputable def laws_FnPrimes_l2_T (v1 v2 : List Int) (v2940 v2941 v2942 v2943 v2945 v2946 : Int) (v2947 : List (List Int)) (v2948 : List Nat) (v2949 : List Int) (s : Int) : Tree ((Int) ⊕ ((Unit) ⊕ (Unit))) :=
  (.br (decide (s < v2941)) (
  (.need (some (laws_FnPrimes_l4_E v1 v2 v2940 v2941 v2942 v2943 s v2945 v2946 v2947 v2948 v2949 ((0 : Int), (0 : Int))) = some (laws_FnPrimes_l4_E v1 v2 v2940 v2941 v2942 v2943 s v2945 v2946 v2947 v2948 v2949 ((0 : Int), (0 : Int)))) <|
  (.call (laws_FnPrimes_l4_g v2940 v2941 v2942 v2943 s v2945 v2946 v2947 v2948 v2949 ((0 : Int), (0 : Int))) fun v2986 =>
  (.grd (!decide (v2940 = 0)) <|
  (.br (!decide (Int.tmod v2986 v2940 = (0 : Int))) (
  .leaf (.inr (.inl ()))
  ) (
  .leaf (.inl (IntKind.i64.wrap (s + (1 : Int))))
  )))))
  ) (
  .leaf (.inr (.inr ()))
  ))

noncomputable def laws_FnPrimes_l2_g (v1 v2 : List Int) (v2940 v2941 v2942 v2943 v2945 v2946 : Int) (v2947 : List (List Int)) (v2948 : List Nat) (v2949 : List Int) (s0 : Int) : Option ((Unit) ⊕ (Unit)) := whileM (fun s => (laws_FnPrimes_l2_T v1 v2 v2940 v2941 v2942 v2943 v2945 v2946 v2947 v2948 v2949 s).run) s0
def laws_FnPrimes_l2_E (v1 v2 : List Int) (v2940 v2941 v2942 v2943 v2945 v2946 : Int) (v2947 : List (List Int)) (v2948 : List Nat) (v2949 : List Int) (s : Int) : Sd := ([Z,.bslc (BR.root 1) (.u8 v2),Z,Z,Z,Z,.int .i64 v2940,.int .i64 v2941,.int .i64 v2942,.ptr 0 (0 : Nat) 0 (3 : Nat),Z,Z,.nest 1 0 1 ((v2948).length),Z,.int .i64 v2943,.int .i64 s,Z,Z,Z,Z,Z,Z,Z,Z,Z,Z,Z,Z,Z,Z,Z,Z,Z,Z,Z,Z,Z,Z,Z,Z,Z,Z,Z,Z,Z,Z,Z,Z,Z,Z,Z,Z,Z,Z,Z,Z,Z,Z,Z,Z,Z,Z,Z,Z,Z,Z,Z,Z,Z,Z,Z,Z,Z,Z,Z,Z,Z,Z,Z,Z,Z,Z,Z,Z,Z,Z,Z,Z,Z,Z,Z,Z,Z,Z,Z,Z,Z,Z,Z,Z,Z,Z,Z,Z,Z,Z,Z,Z,Z,Z,Z,Z,Z,Z,Z,Z,Z,Z,Z,Z,Z,Z,Z,Z,Z,Z,Z,Z,Z,Z,Z,Z,Z,Z,Z,Z,Z,Z,Z,Z,Z,Z,Z,Z,Z,Z,Z,Z,Z,Z,Z,Z,Z,Z,Z,Z,Z,Z,Z,Z,Z,Z,Z,Z,Z,Z,Z,Z,Z,Z,Z,Z,Z,Z,Z,Z,Z,Z,Z,Z,Z,Z,Z,Z,Z,Z,Z,Z,Z,Z,Z,Z,Z,Z,Z,Z,Z,Z,Z,Z,Z,Z,Z,Z,Z,Z,Z,Z,Z,Z,Z,Z,Z,Z,Z,Z,Z,Z,Z,Z,Z,Z,Z,Z,Z,Z,Z,Z,Z,Z,Z,Z,Z,Z,Z,Z,Z,Z,Z,Z,Z,Z,Z,Z,Z,Z,Z,Z,Z,Z,Z,Z,Z,Z,Z,Z,Z,Z,Z,Z,Z,Z,Z,Z,Z,Z,Z,Z,Z,Z,Z,Z,Z,Z,Z,Z,Z,Z,Z,Z,Z,Z,Z,Z,Z], [.gen [.int .i64 v2945, .int .i64 v2946, .own 2 0 ((v2949).length)] false 0, .nest [.sl (.i64 v2947) v2948] false 0, .row (.i64 v2949) 0])
def laws_FnPrimes_l2_X (v1 v2 : List Int) (v2940 v2941 v2942 v2943 v2945 v2946 : Int) (v2947 : List (List Int)) (v2948 : List Nat) (v2949 : List Int) (x : (Unit) ⊕ (Unit)) : Out := (match x with | .inl x => (.ret, [Z,Z,Z,Z,.lit false,Z,Z,Z,Z,Z,Z,Z,Z,Z,Z,Z,Z,Z,Z,Z,Z,Z,Z,Z,Z,Z,Z,Z,Z,Z,Z,Z,Z,Z,Z,Z,Z,Z,Z,Z,Z,Z,Z,Z,Z,Z,Z,Z,Z,Z,Z,Z,Z,Z,Z,Z,Z,Z,Z,Z,Z,Z,Z,Z,Z,Z,Z,Z,Z,Z,Z,Z,Z,Z,Z,Z,Z,Z,Z,Z,Z,Z,Z,Z,Z,Z,Z,Z,Z,Z,Z,Z,Z,Z,Z,Z,Z,Z,Z,Z,Z,Z,Z,Z,Z,Z,Z,Z,Z,Z,Z,Z,Z,Z,Z,Z,Z,Z,Z,Z,Z,Z,Z,Z,Z,Z,Z,Z,Z,Z,Z,Z,Z,Z,Z,Z,Z,Z,Z,Z,Z,Z,Z,Z,Z,Z,Z,Z,Z,Z,Z,Z,Z,Z,Z,Z,Z,Z,Z,Z,Z,Z,Z,Z,Z,Z,Z,Z,Z,Z,Z,Z,Z,Z,Z,Z,Z,Z,Z,Z,Z,Z,Z,Z,Z,Z,Z,Z,Z,Z,Z,Z,Z,Z,Z,Z,Z,Z,Z,Z,Z,Z,Z,Z,Z,Z,Z,Z,Z,Z,Z,Z,Z,Z,Z,Z,Z,Z,Z,Z,Z,Z,Z,Z,Z,Z,Z,Z,Z,Z,Z,Z,Z,Z,Z,Z,Z,Z,Z,Z,Z,Z,Z,Z,Z,Z,Z,Z,Z,Z,Z,Z,Z,Z,Z,Z,Z,Z,Z,Z,Z,Z,Z,Z,Z,Z,Z,Z,Z,Z,Z,Z,Z,Z,Z,Z,Z,Z,Z,Z,Z,Z,Z,Z,Z], []) | .inr x => (.normal, [Z,.bslc (BR.root 1) (.u8 v2),Z,Z,Z,Z,.int .i64 v2940,.int .i64 v2941,.int .i64 v2942,.ptr 0 (0 : Nat) 0 (3 : Nat),Z,Z,.nest 1 0 1 ((v2948).length),Z,.int .i64 v2943,Z,Z,Z,Z,Z,Z,Z,Z,Z,Z,Z,Z,Z,Z,Z,Z,Z,Z,Z,Z,Z,Z,Z,Z,Z,Z,Z,Z,Z,Z,Z,Z,Z,Z,Z,Z,Z,Z,Z,Z,Z,Z,Z,Z,Z,Z,Z,Z,Z,Z,Z,Z,Z,Z,Z,Z,Z,Z,Z,Z,Z,Z,Z,Z,Z,Z,Z,Z,Z,Z,Z,Z,Z,Z,Z,Z,Z,Z,Z,Z,Z,Z,Z,Z,Z,Z,Z,Z,Z,Z,Z,Z,Z,Z,Z,Z,Z,Z,Z,Z,Z,Z,Z,Z,Z,Z,Z,Z,Z,Z,Z,Z,Z,Z,Z,Z,Z,Z,Z,Z,Z,Z,Z,Z,Z,Z,Z,Z,Z,Z,Z,Z,Z,Z,Z,Z,Z,Z,Z,Z,Z,Z,Z,Z,Z,Z,Z,Z,Z,Z,Z,Z,Z,Z,Z,Z,Z,Z,Z,Z,Z,Z,Z,Z,Z,Z,Z,Z,Z,Z,Z,Z,Z,Z,Z,Z,Z,Z,Z,Z,Z,Z,Z,Z,Z,Z,Z,Z,Z,Z,Z,Z,Z,Z,Z,Z,Z,Z,Z,Z,Z,Z,Z,Z,Z,Z,Z,Z,Z,Z,Z,Z,Z,Z,Z,Z,Z,Z,Z,Z,Z,Z,Z,Z,Z,Z,Z,Z,Z,Z,Z,Z,Z,Z,Z,Z,Z,Z,Z,Z,Z,Z,Z,Z,Z,Z,Z,Z,Z,Z,Z,Z,Z,Z,Z,Z,Z,Z,Z,Z,Z,Z,Z,Z,Z,Z,Z,Z,Z,Z], [.gen [.int .i64 v2945, .int .i64 v2946, .own 2 0 ((v2949).length)] false 0, .nest [.sl (.i64 v2947) v2948] false 0, .row (.i64 v2949) 0]))
def laws_FnPrimes_l2_kill : List Nat := KL true [1,1,4,4,2,1,1,2,269]
def laws_FnPrimes_l2_nx : Exit → List Nat
  | .exit 0 => KL true [1,1,4,4,275]
  | .exit 1 => KL true [1,1,4,4,2,1,1,1,270]
  | .exit 2 => KL true [1,1,4,4,2,1,1,1,270]
  | .ret => KL true [4,1,280]
  | _ => []
noncomputable def laws_FnPrimes_l0_T (v1 v2 : List Int) (v2837 v2838 v2839 v2841 v2842 : Int) (v2843 : List (List Int)) (v2844 : List Nat) (v2845 : List Int) (s : Int) : Tree ((Int) ⊕ ((Unit) ⊕ (Unit))) :=
  (.br (decide (s < (((v2844).length : Nat) : Int))) (
  (.grd (inb s ((v2844).length)) <|
  (.br (!decide ((((nget v2843 (nth v2844 (Int.toNat s))).length : Nat) : Int) = v2839)) (
  .leaf (.inr (.inl ()))
  ) (
  (.need (some (laws_FnPrimes_l2_E v1 v2 v2837 v2838 v2839 s v2841 v2842 v2843 v2844 v2845 (0 : Int)) = some (laws_FnPrimes_l2_E v1 v2 v2837 v2838 v2839 s v2841 v2842 v2843 v2844 v2845 (0 : Int))) <|
  (.call (laws_FnPrimes_l2_g v1 v2 v2837 v2838 v2839 s v2841 v2842 v2843 v2844 v2845 (0 : Int)) fun v2987 =>
  (.sum v2987 (fun v2988 =>
  .leaf (.inr (.inl ()))
  ) (fun v2989 =>
  .leaf (.inl (IntKind.i64.wrap (s + (1 : Int))))
  ))))
  )))
  ) (
  .leaf (.inr (.inr ()))
  ))

noncomputable def laws_FnPrimes_l0_g (v1 v2 : List Int) (v2837 v2838 v2839 v2841 v2842 : Int) (v2843 : List (List Int)) (v2844 : List Nat) (v2845 : List Int) (s0 : Int) : Option ((Unit) ⊕ (Unit)) := whileM (fun s => (laws_FnPrimes_l0_T v1 v2 v2837 v2838 v2839 v2841 v2842 v2843 v2844 v2845 s).run) s0
def laws_FnPrimes_l0_E (v1 v2 : List Int) (v2837 v2838 v2839 v2841 v2842 : Int) (v2843 : List (List Int)) (v2844 : List Nat) (v2845 : List Int) (s : Int) : Sd := ([Z,.bslc (BR.root 1) (.u8 v2),Z,Z,Z,Z,.int .i64 v2837,.int .i64 v2838,.int .i64 v2839,.ptr 0 (0 : Nat) 0 (3 : Nat),Z,Z,.nest 1 0 1 ((v2844).length),Z,.int .i64 s,Z,Z,Z,Z,Z,Z,Z,Z,Z,Z,Z,Z,Z,Z,Z,Z,Z,Z,Z,Z,Z,Z,Z,Z,Z,Z,Z,Z,Z,Z,Z,Z,Z,Z,Z,Z,Z,Z,Z,Z,Z,Z,Z,Z,Z,Z,Z,Z,Z,Z,Z,Z,Z,Z,Z,Z,Z,Z,Z,Z,Z,Z,Z,Z,Z,Z,Z,Z,Z,Z,Z,Z,Z,Z,Z,Z,Z,Z,Z,Z,Z,Z,Z,Z,Z,Z,Z,Z,Z,Z,Z,Z,Z,Z,Z,Z,Z,Z,Z,Z,Z,Z,Z,Z,Z,Z,Z,Z,Z,Z,Z,Z,Z,Z,Z,Z,Z,Z,Z,Z,Z,Z,Z,Z,Z,Z,Z,Z,Z,Z,Z,Z,Z,Z,Z,Z,Z,Z,Z,Z,Z,Z,Z,Z,Z,Z,Z,Z,Z,Z,Z,Z,Z,Z,Z,Z,Z,Z,Z,Z,Z,Z,Z,Z,Z,Z,Z,Z,Z,Z,Z,Z,Z,Z,Z,Z,Z,Z,Z,Z,Z,Z,Z,Z,Z,Z,Z,Z,Z,Z,Z,Z,Z,Z,Z,Z,Z,Z,Z,Z,Z,Z,Z,Z,Z,Z,Z,Z,Z,Z,Z,Z,Z,Z,Z,Z,Z,Z,Z,Z,Z,Z,Z,Z,Z,Z,Z,Z,Z,Z,Z,Z,Z,Z,Z,Z,Z,Z,Z,Z,Z,Z,Z,Z,Z,Z,Z,Z,Z,Z,Z,Z,Z,Z,Z,Z,Z,Z,Z,Z,Z,Z,Z,Z,Z,Z,Z,Z,Z,Z], [.gen [.int .i64 v2841, .int .i64 v2842, .own 2 0 ((v2845).length)] false 0, .nest [.sl (.i64 v2843) v2844] false 0, .row (.i64 v2845) 0])
def laws_FnPrimes_l0_X (v1 v2 : List Int) (v2837 v2838 v2839 v2841 v2842 : Int) (v2843 : List (List Int)) (v2844 : List Nat) (v2845 : List Int) (x : (Unit) ⊕ (Unit)) : Out := (match x with | .inl x => (.ret, [Z,Z,Z,Z,.lit false,Z,Z,Z,Z,Z,Z,Z,Z,Z,Z,Z,Z,Z,Z,Z,Z,Z,Z,Z,Z,Z,Z,Z,Z,Z,Z,Z,Z,Z,Z,Z,Z,Z,Z,Z,Z,Z,Z,Z,Z,Z,Z,Z,Z,Z,Z,Z,Z,Z,Z,Z,Z,Z,Z,Z,Z,Z,Z,Z,Z,Z,Z,Z,Z,Z,Z,Z,Z,Z,Z,Z,Z,Z,Z,Z,Z,Z,Z,Z,Z,Z,Z,Z,Z,Z,Z,Z,Z,Z,Z,Z,Z,Z,Z,Z,Z,Z,Z,Z,Z,Z,Z,Z,Z,Z,Z,Z,Z,Z,Z,Z,Z,Z,Z,Z,Z,Z,Z,Z,Z,Z,Z,Z,Z,Z,Z,Z,Z,Z,Z,Z,Z,Z,Z,Z,Z,Z,Z,Z,Z,Z,Z,Z,Z,Z,Z,Z,Z,Z,Z,Z,Z,Z,Z,Z,Z,Z,Z,Z,Z,Z,Z,Z,Z,Z,Z,Z,Z,Z,Z,Z,Z,Z,Z,Z,Z,Z,Z,Z,Z,Z,Z,Z,Z,Z,Z,Z,Z,Z,Z,Z,Z,Z,Z,Z,Z,Z,Z,Z,Z,Z,Z,Z,Z,Z,Z,Z,Z,Z,Z,Z,Z,Z,Z,Z,Z,Z,Z,Z,Z,Z,Z,Z,Z,Z,Z,Z,Z,Z,Z,Z,Z,Z,Z,Z,Z,Z,Z,Z,Z,Z,Z,Z,Z,Z,Z,Z,Z,Z,Z,Z,Z,Z,Z,Z,Z,Z,Z,Z,Z,Z,Z,Z,Z,Z,Z,Z,Z,Z,Z,Z,Z,Z,Z,Z,Z,Z,Z,Z,Z], []) | .inr x => (.normal, [Z,.bslc (BR.root 1) (.u8 v2),Z,Z,Z,Z,.int .i64 v2837,.int .i64 v2838,.int .i64 v2839,.ptr 0 (0 : Nat) 0 (3 : Nat),Z,Z,Z,Z,Z,Z,Z,Z,Z,Z,Z,Z,Z,Z,Z,Z,Z,Z,Z,Z,Z,Z,Z,Z,Z,Z,Z,Z,Z,Z,Z,Z,Z,Z,Z,Z,Z,Z,Z,Z,Z,Z,Z,Z,Z,Z,Z,Z,Z,Z,Z,Z,Z,Z,Z,Z,Z,Z,Z,Z,Z,Z,Z,Z,Z,Z,Z,Z,Z,Z,Z,Z,Z,Z,Z,Z,Z,Z,Z,Z,Z,Z,Z,Z,Z,Z,Z,Z,Z,Z,Z,Z,Z,Z,Z,Z,Z,Z,Z,Z,Z,Z,Z,Z,Z,Z,Z,Z,Z,Z,Z,Z,Z,Z,Z,Z,Z,Z,Z,Z,Z,Z,Z,Z,Z,Z,Z,Z,Z,Z,Z,Z,Z,Z,Z,Z,Z,Z,Z,Z,Z,Z,Z,Z,Z,Z,Z,Z,Z,Z,Z,Z,Z,Z,Z,Z,Z,Z,Z,Z,Z,Z,Z,Z,Z,Z,Z,Z,Z,Z,Z,Z,Z,Z,Z,Z,Z,Z,Z,Z,Z,Z,Z,Z,Z,Z,Z,Z,Z,Z,Z,Z,Z,Z,Z,Z,Z,Z,Z,Z,Z,Z,Z,Z,Z,Z,Z,Z,Z,Z,Z,Z,Z,Z,Z,Z,Z,Z,Z,Z,Z,Z,Z,Z,Z,Z,Z,Z,Z,Z,Z,Z,Z,Z,Z,Z,Z,Z,Z,Z,Z,Z,Z,Z,Z,Z,Z,Z,Z,Z,Z,Z,Z,Z,Z,Z,Z,Z,Z,Z,Z,Z,Z,Z,Z,Z,Z,Z,Z,Z,Z,Z,Z,Z,Z], [.gen [.int .i64 v2841, .int .i64 v2842, .own 1 0 ((v2845).length)] false 0, .row (.i64 v2845) 0]))
def laws_FnPrimes_l0_kill : List Nat := KL true [1,1,4,4,2,1,1,1,270]
def laws_FnPrimes_l0_nx : Exit → List Nat
  | .exit 0 => KL true [1,1,4,4,275]
  | .ret => KL true [4,1,280]
  | _ => []
noncomputable def laws_FnPrimes_l8_T (v2 : List Int) (v3103 v3104 v3105 v3106 v3109 v3110 : Int) (v3111 v3112 : List Int) (s : Int × Int) : Tree ((Int × Int) ⊕ (Int)) :=
  (.br (decide (s.2 < v3105)) (
  (.grd (inb (IntKind.i64.wrap ((IntKind.i64.wrap (v3106 * v3105)) + s.2)) ((v3112).length)) <|
  (.call (laws_r8At_g v2 s.2 (9 : Int)) fun v3113 =>
  .leaf (.inl (IntKind.i64.wrap (s.1 + (IntKind.i64.wrap ((nth v3112 (Int.toNat (IntKind.i64.wrap ((IntKind.i64.wrap (v3106 * v3105)) + s.2)))) * v3113))), IntKind.i64.wrap (s.2 + (1 : Int))))))
  ) (
  .leaf (.inr s.1)
  ))

noncomputable def laws_FnPrimes_l8_g (v2 : List Int) (v3103 v3104 v3105 v3106 v3109 v3110 : Int) (v3111 v3112 : List Int) (s0 : Int × Int) : Option (Int) := whileM (fun s => (laws_FnPrimes_l8_T v2 v3103 v3104 v3105 v3106 v3109 v3110 v3111 v3112 s).run) s0
def laws_FnPrimes_l8_E (v1 v2 : List Int) (v3103 v3104 v3105 v3106 v3109 v3110 : Int) (v3111 v3112 : List Int) (s : Int × Int) : Sd := ([Z,.bslc (BR.root 1) (.u8 v2),Z,Z,Z,Z,.int .i64 v3103,.int .i64 v3104,.int .i64 v3105,.ptr 0 (0 : Nat) 0 (3 : Nat),Z,Z,Z,Z,Z,Z,Z,Z,.own 1 0 ((v3111).length),.int .i64 v3106,.int .i64 s.1,.int .i64 s.2,Z,Z,Z,Z,Z,Z,Z,Z,Z,Z,Z,Z,Z,Z,Z,Z,Z,Z,Z,Z,Z,Z,Z,Z,Z,Z,Z,Z,Z,Z,Z,Z,Z,Z,Z,Z,Z,Z,Z,Z,Z,Z,Z,Z,Z,Z,Z,Z,Z,Z,Z,Z,Z,Z,Z,Z,Z,Z,Z,Z,Z,Z,Z,Z,Z,Z,Z,Z,Z,Z,Z,Z,Z,Z,Z,Z,Z,Z,Z,Z,Z,Z,Z,Z,Z,Z,Z,Z,Z,Z,Z,Z,Z,Z,Z,Z,Z,Z,Z,Z,Z,Z,Z,Z,Z,Z,Z,Z,Z,Z,Z,Z,Z,Z,Z,Z,Z,Z,Z,Z,Z,Z,Z,Z,Z,Z,Z,Z,Z,Z,Z,Z,Z,Z,Z,Z,Z,Z,Z,Z,Z,Z,Z,Z,Z,Z,Z,Z,Z,Z,Z,Z,Z,Z,Z,Z,Z,Z,Z,Z,Z,Z,Z,Z,Z,Z,Z,Z,Z,Z,Z,Z,Z,Z,Z,Z,Z,Z,Z,Z,Z,Z,Z,Z,Z,Z,Z,Z,Z,Z,Z,Z,Z,Z,Z,Z,Z,Z,Z,Z,Z,Z,Z,Z,Z,Z,Z,Z,Z,Z,Z,Z,Z,Z,Z,Z,Z,Z,Z,Z,Z,Z,Z,Z,Z,Z,Z,Z,Z,Z,Z,Z,Z,Z,Z,Z,Z,Z,Z,Z,Z,Z,Z,Z,Z,Z,Z,Z,Z,Z,Z,Z,Z,Z,Z,Z,Z,Z,Z,Z,Z,Z,Z], [.gen [.int .i64 v3109, .int .i64 v3110, .own 2 0 ((v3112).length)] false 0, .row (.i64 v3111) 0, .row (.i64 v3112) 0])
def laws_FnPrimes_l8_X (v1 v2 : List Int) (v3103 v3104 v3105 v3106 v3109 v3110 : Int) (v3111 v3112 : List Int) (x : Int) : Out := (.normal, [Z,.bslc (BR.root 1) (.u8 v2),Z,Z,Z,Z,.int .i64 v3103,.int .i64 v3104,.int .i64 v3105,.ptr 0 (0 : Nat) 0 (3 : Nat),Z,Z,Z,Z,Z,Z,Z,Z,.own 1 0 ((v3111).length),.int .i64 v3106,.int .i64 x,Z,Z,Z,Z,Z,Z,Z,Z,Z,Z,Z,Z,Z,Z,Z,Z,Z,Z,Z,Z,Z,Z,Z,Z,Z,Z,Z,Z,Z,Z,Z,Z,Z,Z,Z,Z,Z,Z,Z,Z,Z,Z,Z,Z,Z,Z,Z,Z,Z,Z,Z,Z,Z,Z,Z,Z,Z,Z,Z,Z,Z,Z,Z,Z,Z,Z,Z,Z,Z,Z,Z,Z,Z,Z,Z,Z,Z,Z,Z,Z,Z,Z,Z,Z,Z,Z,Z,Z,Z,Z,Z,Z,Z,Z,Z,Z,Z,Z,Z,Z,Z,Z,Z,Z,Z,Z,Z,Z,Z,Z,Z,Z,Z,Z,Z,Z,Z,Z,Z,Z,Z,Z,Z,Z,Z,Z,Z,Z,Z,Z,Z,Z,Z,Z,Z,Z,Z,Z,Z,Z,Z,Z,Z,Z,Z,Z,Z,Z,Z,Z,Z,Z,Z,Z,Z,Z,Z,Z,Z,Z,Z,Z,Z,Z,Z,Z,Z,Z,Z,Z,Z,Z,Z,Z,Z,Z,Z,Z,Z,Z,Z,Z,Z,Z,Z,Z,Z,Z,Z,Z,Z,Z,Z,Z,Z,Z,Z,Z,Z,Z,Z,Z,Z,Z,Z,Z,Z,Z,Z,Z,Z,Z,Z,Z,Z,Z,Z,Z,Z,Z,Z,Z,Z,Z,Z,Z,Z,Z,Z,Z,Z,Z,Z,Z,Z,Z,Z,Z,Z,Z,Z,Z,Z,Z,Z,Z,Z,Z,Z,Z,Z,Z,Z,Z,Z,Z,Z,Z,Z,Z,Z,Z,Z,Z], [.gen [.int .i64 v3109, .int .i64 v3110, .own 2 0 ((v3112).length)] false 0, .row (.i64 v3111) 0, .row (.i64 v3112) 0])
def laws_FnPrimes_l8_kill : List Nat := KL true [1,1,4,4,8,4,263]
def laws_FnPrimes_l8_nx : Exit → List Nat
  | .exit 6 => KL true [1,1,4,4,8,1,266]
  | .exit 7 => KL true [1,1,4,4,8,2,265]
  | .exit 8 => KL true [1,1,4,4,8,3,264]
  | .ret => KL true [4,1,280]
  | _ => []
noncomputable def laws_FnPrimes_l6_T (v1 v2 : List Int) (v3073 v3074 v3075 v3077 v3078 : Int) (v3080 : List Int) (s : Int × (List Int)) : Tree ((Int × (List Int)) ⊕ ((List Int))) :=
  (.br (decide (s.1 < v3074)) (
  (.need (some (laws_FnPrimes_l8_E v1 v2 v3073 v3074 v3075 s.1 v3077 v3078 s.2 v3080 ((0 : Int), (0 : Int))) = some (laws_FnPrimes_l8_E v1 v2 v3073 v3074 v3075 s.1 v3077 v3078 s.2 v3080 ((0 : Int), (0 : Int)))) <|
  (.call (laws_FnPrimes_l8_g v2 v3073 v3074 v3075 s.1 v3077 v3078 s.2 v3080 ((0 : Int), (0 : Int))) fun v3114 =>
  (.grd (fits (s.2 ++ ([v3114] : List Int)).length) <|
  .leaf (.inl (IntKind.i64.wrap (s.1 + (1 : Int)), s.2 ++ ([v3114] : List Int))))))
  ) (
  .leaf (.inr s.2)
  ))

noncomputable def laws_FnPrimes_l6_g (v1 v2 : List Int) (v3073 v3074 v3075 v3077 v3078 : Int) (v3080 : List Int) (s0 : Int × (List Int)) : Option ((List Int)) := whileM (fun s => (laws_FnPrimes_l6_T v1 v2 v3073 v3074 v3075 v3077 v3078 v3080 s).run) s0
def laws_FnPrimes_l6_E (v1 v2 : List Int) (v3073 v3074 v3075 v3077 v3078 : Int) (v3080 : List Int) (s : Int × (List Int)) : Sd := ([Z,.bslc (BR.root 1) (.u8 v2),Z,Z,Z,Z,.int .i64 v3073,.int .i64 v3074,.int .i64 v3075,.ptr 0 (0 : Nat) 0 (3 : Nat),Z,Z,Z,Z,Z,Z,Z,Z,.own 1 0 ((s.2).length),.int .i64 s.1,Z,Z,Z,Z,Z,Z,Z,Z,Z,Z,Z,Z,Z,Z,Z,Z,Z,Z,Z,Z,Z,Z,Z,Z,Z,Z,Z,Z,Z,Z,Z,Z,Z,Z,Z,Z,Z,Z,Z,Z,Z,Z,Z,Z,Z,Z,Z,Z,Z,Z,Z,Z,Z,Z,Z,Z,Z,Z,Z,Z,Z,Z,Z,Z,Z,Z,Z,Z,Z,Z,Z,Z,Z,Z,Z,Z,Z,Z,Z,Z,Z,Z,Z,Z,Z,Z,Z,Z,Z,Z,Z,Z,Z,Z,Z,Z,Z,Z,Z,Z,Z,Z,Z,Z,Z,Z,Z,Z,Z,Z,Z,Z,Z,Z,Z,Z,Z,Z,Z,Z,Z,Z,Z,Z,Z,Z,Z,Z,Z,Z,Z,Z,Z,Z,Z,Z,Z,Z,Z,Z,Z,Z,Z,Z,Z,Z,Z,Z,Z,Z,Z,Z,Z,Z,Z,Z,Z,Z,Z,Z,Z,Z,Z,Z,Z,Z,Z,Z,Z,Z,Z,Z,Z,Z,Z,Z,Z,Z,Z,Z,Z,Z,Z,Z,Z,Z,Z,Z,Z,Z,Z,Z,Z,Z,Z,Z,Z,Z,Z,Z,Z,Z,Z,Z,Z,Z,Z,Z,Z,Z,Z,Z,Z,Z,Z,Z,Z,Z,Z,Z,Z,Z,Z,Z,Z,Z,Z,Z,Z,Z,Z,Z,Z,Z,Z,Z,Z,Z,Z,Z,Z,Z,Z,Z,Z,Z,Z,Z,Z,Z,Z,Z,Z,Z,Z,Z,Z,Z,Z,Z,Z,Z,Z,Z,Z], [.gen [.int .i64 v3077, .int .i64 v3078, .own 2 0 ((v3080).length)] false 0, .row (.i64 s.2) 0, .row (.i64 v3080) 0])
def laws_FnPrimes_l6_X (v1 v2 : List Int) (v3073 v3074 v3075 v3077 v3078 : Int) (v3080 : List Int) (x : (List Int)) : Out := (.normal, [Z,.bslc (BR.root 1) (.u8 v2),Z,Z,Z,Z,.int .i64 v3073,.int .i64 v3074,.int .i64 v3075,.ptr 0 (0 : Nat) 0 (3 : Nat),Z,Z,Z,Z,Z,Z,Z,Z,.own 1 0 ((x).length),Z,Z,Z,Z,Z,Z,Z,Z,Z,Z,Z,Z,Z,Z,Z,Z,Z,Z,Z,Z,Z,Z,Z,Z,Z,Z,Z,Z,Z,Z,Z,Z,Z,Z,Z,Z,Z,Z,Z,Z,Z,Z,Z,Z,Z,Z,Z,Z,Z,Z,Z,Z,Z,Z,Z,Z,Z,Z,Z,Z,Z,Z,Z,Z,Z,Z,Z,Z,Z,Z,Z,Z,Z,Z,Z,Z,Z,Z,Z,Z,Z,Z,Z,Z,Z,Z,Z,Z,Z,Z,Z,Z,Z,Z,Z,Z,Z,Z,Z,Z,Z,Z,Z,Z,Z,Z,Z,Z,Z,Z,Z,Z,Z,Z,Z,Z,Z,Z,Z,Z,Z,Z,Z,Z,Z,Z,Z,Z,Z,Z,Z,Z,Z,Z,Z,Z,Z,Z,Z,Z,Z,Z,Z,Z,Z,Z,Z,Z,Z,Z,Z,Z,Z,Z,Z,Z,Z,Z,Z,Z,Z,Z,Z,Z,Z,Z,Z,Z,Z,Z,Z,Z,Z,Z,Z,Z,Z,Z,Z,Z,Z,Z,Z,Z,Z,Z,Z,Z,Z,Z,Z,Z,Z,Z,Z,Z,Z,Z,Z,Z,Z,Z,Z,Z,Z,Z,Z,Z,Z,Z,Z,Z,Z,Z,Z,Z,Z,Z,Z,Z,Z,Z,Z,Z,Z,Z,Z,Z,Z,Z,Z,Z,Z,Z,Z,Z,Z,Z,Z,Z,Z,Z,Z,Z,Z,Z,Z,Z,Z,Z,Z,Z,Z,Z,Z,Z,Z,Z,Z,Z,Z,Z,Z,Z,Z,Z], [.gen [.int .i64 v3077, .int .i64 v3078, .own 2 0 ((v3080).length)] false 0, .row (.i64 x) 0, .row (.i64 v3080) 0])
def laws_FnPrimes_l6_kill : List Nat := KL true [1,1,4,4,8,2,265]
def laws_FnPrimes_l6_nx : Exit → List Nat
  | .exit 6 => KL true [1,1,4,4,8,1,266]
  | .ret => KL true [4,1,280]
  | _ => []
noncomputable def laws_FnPrimes_l12_T (v3265 v3266 v3267 v3268 v3271 v3272 : Int) (v3273 v3274 v3275 : List Int) (s : Int × Int) : Tree ((Int × Int) ⊕ (Int)) :=
  (.br (decide (s.2 < v3267)) (
  (.grd (inb (IntKind.i64.wrap ((IntKind.i64.wrap (v3268 * v3267)) + s.2)) ((v3275).length)) <|
  (.grd (inb s.2 ((v3274).length)) <|
  .leaf (.inl (IntKind.i64.wrap (s.1 + (IntKind.i64.wrap ((nth v3275 (Int.toNat (IntKind.i64.wrap ((IntKind.i64.wrap (v3268 * v3267)) + s.2)))) * (nth v3274 (Int.toNat s.2))))), IntKind.i64.wrap (s.2 + (1 : Int))))))
  ) (
  .leaf (.inr s.1)
  ))

noncomputable def laws_FnPrimes_l12_g (v3265 v3266 v3267 v3268 v3271 v3272 : Int) (v3273 v3274 v3275 : List Int) (s0 : Int × Int) : Option (Int) := whileM (fun s => (laws_FnPrimes_l12_T v3265 v3266 v3267 v3268 v3271 v3272 v3273 v3274 v3275 s).run) s0
def laws_FnPrimes_l12_E (v1 v2 : List Int) (v3265 v3266 v3267 v3268 v3271 v3272 : Int) (v3273 v3274 v3275 : List Int) (s : Int × Int) : Sd := ([Z,.bslc (BR.root 1) (.u8 v2),Z,Z,Z,Z,.int .i64 v3265,.int .i64 v3266,.int .i64 v3267,.ptr 0 (0 : Nat) 0 (3 : Nat),Z,Z,Z,Z,Z,Z,Z,Z,.own 1 0 ((v3273).length),Z,Z,Z,.own 2 0 ((v3274).length),Z,.int .i64 v3268,.int .i64 s.1,.int .i64 s.2,Z,Z,Z,Z,Z,Z,Z,Z,Z,Z,Z,Z,Z,Z,Z,Z,Z,Z,Z,Z,Z,Z,Z,Z,Z,Z,Z,Z,Z,Z,Z,Z,Z,Z,Z,Z,Z,Z,Z,Z,Z,Z,Z,Z,Z,Z,Z,Z,Z,Z,Z,Z,Z,Z,Z,Z,Z,Z,Z,Z,Z,Z,Z,Z,Z,Z,Z,Z,Z,Z,Z,Z,Z,Z,Z,Z,Z,Z,Z,Z,Z,Z,Z,Z,Z,Z,Z,Z,Z,Z,Z,Z,Z,Z,Z,Z,Z,Z,Z,Z,Z,Z,Z,Z,Z,Z,Z,Z,Z,Z,Z,Z,Z,Z,Z,Z,Z,Z,Z,Z,Z,Z,Z,Z,Z,Z,Z,Z,Z,Z,Z,Z,Z,Z,Z,Z,Z,Z,Z,Z,Z,Z,Z,Z,Z,Z,Z,Z,Z,Z,Z,Z,Z,Z,Z,Z,Z,Z,Z,Z,Z,Z,Z,Z,Z,Z,Z,Z,Z,Z,Z,Z,Z,Z,Z,Z,Z,Z,Z,Z,Z,Z,Z,Z,Z,Z,Z,Z,Z,Z,Z,Z,Z,Z,Z,Z,Z,Z,Z,Z,Z,Z,Z,Z,Z,Z,Z,Z,Z,Z,Z,Z,Z,Z,Z,Z,Z,Z,Z,Z,Z,Z,Z,Z,Z,Z,Z,Z,Z,Z,Z,Z,Z,Z,Z,Z,Z,Z,Z,Z,Z,Z,Z,Z,Z,Z,Z,Z,Z,Z,Z,Z,Z,Z,Z,Z,Z,Z], [.gen [.int .i64 v3271, .int .i64 v3272, .own 3 0 ((v3275).length)] false 0, .row (.i64 v3273) 0, .row (.i64 v3274) 0, .row (.i64 v3275) 0])
def laws_FnPrimes_l12_X (v1 v2 : List Int) (v3265 v3266 v3267 v3268 v3271 v3272 : Int) (v3273 v3274 v3275 : List Int) (x : Int) : Out := (.normal, [Z,.bslc (BR.root 1) (.u8 v2),Z,Z,Z,Z,.int .i64 v3265,.int .i64 v3266,.int .i64 v3267,.ptr 0 (0 : Nat) 0 (3 : Nat),Z,Z,Z,Z,Z,Z,Z,Z,.own 1 0 ((v3273).length),Z,Z,Z,.own 2 0 ((v3274).length),Z,.int .i64 v3268,.int .i64 x,Z,Z,Z,Z,Z,Z,Z,Z,Z,Z,Z,Z,Z,Z,Z,Z,Z,Z,Z,Z,Z,Z,Z,Z,Z,Z,Z,Z,Z,Z,Z,Z,Z,Z,Z,Z,Z,Z,Z,Z,Z,Z,Z,Z,Z,Z,Z,Z,Z,Z,Z,Z,Z,Z,Z,Z,Z,Z,Z,Z,Z,Z,Z,Z,Z,Z,Z,Z,Z,Z,Z,Z,Z,Z,Z,Z,Z,Z,Z,Z,Z,Z,Z,Z,Z,Z,Z,Z,Z,Z,Z,Z,Z,Z,Z,Z,Z,Z,Z,Z,Z,Z,Z,Z,Z,Z,Z,Z,Z,Z,Z,Z,Z,Z,Z,Z,Z,Z,Z,Z,Z,Z,Z,Z,Z,Z,Z,Z,Z,Z,Z,Z,Z,Z,Z,Z,Z,Z,Z,Z,Z,Z,Z,Z,Z,Z,Z,Z,Z,Z,Z,Z,Z,Z,Z,Z,Z,Z,Z,Z,Z,Z,Z,Z,Z,Z,Z,Z,Z,Z,Z,Z,Z,Z,Z,Z,Z,Z,Z,Z,Z,Z,Z,Z,Z,Z,Z,Z,Z,Z,Z,Z,Z,Z,Z,Z,Z,Z,Z,Z,Z,Z,Z,Z,Z,Z,Z,Z,Z,Z,Z,Z,Z,Z,Z,Z,Z,Z,Z,Z,Z,Z,Z,Z,Z,Z,Z,Z,Z,Z,Z,Z,Z,Z,Z,Z,Z,Z,Z,Z,Z,Z,Z,Z,Z,Z,Z,Z,Z,Z,Z,Z,Z,Z,Z,Z,Z,Z,Z], [.gen [.int .i64 v3271, .int .i64 v3272, .own 3 0 ((v3275).length)] false 0, .row (.i64 v3273) 0, .row (.i64 v3274) 0, .row (.i64 v3275) 0])
def laws_FnPrimes_l12_kill : List Nat := KL true [1,1,4,4,8,1,3,1,1,3,258]
def laws_FnPrimes_l12_nx : Exit → List Nat
  | .exit 10 => KL true [1,1,4,1,278]
  | .exit 11 => KL true [1,1,4,4,8,1,3,1,1,1,260]
  | .exit 12 => KL true [1,1,4,4,8,1,3,1,1,2,259]
  | .ret => KL true [4,1,280]
  | _ => []
noncomputable def laws_FnPrimes_l10_T (v1 v2 : List Int) (v3234 v3235 v3236 v3238 v3239 : Int) (v3240 v3241 v3242 : List Int) (s : Int) : Tree ((Int) ⊕ ((Unit) ⊕ (Unit))) :=
  (.br (decide (s < v3235)) (
  (.grd (inb s ((v3240).length)) <|
  (.need (some (laws_FnPrimes_l12_E v1 v2 v3234 v3235 v3236 s v3238 v3239 v3240 v3241 v3242 (IntKind.i64.wrap (0 - (nth v3240 (Int.toNat s))), (0 : Int))) = some (laws_FnPrimes_l12_E v1 v2 v3234 v3235 v3236 s v3238 v3239 v3240 v3241 v3242 (IntKind.i64.wrap (0 - (nth v3240 (Int.toNat s))), (0 : Int)))) <|
  (.call (laws_FnPrimes_l12_g v3234 v3235 v3236 s v3238 v3239 v3240 v3241 v3242 (IntKind.i64.wrap (0 - (nth v3240 (Int.toNat s))), (0 : Int))) fun v3276 =>
  (.grd (!decide (v3234 = 0)) <|
  (.br (!decide (Int.tmod v3276 v3234 = (0 : Int))) (
  .leaf (.inr (.inl ()))
  ) (
  .leaf (.inl (IntKind.i64.wrap (s + (1 : Int))))
  ))))))
  ) (
  .leaf (.inr (.inr ()))
  ))

noncomputable def laws_FnPrimes_l10_g (v1 v2 : List Int) (v3234 v3235 v3236 v3238 v3239 : Int) (v3240 v3241 v3242 : List Int) (s0 : Int) : Option ((Unit) ⊕ (Unit)) := whileM (fun s => (laws_FnPrimes_l10_T v1 v2 v3234 v3235 v3236 v3238 v3239 v3240 v3241 v3242 s).run) s0
def laws_FnPrimes_l10_E (v1 v2 : List Int) (v3234 v3235 v3236 v3238 v3239 : Int) (v3240 v3241 v3242 : List Int) (s : Int) : Sd := ([Z,.bslc (BR.root 1) (.u8 v2),Z,Z,Z,Z,.int .i64 v3234,.int .i64 v3235,.int .i64 v3236,.ptr 0 (0 : Nat) 0 (3 : Nat),Z,Z,Z,Z,Z,Z,Z,Z,.own 1 0 ((v3240).length),Z,Z,Z,.own 2 0 ((v3241).length),Z,.int .i64 s,Z,Z,Z,Z,Z,Z,Z,Z,Z,Z,Z,Z,Z,Z,Z,Z,Z,Z,Z,Z,Z,Z,Z,Z,Z,Z,Z,Z,Z,Z,Z,Z,Z,Z,Z,Z,Z,Z,Z,Z,Z,Z,Z,Z,Z,Z,Z,Z,Z,Z,Z,Z,Z,Z,Z,Z,Z,Z,Z,Z,Z,Z,Z,Z,Z,Z,Z,Z,Z,Z,Z,Z,Z,Z,Z,Z,Z,Z,Z,Z,Z,Z,Z,Z,Z,Z,Z,Z,Z,Z,Z,Z,Z,Z,Z,Z,Z,Z,Z,Z,Z,Z,Z,Z,Z,Z,Z,Z,Z,Z,Z,Z,Z,Z,Z,Z,Z,Z,Z,Z,Z,Z,Z,Z,Z,Z,Z,Z,Z,Z,Z,Z,Z,Z,Z,Z,Z,Z,Z,Z,Z,Z,Z,Z,Z,Z,Z,Z,Z,Z,Z,Z,Z,Z,Z,Z,Z,Z,Z,Z,Z,Z,Z,Z,Z,Z,Z,Z,Z,Z,Z,Z,Z,Z,Z,Z,Z,Z,Z,Z,Z,Z,Z,Z,Z,Z,Z,Z,Z,Z,Z,Z,Z,Z,Z,Z,Z,Z,Z,Z,Z,Z,Z,Z,Z,Z,Z,Z,Z,Z,Z,Z,Z,Z,Z,Z,Z,Z,Z,Z,Z,Z,Z,Z,Z,Z,Z,Z,Z,Z,Z,Z,Z,Z,Z,Z,Z,Z,Z,Z,Z,Z,Z,Z,Z,Z,Z,Z,Z,Z,Z,Z,Z,Z,Z,Z,Z,Z,Z,Z], [.gen [.int .i64 v3238, .int .i64 v3239, .own 3 0 ((v3242).length)] false 0, .row (.i64 v3240) 0, .row (.i64 v3241) 0, .row (.i64 v3242) 0])
def laws_FnPrimes_l10_X (v1 v2 : List Int) (v3234 v3235 v3236 v3238 v3239 : Int) (v3240 v3241 v3242 : List Int) (x : (Unit) ⊕ (Unit)) : Out := (match x with | .inl x => (.ret, [Z,Z,Z,Z,.lit false,Z,Z,Z,Z,Z,Z,Z,Z,Z,Z,Z,Z,Z,Z,Z,Z,Z,Z,Z,Z,Z,Z,Z,Z,Z,Z,Z,Z,Z,Z,Z,Z,Z,Z,Z,Z,Z,Z,Z,Z,Z,Z,Z,Z,Z,Z,Z,Z,Z,Z,Z,Z,Z,Z,Z,Z,Z,Z,Z,Z,Z,Z,Z,Z,Z,Z,Z,Z,Z,Z,Z,Z,Z,Z,Z,Z,Z,Z,Z,Z,Z,Z,Z,Z,Z,Z,Z,Z,Z,Z,Z,Z,Z,Z,Z,Z,Z,Z,Z,Z,Z,Z,Z,Z,Z,Z,Z,Z,Z,Z,Z,Z,Z,Z,Z,Z,Z,Z,Z,Z,Z,Z,Z,Z,Z,Z,Z,Z,Z,Z,Z,Z,Z,Z,Z,Z,Z,Z,Z,Z,Z,Z,Z,Z,Z,Z,Z,Z,Z,Z,Z,Z,Z,Z,Z,Z,Z,Z,Z,Z,Z,Z,Z,Z,Z,Z,Z,Z,Z,Z,Z,Z,Z,Z,Z,Z,Z,Z,Z,Z,Z,Z,Z,Z,Z,Z,Z,Z,Z,Z,Z,Z,Z,Z,Z,Z,Z,Z,Z,Z,Z,Z,Z,Z,Z,Z,Z,Z,Z,Z,Z,Z,Z,Z,Z,Z,Z,Z,Z,Z,Z,Z,Z,Z,Z,Z,Z,Z,Z,Z,Z,Z,Z,Z,Z,Z,Z,Z,Z,Z,Z,Z,Z,Z,Z,Z,Z,Z,Z,Z,Z,Z,Z,Z,Z,Z,Z,Z,Z,Z,Z,Z,Z,Z,Z,Z,Z,Z,Z,Z,Z,Z,Z,Z,Z,Z,Z,Z,Z,Z], []) | .inr x => (.normal, [Z,.bslc (BR.root 1) (.u8 v2),Z,Z,Z,Z,.int .i64 v3234,Z,Z,Z,Z,Z,Z,Z,Z,Z,Z,Z,Z,Z,Z,Z,Z,Z,Z,Z,Z,Z,Z,Z,Z,Z,Z,Z,Z,Z,Z,Z,Z,Z,Z,Z,Z,Z,Z,Z,Z,Z,Z,Z,Z,Z,Z,Z,Z,Z,Z,Z,Z,Z,Z,Z,Z,Z,Z,Z,Z,Z,Z,Z,Z,Z,Z,Z,Z,Z,Z,Z,Z,Z,Z,Z,Z,Z,Z,Z,Z,Z,Z,Z,Z,Z,Z,Z,Z,Z,Z,Z,Z,Z,Z,Z,Z,Z,Z,Z,Z,Z,Z,Z,Z,Z,Z,Z,Z,Z,Z,Z,Z,Z,Z,Z,Z,Z,Z,Z,Z,Z,Z,Z,Z,Z,Z,Z,Z,Z,Z,Z,Z,Z,Z,Z,Z,Z,Z,Z,Z,Z,Z,Z,Z,Z,Z,Z,Z,Z,Z,Z,Z,Z,Z,Z,Z,Z,Z,Z,Z,Z,Z,Z,Z,Z,Z,Z,Z,Z,Z,Z,Z,Z,Z,Z,Z,Z,Z,Z,Z,Z,Z,Z,Z,Z,Z,Z,Z,Z,Z,Z,Z,Z,Z,Z,Z,Z,Z,Z,Z,Z,Z,Z,Z,Z,Z,Z,Z,Z,Z,Z,Z,Z,Z,Z,Z,Z,Z,Z,Z,Z,Z,Z,Z,Z,Z,Z,Z,Z,Z,Z,Z,Z,Z,Z,Z,Z,Z,Z,Z,Z,Z,Z,Z,Z,Z,Z,Z,Z,Z,Z,Z,Z,Z,Z,Z,Z,Z,Z,Z,Z,Z,Z,Z,Z,Z,Z,Z,Z,Z,Z,Z,Z,Z,Z,Z,Z,Z], []))
def laws_FnPrimes_l10_kill : List Nat := KL true [1,1,4,4,8,1,3,1,1,1,260]
def laws_FnPrimes_l10_nx : Exit → List Nat
  | .exit 10 => KL true [1,1,4,1,278]
  | .ret => KL true [4,1,280]
  | _ => []
noncomputable def laws_FnPrimes_l14_T (v3299 v3300 : Int) (s : Bool × Int) : Tree ((Bool × Int) ⊕ (Bool)) :=
  (.br (decide (s.2 < v3300)) (
  (.br s.1 (
  .leaf (.inl (true, IntKind.i64.wrap (s.2 + (1 : Int))))
  ) (
  (.grd (!decide (s.2 = 0)) <|
  .leaf (.inl (decide (Int.tmod v3300 s.2 = (0 : Int)), IntKind.i64.wrap (s.2 + (1 : Int)))))
  ))
  ) (
  .leaf (.inr s.1)
  ))

noncomputable def laws_FnPrimes_l14_g (v3299 v3300 : Int) (s0 : Bool × Int) : Option (Bool) := whileM (fun s => (laws_FnPrimes_l14_T v3299 v3300 s).run) s0
def laws_FnPrimes_l14_E (v1 v2 : List Int) (v3299 v3300 : Int) (s : Bool × Int) : Sd := ([Z,Z,Z,Z,Z,Z,.int .i64 v3299,Z,Z,Z,Z,Z,Z,Z,Z,Z,Z,Z,Z,Z,Z,Z,Z,Z,Z,Z,Z,Z,Z,Z,.int .i64 v3300,.bool s.1,.int .i64 s.2,Z,Z,Z,Z,Z,Z,Z,Z,Z,Z,Z,Z,Z,Z,Z,Z,Z,Z,Z,Z,Z,Z,Z,Z,Z,Z,Z,Z,Z,Z,Z,Z,Z,Z,Z,Z,Z,Z,Z,Z,Z,Z,Z,Z,Z,Z,Z,Z,Z,Z,Z,Z,Z,Z,Z,Z,Z,Z,Z,Z,Z,Z,Z,Z,Z,Z,Z,Z,Z,Z,Z,Z,Z,Z,Z,Z,Z,Z,Z,Z,Z,Z,Z,Z,Z,Z,Z,Z,Z,Z,Z,Z,Z,Z,Z,Z,Z,Z,Z,Z,Z,Z,Z,Z,Z,Z,Z,Z,Z,Z,Z,Z,Z,Z,Z,Z,Z,Z,Z,Z,Z,Z,Z,Z,Z,Z,Z,Z,Z,Z,Z,Z,Z,Z,Z,Z,Z,Z,Z,Z,Z,Z,Z,Z,Z,Z,Z,Z,Z,Z,Z,Z,Z,Z,Z,Z,Z,Z,Z,Z,Z,Z,Z,Z,Z,Z,Z,Z,Z,Z,Z,Z,Z,Z,Z,Z,Z,Z,Z,Z,Z,Z,Z,Z,Z,Z,Z,Z,Z,Z,Z,Z,Z,Z,Z,Z,Z,Z,Z,Z,Z,Z,Z,Z,Z,Z,Z,Z,Z,Z,Z,Z,Z,Z,Z,Z,Z,Z,Z,Z,Z,Z,Z,Z,Z,Z,Z,Z,Z,Z,Z,Z,Z,Z,Z,Z,Z,Z,Z,Z,Z,Z,Z,Z,Z,Z,Z,Z,Z,Z,Z,Z], [])
def laws_FnPrimes_l14_X (v1 v2 : List Int) (v3299 v3300 : Int) (x : Bool) : Out := (.normal, [Z,Z,Z,Z,Z,Z,.int .i64 v3299,Z,Z,Z,Z,Z,Z,Z,Z,Z,Z,Z,Z,Z,Z,Z,Z,Z,Z,Z,Z,Z,Z,Z,.int .i64 v3300,.bool x,Z,Z,Z,Z,Z,Z,Z,Z,Z,Z,Z,Z,Z,Z,Z,Z,Z,Z,Z,Z,Z,Z,Z,Z,Z,Z,Z,Z,Z,Z,Z,Z,Z,Z,Z,Z,Z,Z,Z,Z,Z,Z,Z,Z,Z,Z,Z,Z,Z,Z,Z,Z,Z,Z,Z,Z,Z,Z,Z,Z,Z,Z,Z,Z,Z,Z,Z,Z,Z,Z,Z,Z,Z,Z,Z,Z,Z,Z,Z,Z,Z,Z,Z,Z,Z,Z,Z,Z,Z,Z,Z,Z,Z,Z,Z,Z,Z,Z,Z,Z,Z,Z,Z,Z,Z,Z,Z,Z,Z,Z,Z,Z,Z,Z,Z,Z,Z,Z,Z,Z,Z,Z,Z,Z,Z,Z,Z,Z,Z,Z,Z,Z,Z,Z,Z,Z,Z,Z,Z,Z,Z,Z,Z,Z,Z,Z,Z,Z,Z,Z,Z,Z,Z,Z,Z,Z,Z,Z,Z,Z,Z,Z,Z,Z,Z,Z,Z,Z,Z,Z,Z,Z,Z,Z,Z,Z,Z,Z,Z,Z,Z,Z,Z,Z,Z,Z,Z,Z,Z,Z,Z,Z,Z,Z,Z,Z,Z,Z,Z,Z,Z,Z,Z,Z,Z,Z,Z,Z,Z,Z,Z,Z,Z,Z,Z,Z,Z,Z,Z,Z,Z,Z,Z,Z,Z,Z,Z,Z,Z,Z,Z,Z,Z,Z,Z,Z,Z,Z,Z,Z,Z,Z,Z,Z,Z,Z,Z,Z,Z,Z,Z,Z,Z], [])
def laws_FnPrimes_l14_kill : List Nat := [1,1,1,1,1,1,0,1,1,1,1,1,1,1,1,1,1,1,1,1,1,1,1,1,1,1,1,1,1,1,0,2,0,1,1,1,1,1,1,1,1,1,1,1,1,1,1,1,1,1,1,1,1,1,1,1,1,1,1,1,1,1,1,1,1,1,1,1,1,1,1,1,1,1,1,1,1,1,1,1,1,1,1,1,1,1,1,1,1,1,1,1,1,1,1,1,1,1,1,1,1,1,1,1,1,1,1,1,1,1,1,1,1,1,1,1,1,1,1,1,1,1,1,1,1,1,1,1,1,1,1,1,1,1,1,1,1,1,1,1,1,1,1,1,1,1,1,1,1,1,1,1,1,1,1,1,1,1,1,1,1,1,1,1,1,1,1,1,1,1,1,1,1,1,1,1,1,1,1,1,1,1,1,1,1,1,1,1,1,1,1,1,1,1,1,1,1,1,1,1,1,1,1,1,1,1,1,1,1,1,1,1,1,1,1,1,1,1,1,1,1,1,1,1,1,1,1,1,1,1,1,1,1,1,1,1,1,1,1,1,1,1,1,1,1,1,1,1,1,1,1,1,1,1,1,1,1,1,1,1,1,1,1,1,1,1,1,1,1,1,1,1,1,1,1,1,1,1,1,1,1,1,1,1,1]
def laws_FnPrimes_l14_nx : Exit → List Nat
  | .exit 14 => KL true [6,1,23,2,253]
  | .ret => KL true [4,1,280]
  | _ => []
noncomputable def laws_FnPrimes_LO (v1 v2 : List Int) : LOr := fun id e L =>
  match id with
  | 4 => .need (normA 0 laws_FnPrimes_l4_kill e L = some (laws_FnPrimes_l4_E v1 v2 (gI (vAt e 6)) (gI (vAt e 7)) (gI (vAt e 8)) (gI (vAt e 14)) (gI (vAt e 15)) (gI (cAt L (vAt e 9) 0)) (gI (cAt L (vAt e 9) 1)) (gPI L (vAt e 12) 0) (gX L (vAt e 12) 0) (gRI L (cAt L (vAt e 9) 2)) ((gI (vAt e 16)), (gI (vAt e 17))))) (.call (laws_FnPrimes_l4_g (gI (vAt e 6)) (gI (vAt e 7)) (gI (vAt e 8)) (gI (vAt e 14)) (gI (vAt e 15)) (gI (cAt L (vAt e 9) 0)) (gI (cAt L (vAt e 9) 1)) (gPI L (vAt e 12) 0) (gX L (vAt e 12) 0) (gRI L (cAt L (vAt e 9) 2)) ((gI (vAt e 16)), (gI (vAt e 17)))) fun x => .leaf (laws_FnPrimes_l4_X v1 v2 (gI (vAt e 6)) (gI (vAt e 7)) (gI (vAt e 8)) (gI (vAt e 14)) (gI (vAt e 15)) (gI (cAt L (vAt e 9) 0)) (gI (cAt L (vAt e 9) 1)) (gPI L (vAt e 12) 0) (gX L (vAt e 12) 0) (gRI L (cAt L (vAt e 9) 2)) x))
  | 2 => .need (normA 0 laws_FnPrimes_l2_kill e L = some (laws_FnPrimes_l2_E v1 v2 (gI (vAt e 6)) (gI (vAt e 7)) (gI (vAt e 8)) (gI (vAt e 14)) (gI (cAt L (vAt e 9) 0)) (gI (cAt L (vAt e 9) 1)) (gPI L (vAt e 12) 0) (gX L (vAt e 12) 0) (gRI L (cAt L (vAt e 9) 2)) (gI (vAt e 15)))) (.call (laws_FnPrimes_l2_g v1 v2 (gI (vAt e 6)) (gI (vAt e 7)) (gI (vAt e 8)) (gI (vAt e 14)) (gI (cAt L (vAt e 9) 0)) (gI (cAt L (vAt e 9) 1)) (gPI L (vAt e 12) 0) (gX L (vAt e 12) 0) (gRI L (cAt L (vAt e 9) 2)) (gI (vAt e 15))) fun x => .sum x (fun b0 => .leaf (laws_FnPrimes_l2_X v1 v2 (gI (vAt e 6)) (gI (vAt e 7)) (gI (vAt e 8)) (gI (vAt e 14)) (gI (cAt L (vAt e 9) 0)) (gI (cAt L (vAt e 9) 1)) (gPI L (vAt e 12) 0) (gX L (vAt e 12) 0) (gRI L (cAt L (vAt e 9) 2)) (.inl b0))) (fun c0 => .leaf (laws_FnPrimes_l2_X v1 v2 (gI (vAt e 6)) (gI (vAt e 7)) (gI (vAt e 8)) (gI (vAt e 14)) (gI (cAt L (vAt e 9) 0)) (gI (cAt L (vAt e 9) 1)) (gPI L (vAt e 12) 0) (gX L (vAt e 12) 0) (gRI L (cAt L (vAt e 9) 2)) (.inr c0))))
  | 0 => .need (normA 0 laws_FnPrimes_l0_kill e L = some (laws_FnPrimes_l0_E v1 v2 (gI (vAt e 6)) (gI (vAt e 7)) (gI (vAt e 8)) (gI (cAt L (vAt e 9) 0)) (gI (cAt L (vAt e 9) 1)) (gPI L (vAt e 12) 0) (gX L (vAt e 12) 0) (gRI L (cAt L (vAt e 9) 2)) (gI (vAt e 14)))) (.call (laws_FnPrimes_l0_g v1 v2 (gI (vAt e 6)) (gI (vAt e 7)) (gI (vAt e 8)) (gI (cAt L (vAt e 9) 0)) (gI (cAt L (vAt e 9) 1)) (gPI L (vAt e 12) 0) (gX L (vAt e 12) 0) (gRI L (cAt L (vAt e 9) 2)) (gI (vAt e 14))) fun x => .sum x (fun b0 => .leaf (laws_FnPrimes_l0_X v1 v2 (gI (vAt e 6)) (gI (vAt e 7)) (gI (vAt e 8)) (gI (cAt L (vAt e 9) 0)) (gI (cAt L (vAt e 9) 1)) (gPI L (vAt e 12) 0) (gX L (vAt e 12) 0) (gRI L (cAt L (vAt e 9) 2)) (.inl b0))) (fun c0 => .leaf (laws_FnPrimes_l0_X v1 v2 (gI (vAt e 6)) (gI (vAt e 7)) (gI (vAt e 8)) (gI (cAt L (vAt e 9) 0)) (gI (cAt L (vAt e 9) 1)) (gPI L (vAt e 12) 0) (gX L (vAt e 12) 0) (gRI L (cAt L (vAt e 9) 2)) (.inr c0))))
  | 8 => .need (normA 0 laws_FnPrimes_l8_kill e L = some (laws_FnPrimes_l8_E v1 v2 (gI (vAt e 6)) (gI (vAt e 7)) (gI (vAt e 8)) (gI (vAt e 19)) (gI (cAt L (vAt e 9) 0)) (gI (cAt L (vAt e 9) 1)) (gRI L (vAt e 18)) (gRI L (cAt L (vAt e 9) 2)) ((gI (vAt e 20)), (gI (vAt e 21))))) (.call (laws_FnPrimes_l8_g v2 (gI (vAt e 6)) (gI (vAt e 7)) (gI (vAt e 8)) (gI (vAt e 19)) (gI (cAt L (vAt e 9) 0)) (gI (cAt L (vAt e 9) 1)) (gRI L (vAt e 18)) (gRI L (cAt L (vAt e 9) 2)) ((gI (vAt e 20)), (gI (vAt e 21)))) fun x => .leaf (laws_FnPrimes_l8_X v1 v2 (gI (vAt e 6)) (gI (vAt e 7)) (gI (vAt e 8)) (gI (vAt e 19)) (gI (cAt L (vAt e 9) 0)) (gI (cAt L (vAt e 9) 1)) (gRI L (vAt e 18)) (gRI L (cAt L (vAt e 9) 2)) x))
  | 6 => .need (normA 0 laws_FnPrimes_l6_kill e L = some (laws_FnPrimes_l6_E v1 v2 (gI (vAt e 6)) (gI (vAt e 7)) (gI (vAt e 8)) (gI (cAt L (vAt e 9) 0)) (gI (cAt L (vAt e 9) 1)) (gRI L (cAt L (vAt e 9) 2)) ((gI (vAt e 19)), (gRI L (vAt e 18))))) (.call (laws_FnPrimes_l6_g v1 v2 (gI (vAt e 6)) (gI (vAt e 7)) (gI (vAt e 8)) (gI (cAt L (vAt e 9) 0)) (gI (cAt L (vAt e 9) 1)) (gRI L (cAt L (vAt e 9) 2)) ((gI (vAt e 19)), (gRI L (vAt e 18)))) fun x => .leaf (laws_FnPrimes_l6_X v1 v2 (gI (vAt e 6)) (gI (vAt e 7)) (gI (vAt e 8)) (gI (cAt L (vAt e 9) 0)) (gI (cAt L (vAt e 9) 1)) (gRI L (cAt L (vAt e 9) 2)) x))
  | 12 => .need (normA 0 laws_FnPrimes_l12_kill e L = some (laws_FnPrimes_l12_E v1 v2 (gI (vAt e 6)) (gI (vAt e 7)) (gI (vAt e 8)) (gI (vAt e 24)) (gI (cAt L (vAt e 9) 0)) (gI (cAt L (vAt e 9) 1)) (gRI L (vAt e 18)) (gRI L (vAt e 22)) (gRI L (cAt L (vAt e 9) 2)) ((gI (vAt e 25)), (gI (vAt e 26))))) (.call (laws_FnPrimes_l12_g (gI (vAt e 6)) (gI (vAt e 7)) (gI (vAt e 8)) (gI (vAt e 24)) (gI (cAt L (vAt e 9) 0)) (gI (cAt L (vAt e 9) 1)) (gRI L (vAt e 18)) (gRI L (vAt e 22)) (gRI L (cAt L (vAt e 9) 2)) ((gI (vAt e 25)), (gI (vAt e 26)))) fun x => .leaf (laws_FnPrimes_l12_X v1 v2 (gI (vAt e 6)) (gI (vAt e 7)) (gI (vAt e 8)) (gI (vAt e 24)) (gI (cAt L (vAt e 9) 0)) (gI (cAt L (vAt e 9) 1)) (gRI L (vAt e 18)) (gRI L (vAt e 22)) (gRI L (cAt L (vAt e 9) 2)) x))
  | 10 => .need (normA 0 laws_FnPrimes_l10_kill e L = some (laws_FnPrimes_l10_E v1 v2 (gI (vAt e 6)) (gI (vAt e 7)) (gI (vAt e 8)) (gI (cAt L (vAt e 9) 0)) (gI (cAt L (vAt e 9) 1)) (gRI L (vAt e 18)) (gRI L (vAt e 22)) (gRI L (cAt L (vAt e 9) 2)) (gI (vAt e 24)))) (.call (laws_FnPrimes_l10_g v1 v2 (gI (vAt e 6)) (gI (vAt e 7)) (gI (vAt e 8)) (gI (cAt L (vAt e 9) 0)) (gI (cAt L (vAt e 9) 1)) (gRI L (vAt e 18)) (gRI L (vAt e 22)) (gRI L (cAt L (vAt e 9) 2)) (gI (vAt e 24))) fun x => .sum x (fun b0 => .leaf (laws_FnPrimes_l10_X v1 v2 (gI (vAt e 6)) (gI (vAt e 7)) (gI (vAt e 8)) (gI (cAt L (vAt e 9) 0)) (gI (cAt L (vAt e 9) 1)) (gRI L (vAt e 18)) (gRI L (vAt e 22)) (gRI L (cAt L (vAt e 9) 2)) (.inl b0))) (fun c0 => .leaf (laws_FnPrimes_l10_X v1 v2 (gI (vAt e 6)) (gI (vAt e 7)) (gI (vAt e 8)) (gI (cAt L (vAt e 9) 0)) (gI (cAt L (vAt e 9) 1)) (gRI L (vAt e 18)) (gRI L (vAt e 22)) (gRI L (cAt L (vAt e 9) 2)) (.inr c0))))
  | 14 => .need (normA 0 laws_FnPrimes_l14_kill e L = some (laws_FnPrimes_l14_E v1 v2 (gI (vAt e 6)) (gI (vAt e 30)) ((gB (vAt e 31)), (gI (vAt e 32))))) (.call (laws_FnPrimes_l14_g (gI (vAt e 6)) (gI (vAt e 30)) ((gB (vAt e 31)), (gI (vAt e 32)))) fun x => .leaf (laws_FnPrimes_l14_X v1 v2 (gI (vAt e 6)) (gI (vAt e 30)) x))
  | _ => .fail
noncomputable def laws_FnPrimes_tab : List (FuncId × DFn × Bool) := [(54, laws_r8Long_F, true), (55, laws_r8At_F, true), (56, spec_R8Whole_F, true), (18, impl_RankOver_F, true), (27, impl_NullOver_F, true), (21, impl_SolveOver_F, true), (57, impl_BackOver_F, true), (58, impl_IsPrime_F, true)]
theorem laws_FnPrimes_hO : OrcOk Try.prog (tabD laws_FnPrimes_tab) (tabM laws_FnPrimes_tab) := tabD_cons laws_r8Long_Fok (tabD_cons laws_r8At_Fok (tabD_cons spec_R8Whole_Fok (tabD_cons impl_RankOver_Fok (tabD_cons impl_NullOver_Fok (tabD_cons impl_SolveOver_Fok (tabD_cons impl_BackOver_Fok (tabD_cons impl_IsPrime_Fok (tabD_nil _))))))))
theorem laws_FnPrimes_l4_be (v1 v2 : List Int) (v2974 v2975 v2976 v2977 v2978 v2981 v2982 : Int) (v2983 : List (List Int)) (v2984 : List Nat) (v2985 : List Int) (s : Int × Int) : bodyT TT (tabD laws_FnPrimes_tab) (tabM laws_FnPrimes_tab) (laws_FnPrimes_LO v1 v2) 0 laws_FnPrimes_l4_kill laws_FnPrimes_l4_nx (bodyOf Try.f11 4) 4 (laws_FnPrimes_l4_E v1 v2 v2974 v2975 v2976 v2977 v2978 v2981 v2982 v2983 v2984 v2985 s) = (laws_FnPrimes_l4_T v2974 v2975 v2976 v2977 v2978 v2981 v2982 v2983 v2984 v2985 s).bind fun y => .leaf (outS (laws_FnPrimes_l4_E v1 v2 v2974 v2975 v2976 v2977 v2978 v2981 v2982 v2983 v2984 v2985) (laws_FnPrimes_l4_X v1 v2 v2974 v2975 v2976 v2977 v2978 v2981 v2982 v2983 v2984 v2985) y) := by kernel_rfl
theorem laws_FnPrimes_l4_ok (v1 v2 : List Int) : LSound Try.prog 0 (laws_FnPrimes_LO v1 v2) 4 (bodyOf Try.f11 4) := by
  intro e L out h
  exact lo_ok (E := laws_FnPrimes_l4_E v1 v2 (gI (vAt e 6)) (gI (vAt e 7)) (gI (vAt e 8)) (gI (vAt e 14)) (gI (vAt e 15)) (gI (cAt L (vAt e 9) 0)) (gI (cAt L (vAt e 9) 1)) (gPI L (vAt e 12) 0) (gX L (vAt e 12) 0) (gRI L (cAt L (vAt e 9) 2))) (gT := laws_FnPrimes_l4_T (gI (vAt e 6)) (gI (vAt e 7)) (gI (vAt e 8)) (gI (vAt e 14)) (gI (vAt e 15)) (gI (cAt L (vAt e 9) 0)) (gI (cAt L (vAt e 9) 1)) (gPI L (vAt e 12) 0) (gX L (vAt e 12) 0) (gRI L (cAt L (vAt e 9) 2))) (X := laws_FnPrimes_l4_X v1 v2 (gI (vAt e 6)) (gI (vAt e 7)) (gI (vAt e 8)) (gI (vAt e 14)) (gI (vAt e 15)) (gI (cAt L (vAt e 9) 0)) (gI (cAt L (vAt e 9) 1)) (gPI L (vAt e 12) 0) (gX L (vAt e 12) 0) (gRI L (cAt L (vAt e 9) 2))) (s0 := ((gI (vAt e 16)), (gI (vAt e 17)))) tok laws_FnPrimes_hO mixed (LoopsOk_eq (l := []) (by kernel_rfl) trivial) (laws_FnPrimes_l4_be v1 v2 (gI (vAt e 6)) (gI (vAt e 7)) (gI (vAt e 8)) (gI (vAt e 14)) (gI (vAt e 15)) (gI (cAt L (vAt e 9) 0)) (gI (cAt L (vAt e 9) 1)) (gPI L (vAt e 12) 0) (gX L (vAt e 12) 0) (gRI L (cAt L (vAt e 9) 2))) rfl (by intro x; rfl) h
theorem laws_FnPrimes_l2_be (v1 v2 : List Int) (v2940 v2941 v2942 v2943 v2945 v2946 : Int) (v2947 : List (List Int)) (v2948 : List Nat) (v2949 : List Int) (s : Int) : bodyT TT (tabD laws_FnPrimes_tab) (tabM laws_FnPrimes_tab) (laws_FnPrimes_LO v1 v2) 0 laws_FnPrimes_l2_kill laws_FnPrimes_l2_nx (bodyOf Try.f11 2) 2 (laws_FnPrimes_l2_E v1 v2 v2940 v2941 v2942 v2943 v2945 v2946 v2947 v2948 v2949 s) = (laws_FnPrimes_l2_T v1 v2 v2940 v2941 v2942 v2943 v2945 v2946 v2947 v2948 v2949 s).bind fun y => .leaf (outS (laws_FnPrimes_l2_E v1 v2 v2940 v2941 v2942 v2943 v2945 v2946 v2947 v2948 v2949) (laws_FnPrimes_l2_X v1 v2 v2940 v2941 v2942 v2943 v2945 v2946 v2947 v2948 v2949) y) := by kernel_rfl
theorem laws_FnPrimes_l2_ok (v1 v2 : List Int) : LSound Try.prog 0 (laws_FnPrimes_LO v1 v2) 2 (bodyOf Try.f11 2) := by
  intro e L out h
  exact lo_ok (E := laws_FnPrimes_l2_E v1 v2 (gI (vAt e 6)) (gI (vAt e 7)) (gI (vAt e 8)) (gI (vAt e 14)) (gI (cAt L (vAt e 9) 0)) (gI (cAt L (vAt e 9) 1)) (gPI L (vAt e 12) 0) (gX L (vAt e 12) 0) (gRI L (cAt L (vAt e 9) 2))) (gT := laws_FnPrimes_l2_T v1 v2 (gI (vAt e 6)) (gI (vAt e 7)) (gI (vAt e 8)) (gI (vAt e 14)) (gI (cAt L (vAt e 9) 0)) (gI (cAt L (vAt e 9) 1)) (gPI L (vAt e 12) 0) (gX L (vAt e 12) 0) (gRI L (cAt L (vAt e 9) 2))) (X := laws_FnPrimes_l2_X v1 v2 (gI (vAt e 6)) (gI (vAt e 7)) (gI (vAt e 8)) (gI (vAt e 14)) (gI (cAt L (vAt e 9) 0)) (gI (cAt L (vAt e 9) 1)) (gPI L (vAt e 12) 0) (gX L (vAt e 12) 0) (gRI L (cAt L (vAt e 9) 2))) (s0 := (gI (vAt e 15))) tok laws_FnPrimes_hO mixed (LoopsOk_eq (l := [(4, bodyOf Try.f11 4)]) (by kernel_rfl) ⟨laws_FnPrimes_l4_ok v1 v2, trivial⟩) (laws_FnPrimes_l2_be v1 v2 (gI (vAt e 6)) (gI (vAt e 7)) (gI (vAt e 8)) (gI (vAt e 14)) (gI (cAt L (vAt e 9) 0)) (gI (cAt L (vAt e 9) 1)) (gPI L (vAt e 12) 0) (gX L (vAt e 12) 0) (gRI L (cAt L (vAt e 9) 2))) rfl (by intro x; (cases x with | inl b => rfl | inr x => exact rfl)) h
theorem laws_FnPrimes_l0_be (v1 v2 : List Int) (v2837 v2838 v2839 v2841 v2842 : Int) (v2843 : List (List Int)) (v2844 : List Nat) (v2845 : List Int) (s : Int) : bodyT TT (tabD laws_FnPrimes_tab) (tabM laws_FnPrimes_tab) (laws_FnPrimes_LO v1 v2) 0 laws_FnPrimes_l0_kill laws_FnPrimes_l0_nx (bodyOf Try.f11 0) 0 (laws_FnPrimes_l0_E v1 v2 v2837 v2838 v2839 v2841 v2842 v2843 v2844 v2845 s) = (laws_FnPrimes_l0_T v1 v2 v2837 v2838 v2839 v2841 v2842 v2843 v2844 v2845 s).bind fun y => .leaf (outS (laws_FnPrimes_l0_E v1 v2 v2837 v2838 v2839 v2841 v2842 v2843 v2844 v2845) (laws_FnPrimes_l0_X v1 v2 v2837 v2838 v2839 v2841 v2842 v2843 v2844 v2845) y) := by kernel_rfl
theorem laws_FnPrimes_l0_ok (v1 v2 : List Int) : LSound Try.prog 0 (laws_FnPrimes_LO v1 v2) 0 (bodyOf Try.f11 0) := by
  intro e L out h
  exact lo_ok (E := laws_FnPrimes_l0_E v1 v2 (gI (vAt e 6)) (gI (vAt e 7)) (gI (vAt e 8)) (gI (cAt L (vAt e 9) 0)) (gI (cAt L (vAt e 9) 1)) (gPI L (vAt e 12) 0) (gX L (vAt e 12) 0) (gRI L (cAt L (vAt e 9) 2))) (gT := laws_FnPrimes_l0_T v1 v2 (gI (vAt e 6)) (gI (vAt e 7)) (gI (vAt e 8)) (gI (cAt L (vAt e 9) 0)) (gI (cAt L (vAt e 9) 1)) (gPI L (vAt e 12) 0) (gX L (vAt e 12) 0) (gRI L (cAt L (vAt e 9) 2))) (X := laws_FnPrimes_l0_X v1 v2 (gI (vAt e 6)) (gI (vAt e 7)) (gI (vAt e 8)) (gI (cAt L (vAt e 9) 0)) (gI (cAt L (vAt e 9) 1)) (gPI L (vAt e 12) 0) (gX L (vAt e 12) 0) (gRI L (cAt L (vAt e 9) 2))) (s0 := (gI (vAt e 14))) tok laws_FnPrimes_hO mixed (LoopsOk_eq (l := [(2, bodyOf Try.f11 2)]) (by kernel_rfl) ⟨laws_FnPrimes_l2_ok v1 v2, trivial⟩) (laws_FnPrimes_l0_be v1 v2 (gI (vAt e 6)) (gI (vAt e 7)) (gI (vAt e 8)) (gI (cAt L (vAt e 9) 0)) (gI (cAt L (vAt e 9) 1)) (gPI L (vAt e 12) 0) (gX L (vAt e 12) 0) (gRI L (cAt L (vAt e 9) 2))) rfl (by intro x; (cases x with | inl b => rfl | inr x => exact rfl)) h
theorem laws_FnPrimes_l8_be (v1 v2 : List Int) (v3103 v3104 v3105 v3106 v3109 v3110 : Int) (v3111 v3112 : List Int) (s : Int × Int) : bodyT TT (tabD laws_FnPrimes_tab) (tabM laws_FnPrimes_tab) (laws_FnPrimes_LO v1 v2) 0 laws_FnPrimes_l8_kill laws_FnPrimes_l8_nx (bodyOf Try.f11 8) 8 (laws_FnPrimes_l8_E v1 v2 v3103 v3104 v3105 v3106 v3109 v3110 v3111 v3112 s) = (laws_FnPrimes_l8_T v2 v3103 v3104 v3105 v3106 v3109 v3110 v3111 v3112 s).bind fun y => .leaf (outS (laws_FnPrimes_l8_E v1 v2 v3103 v3104 v3105 v3106 v3109 v3110 v3111 v3112) (laws_FnPrimes_l8_X v1 v2 v3103 v3104 v3105 v3106 v3109 v3110 v3111 v3112) y) := by kernel_rfl
theorem laws_FnPrimes_l8_ok (v1 v2 : List Int) : LSound Try.prog 0 (laws_FnPrimes_LO v1 v2) 8 (bodyOf Try.f11 8) := by
  intro e L out h
  exact lo_ok (E := laws_FnPrimes_l8_E v1 v2 (gI (vAt e 6)) (gI (vAt e 7)) (gI (vAt e 8)) (gI (vAt e 19)) (gI (cAt L (vAt e 9) 0)) (gI (cAt L (vAt e 9) 1)) (gRI L (vAt e 18)) (gRI L (cAt L (vAt e 9) 2))) (gT := laws_FnPrimes_l8_T v2 (gI (vAt e 6)) (gI (vAt e 7)) (gI (vAt e 8)) (gI (vAt e 19)) (gI (cAt L (vAt e 9) 0)) (gI (cAt L (vAt e 9) 1)) (gRI L (vAt e 18)) (gRI L (cAt L (vAt e 9) 2))) (X := laws_FnPrimes_l8_X v1 v2 (gI (vAt e 6)) (gI (vAt e 7)) (gI (vAt e 8)) (gI (vAt e 19)) (gI (cAt L (vAt e 9) 0)) (gI (cAt L (vAt e 9) 1)) (gRI L (vAt e 18)) (gRI L (cAt L (vAt e 9) 2))) (s0 := ((gI (vAt e 20)), (gI (vAt e 21)))) tok laws_FnPrimes_hO mixed (LoopsOk_eq (l := []) (by kernel_rfl) trivial) (laws_FnPrimes_l8_be v1 v2 (gI (vAt e 6)) (gI (vAt e 7)) (gI (vAt e 8)) (gI (vAt e 19)) (gI (cAt L (vAt e 9) 0)) (gI (cAt L (vAt e 9) 1)) (gRI L (vAt e 18)) (gRI L (cAt L (vAt e 9) 2))) rfl (by intro x; rfl) h
theorem laws_FnPrimes_l6_be (v1 v2 : List Int) (v3073 v3074 v3075 v3077 v3078 : Int) (v3080 : List Int) (s : Int × (List Int)) : bodyT TT (tabD laws_FnPrimes_tab) (tabM laws_FnPrimes_tab) (laws_FnPrimes_LO v1 v2) 0 laws_FnPrimes_l6_kill laws_FnPrimes_l6_nx (bodyOf Try.f11 6) 6 (laws_FnPrimes_l6_E v1 v2 v3073 v3074 v3075 v3077 v3078 v3080 s) = (laws_FnPrimes_l6_T v1 v2 v3073 v3074 v3075 v3077 v3078 v3080 s).bind fun y => .leaf (outS (laws_FnPrimes_l6_E v1 v2 v3073 v3074 v3075 v3077 v3078 v3080) (laws_FnPrimes_l6_X v1 v2 v3073 v3074 v3075 v3077 v3078 v3080) y) := by kernel_rfl
theorem laws_FnPrimes_l6_ok (v1 v2 : List Int) : LSound Try.prog 0 (laws_FnPrimes_LO v1 v2) 6 (bodyOf Try.f11 6) := by
  intro e L out h
  exact lo_ok (E := laws_FnPrimes_l6_E v1 v2 (gI (vAt e 6)) (gI (vAt e 7)) (gI (vAt e 8)) (gI (cAt L (vAt e 9) 0)) (gI (cAt L (vAt e 9) 1)) (gRI L (cAt L (vAt e 9) 2))) (gT := laws_FnPrimes_l6_T v1 v2 (gI (vAt e 6)) (gI (vAt e 7)) (gI (vAt e 8)) (gI (cAt L (vAt e 9) 0)) (gI (cAt L (vAt e 9) 1)) (gRI L (cAt L (vAt e 9) 2))) (X := laws_FnPrimes_l6_X v1 v2 (gI (vAt e 6)) (gI (vAt e 7)) (gI (vAt e 8)) (gI (cAt L (vAt e 9) 0)) (gI (cAt L (vAt e 9) 1)) (gRI L (cAt L (vAt e 9) 2))) (s0 := ((gI (vAt e 19)), (gRI L (vAt e 18)))) tok laws_FnPrimes_hO mixed (LoopsOk_eq (l := [(8, bodyOf Try.f11 8)]) (by kernel_rfl) ⟨laws_FnPrimes_l8_ok v1 v2, trivial⟩) (laws_FnPrimes_l6_be v1 v2 (gI (vAt e 6)) (gI (vAt e 7)) (gI (vAt e 8)) (gI (cAt L (vAt e 9) 0)) (gI (cAt L (vAt e 9) 1)) (gRI L (cAt L (vAt e 9) 2))) rfl (by intro x; rfl) h
theorem laws_FnPrimes_l12_be (v1 v2 : List Int) (v3265 v3266 v3267 v3268 v3271 v3272 : Int) (v3273 v3274 v3275 : List Int) (s : Int × Int) : bodyT TT (tabD laws_FnPrimes_tab) (tabM laws_FnPrimes_tab) (laws_FnPrimes_LO v1 v2) 0 laws_FnPrimes_l12_kill laws_FnPrimes_l12_nx (bodyOf Try.f11 12) 12 (laws_FnPrimes_l12_E v1 v2 v3265 v3266 v3267 v3268 v3271 v3272 v3273 v3274 v3275 s) = (laws_FnPrimes_l12_T v3265 v3266 v3267 v3268 v3271 v3272 v3273 v3274 v3275 s).bind fun y => .leaf (outS (laws_FnPrimes_l12_E v1 v2 v3265 v3266 v3267 v3268 v3271 v3272 v3273 v3274 v3275) (laws_FnPrimes_l12_X v1 v2 v3265 v3266 v3267 v3268 v3271 v3272 v3273 v3274 v3275) y) := by kernel_rfl
theorem laws_FnPrimes_l12_ok (v1 v2 : List Int) : LSound Try.prog 0 (laws_FnPrimes_LO v1 v2) 12 (bodyOf Try.f11 12) := by
  intro e L out h
  exact lo_ok (E := laws_FnPrimes_l12_E v1 v2 (gI (vAt e 6)) (gI (vAt e 7)) (gI (vAt e 8)) (gI (vAt e 24)) (gI (cAt L (vAt e 9) 0)) (gI (cAt L (vAt e 9) 1)) (gRI L (vAt e 18)) (gRI L (vAt e 22)) (gRI L (cAt L (vAt e 9) 2))) (gT := laws_FnPrimes_l12_T (gI (vAt e 6)) (gI (vAt e 7)) (gI (vAt e 8)) (gI (vAt e 24)) (gI (cAt L (vAt e 9) 0)) (gI (cAt L (vAt e 9) 1)) (gRI L (vAt e 18)) (gRI L (vAt e 22)) (gRI L (cAt L (vAt e 9) 2))) (X := laws_FnPrimes_l12_X v1 v2 (gI (vAt e 6)) (gI (vAt e 7)) (gI (vAt e 8)) (gI (vAt e 24)) (gI (cAt L (vAt e 9) 0)) (gI (cAt L (vAt e 9) 1)) (gRI L (vAt e 18)) (gRI L (vAt e 22)) (gRI L (cAt L (vAt e 9) 2))) (s0 := ((gI (vAt e 25)), (gI (vAt e 26)))) tok laws_FnPrimes_hO mixed (LoopsOk_eq (l := []) (by kernel_rfl) trivial) (laws_FnPrimes_l12_be v1 v2 (gI (vAt e 6)) (gI (vAt e 7)) (gI (vAt e 8)) (gI (vAt e 24)) (gI (cAt L (vAt e 9) 0)) (gI (cAt L (vAt e 9) 1)) (gRI L (vAt e 18)) (gRI L (vAt e 22)) (gRI L (cAt L (vAt e 9) 2))) rfl (by intro x; rfl) h
theorem laws_FnPrimes_l10_be (v1 v2 : List Int) (v3234 v3235 v3236 v3238 v3239 : Int) (v3240 v3241 v3242 : List Int) (s : Int) : bodyT TT (tabD laws_FnPrimes_tab) (tabM laws_FnPrimes_tab) (laws_FnPrimes_LO v1 v2) 0 laws_FnPrimes_l10_kill laws_FnPrimes_l10_nx (bodyOf Try.f11 10) 10 (laws_FnPrimes_l10_E v1 v2 v3234 v3235 v3236 v3238 v3239 v3240 v3241 v3242 s) = (laws_FnPrimes_l10_T v1 v2 v3234 v3235 v3236 v3238 v3239 v3240 v3241 v3242 s).bind fun y => .leaf (outS (laws_FnPrimes_l10_E v1 v2 v3234 v3235 v3236 v3238 v3239 v3240 v3241 v3242) (laws_FnPrimes_l10_X v1 v2 v3234 v3235 v3236 v3238 v3239 v3240 v3241 v3242) y) := by kernel_rfl
theorem laws_FnPrimes_l10_ok (v1 v2 : List Int) : LSound Try.prog 0 (laws_FnPrimes_LO v1 v2) 10 (bodyOf Try.f11 10) := by
  intro e L out h
  exact lo_ok (E := laws_FnPrimes_l10_E v1 v2 (gI (vAt e 6)) (gI (vAt e 7)) (gI (vAt e 8)) (gI (cAt L (vAt e 9) 0)) (gI (cAt L (vAt e 9) 1)) (gRI L (vAt e 18)) (gRI L (vAt e 22)) (gRI L (cAt L (vAt e 9) 2))) (gT := laws_FnPrimes_l10_T v1 v2 (gI (vAt e 6)) (gI (vAt e 7)) (gI (vAt e 8)) (gI (cAt L (vAt e 9) 0)) (gI (cAt L (vAt e 9) 1)) (gRI L (vAt e 18)) (gRI L (vAt e 22)) (gRI L (cAt L (vAt e 9) 2))) (X := laws_FnPrimes_l10_X v1 v2 (gI (vAt e 6)) (gI (vAt e 7)) (gI (vAt e 8)) (gI (cAt L (vAt e 9) 0)) (gI (cAt L (vAt e 9) 1)) (gRI L (vAt e 18)) (gRI L (vAt e 22)) (gRI L (cAt L (vAt e 9) 2))) (s0 := (gI (vAt e 24))) tok laws_FnPrimes_hO mixed (LoopsOk_eq (l := [(12, bodyOf Try.f11 12)]) (by kernel_rfl) ⟨laws_FnPrimes_l12_ok v1 v2, trivial⟩) (laws_FnPrimes_l10_be v1 v2 (gI (vAt e 6)) (gI (vAt e 7)) (gI (vAt e 8)) (gI (cAt L (vAt e 9) 0)) (gI (cAt L (vAt e 9) 1)) (gRI L (vAt e 18)) (gRI L (vAt e 22)) (gRI L (cAt L (vAt e 9) 2))) rfl (by intro x; (cases x with | inl b => rfl | inr x => exact rfl)) h
theorem laws_FnPrimes_l14_be (v1 v2 : List Int) (v3299 v3300 : Int) (s : Bool × Int) : bodyT TT (tabD laws_FnPrimes_tab) (tabM laws_FnPrimes_tab) (laws_FnPrimes_LO v1 v2) 0 laws_FnPrimes_l14_kill laws_FnPrimes_l14_nx (bodyOf Try.f11 14) 14 (laws_FnPrimes_l14_E v1 v2 v3299 v3300 s) = (laws_FnPrimes_l14_T v3299 v3300 s).bind fun y => .leaf (outS (laws_FnPrimes_l14_E v1 v2 v3299 v3300) (laws_FnPrimes_l14_X v1 v2 v3299 v3300) y) := by kernel_rfl
theorem laws_FnPrimes_l14_ok (v1 v2 : List Int) : LSound Try.prog 0 (laws_FnPrimes_LO v1 v2) 14 (bodyOf Try.f11 14) := by
  intro e L out h
  exact lo_ok (E := laws_FnPrimes_l14_E v1 v2 (gI (vAt e 6)) (gI (vAt e 30))) (gT := laws_FnPrimes_l14_T (gI (vAt e 6)) (gI (vAt e 30))) (X := laws_FnPrimes_l14_X v1 v2 (gI (vAt e 6)) (gI (vAt e 30))) (s0 := ((gB (vAt e 31)), (gI (vAt e 32)))) tok laws_FnPrimes_hO mixed (LoopsOk_eq (l := []) (by kernel_rfl) trivial) (laws_FnPrimes_l14_be v1 v2 (gI (vAt e 6)) (gI (vAt e 30))) rfl (by intro x; rfl) h
noncomputable def laws_FnPrimes_T (v1 v2 : List Int) : Tree (Bool) :=
  (.br (laws_r8Long_v v1 v2) (
  .leaf true
  ) (
  (.call (laws_r8At_g v2 (40 : Int) (6 : Int)) fun v8 =>
  (.grd (inb v8 (([(2 : Int), (3 : Int), (5 : Int), (7 : Int), (11 : Int), (101 : Int)] : List Int).length)) <|
  (.call (laws_r8At_g v2 (41 : Int) (4 : Int)) fun v9 =>
  (.call (laws_r8At_g v2 (42 : Int) (4 : Int)) fun v10 =>
  (.call (spec_R8Whole_g v1 (IntKind.i64.wrap ((1 : Int) + v9)) (IntKind.i64.wrap ((1 : Int) + v10))) fun v56 =>
  (.call (impl_RankOver_g v56.1 v56.2.1 v56.2.2 (nth ([(2 : Int), (3 : Int), (5 : Int), (7 : Int), (11 : Int), (101 : Int)] : List Int) (Int.toNat v8))) fun v2397 =>
  (.sum v2397 (fun v2398 =>
  (.call (impl_NullOver_g v56.1 v56.2.1 v56.2.2 (nth ([(2 : Int), (3 : Int), (5 : Int), (7 : Int), (11 : Int), (101 : Int)] : List Int) (Int.toNat v8))) fun v2525 =>
  (.sum v2525 (fun v2526 =>
  .leaf false
  ) (fun v2527 =>
  .leaf false
  )))
  ) (fun v2399 =>
  (.call (impl_NullOver_g v56.1 v56.2.1 v56.2.2 (nth ([(2 : Int), (3 : Int), (5 : Int), (7 : Int), (11 : Int), (101 : Int)] : List Int) (Int.toNat v8))) fun v2528 =>
  (.sum v2528 (fun v2529 =>
  .leaf false
  ) (fun v2530 =>
  (.br (decide (v2399 < (0 : Int))) (
  .leaf false
  ) (
  (.br (decide (imin (IntKind.i64.wrap ((1 : Int) + v9)) (IntKind.i64.wrap ((1 : Int) + v10)) < v2399)) (
  .leaf false
  ) (
  (.br (!decide ((((v2530.2).length : Nat) : Int) = IntKind.i64.wrap ((IntKind.i64.wrap ((1 : Int) + v10)) - v2399))) (
  .leaf false
  ) (
  (.need (some (laws_FnPrimes_l0_E v1 v2 (nth ([(2 : Int), (3 : Int), (5 : Int), (7 : Int), (11 : Int), (101 : Int)] : List Int) (Int.toNat v8)) (IntKind.i64.wrap ((1 : Int) + v9)) (IntKind.i64.wrap ((1 : Int) + v10)) v56.1 v56.2.1 v2530.1 v2530.2 v56.2.2 (0 : Int)) = some (laws_FnPrimes_l0_E v1 v2 (nth ([(2 : Int), (3 : Int), (5 : Int), (7 : Int), (11 : Int), (101 : Int)] : List Int) (Int.toNat v8)) (IntKind.i64.wrap ((1 : Int) + v9)) (IntKind.i64.wrap ((1 : Int) + v10)) v56.1 v56.2.1 v2530.1 v2530.2 v56.2.2 (0 : Int))) <|
  (.call (laws_FnPrimes_l0_g v1 v2 (nth ([(2 : Int), (3 : Int), (5 : Int), (7 : Int), (11 : Int), (101 : Int)] : List Int) (Int.toNat v8)) (IntKind.i64.wrap ((1 : Int) + v9)) (IntKind.i64.wrap ((1 : Int) + v10)) v56.1 v56.2.1 v2530.1 v2530.2 v56.2.2 (0 : Int)) fun v2990 =>
  (.sum v2990 (fun v2991 =>
  .leaf false
  ) (fun v2992 =>
  (.need (some (laws_FnPrimes_l6_E v1 v2 (nth ([(2 : Int), (3 : Int), (5 : Int), (7 : Int), (11 : Int), (101 : Int)] : List Int) (Int.toNat v8)) (IntKind.i64.wrap ((1 : Int) + v9)) (IntKind.i64.wrap ((1 : Int) + v10)) v56.1 v56.2.1 v56.2.2 ((0 : Int), ([] : List Int))) = some (laws_FnPrimes_l6_E v1 v2 (nth ([(2 : Int), (3 : Int), (5 : Int), (7 : Int), (11 : Int), (101 : Int)] : List Int) (Int.toNat v8)) (IntKind.i64.wrap ((1 : Int) + v9)) (IntKind.i64.wrap ((1 : Int) + v10)) v56.1 v56.2.1 v56.2.2 ((0 : Int), ([] : List Int)))) <|
  (.call (laws_FnPrimes_l6_g v1 v2 (nth ([(2 : Int), (3 : Int), (5 : Int), (7 : Int), (11 : Int), (101 : Int)] : List Int) (Int.toNat v8)) (IntKind.i64.wrap ((1 : Int) + v9)) (IntKind.i64.wrap ((1 : Int) + v10)) v56.1 v56.2.1 v56.2.2 ((0 : Int), ([] : List Int))) fun v3115 =>
  (.call (impl_SolveOver_g v56.1 v56.2.1 v56.2.2 v3115 (nth ([(2 : Int), (3 : Int), (5 : Int), (7 : Int), (11 : Int), (101 : Int)] : List Int) (Int.toNat v8))) fun v3145 =>
  (.sum v3145 (fun v3146 =>
  .leaf false
  ) (fun v3147 =>
  (.br (!decide ((((v3147).length : Nat) : Int) = (IntKind.i64.wrap ((1 : Int) + v10)))) (
  .leaf false
  ) (
  (.need (some (laws_FnPrimes_l10_E v1 v2 (nth ([(2 : Int), (3 : Int), (5 : Int), (7 : Int), (11 : Int), (101 : Int)] : List Int) (Int.toNat v8)) (IntKind.i64.wrap ((1 : Int) + v9)) (IntKind.i64.wrap ((1 : Int) + v10)) v56.1 v56.2.1 v3115 v3147 v56.2.2 (0 : Int)) = some (laws_FnPrimes_l10_E v1 v2 (nth ([(2 : Int), (3 : Int), (5 : Int), (7 : Int), (11 : Int), (101 : Int)] : List Int) (Int.toNat v8)) (IntKind.i64.wrap ((1 : Int) + v9)) (IntKind.i64.wrap ((1 : Int) + v10)) v56.1 v56.2.1 v3115 v3147 v56.2.2 (0 : Int))) <|
  (.call (laws_FnPrimes_l10_g v1 v2 (nth ([(2 : Int), (3 : Int), (5 : Int), (7 : Int), (11 : Int), (101 : Int)] : List Int) (Int.toNat v8)) (IntKind.i64.wrap ((1 : Int) + v9)) (IntKind.i64.wrap ((1 : Int) + v10)) v56.1 v56.2.1 v3115 v3147 v56.2.2 (0 : Int)) fun v3277 =>
  (.sum v3277 (fun v3278 =>
  .leaf false
  ) (fun v3279 =>
  (.call (laws_r8At_g v2 (43 : Int) (200 : Int)) fun v3280 =>
  (.call (impl_BackOver_g (IntKind.i64.wrap (v3280 - (100 : Int))) (nth ([(2 : Int), (3 : Int), (5 : Int), (7 : Int), (11 : Int), (101 : Int)] : List Int) (Int.toNat v8))) fun v3285 =>
  (.sum v3285 (fun v3286 =>
  (.grd (!decide ((nth ([(2 : Int), (3 : Int), (5 : Int), (7 : Int), (11 : Int), (101 : Int)] : List Int) (Int.toNat v8)) = 0)) <|
  (.br (!(false == (!decide (Int.tmod (IntKind.i64.wrap (v3280 - (100 : Int))) (nth ([(2 : Int), (3 : Int), (5 : Int), (7 : Int), (11 : Int), (101 : Int)] : List Int) (Int.toNat v8)) = (0 : Int))))) (
  .leaf false
  ) (
  (.call (laws_r8At_g v2 (44 : Int) (200 : Int)) fun v3288 =>
  (.need (some (laws_FnPrimes_l14_E v1 v2 (nth ([(2 : Int), (3 : Int), (5 : Int), (7 : Int), (11 : Int), (101 : Int)] : List Int) (Int.toNat v8)) v3288 (false, (2 : Int))) = some (laws_FnPrimes_l14_E v1 v2 (nth ([(2 : Int), (3 : Int), (5 : Int), (7 : Int), (11 : Int), (101 : Int)] : List Int) (Int.toNat v8)) v3288 (false, (2 : Int)))) <|
  (.call (laws_FnPrimes_l14_g (nth ([(2 : Int), (3 : Int), (5 : Int), (7 : Int), (11 : Int), (101 : Int)] : List Int) (Int.toNat v8)) v3288 (false, (2 : Int))) fun v3303 =>
  (.call (impl_IsPrime_g (nth ([(2 : Int), (3 : Int), (5 : Int), (7 : Int), (11 : Int), (101 : Int)] : List Int) (Int.toNat v8))) fun v3304 =>
  (.br v3304 (
  (.call (impl_IsPrime_g (IntKind.i64.wrap ((nth ([(2 : Int), (3 : Int), (5 : Int), (7 : Int), (11 : Int), (101 : Int)] : List Int) (Int.toNat v8)) * (nth ([(2 : Int), (3 : Int), (5 : Int), (7 : Int), (11 : Int), (101 : Int)] : List Int) (Int.toNat v8))))) fun v3305 =>
  (.br (!v3305) (
  (.call (impl_IsPrime_g v3288) fun v3306 =>
  (.br (decide ((2 : Int) ≤ v3288)) (
  .leaf (v3306 == (!v3303))
  ) (
  .leaf (v3306 == false)
  )))
  ) (
  .leaf false
  )))
  ) (
  .leaf false
  ))))))
  )))
  ) (fun v3287 =>
  (.grd (!decide ((nth ([(2 : Int), (3 : Int), (5 : Int), (7 : Int), (11 : Int), (101 : Int)] : List Int) (Int.toNat v8)) = 0)) <|
  (.br (!(true == (!decide (Int.tmod (IntKind.i64.wrap (v3280 - (100 : Int))) (nth ([(2 : Int), (3 : Int), (5 : Int), (7 : Int), (11 : Int), (101 : Int)] : List Int) (Int.toNat v8)) = (0 : Int))))) (
  .leaf false
  ) (
  (.br (decide (v3287 < (1 : Int))) (
  .leaf false
  ) (
  (.br (decide ((nth ([(2 : Int), (3 : Int), (5 : Int), (7 : Int), (11 : Int), (101 : Int)] : List Int) (Int.toNat v8)) ≤ v3287)) (
  .leaf false
  ) (
  (.grd (!decide ((nth ([(2 : Int), (3 : Int), (5 : Int), (7 : Int), (11 : Int), (101 : Int)] : List Int) (Int.toNat v8)) = 0)) <|
  (.br (!decide (Int.tmod (IntKind.i64.wrap ((IntKind.i64.wrap ((IntKind.i64.wrap (v3280 - (100 : Int))) * v3287)) - (1 : Int))) (nth ([(2 : Int), (3 : Int), (5 : Int), (7 : Int), (11 : Int), (101 : Int)] : List Int) (Int.toNat v8)) = (0 : Int))) (
  .leaf false
  ) (
  (.call (laws_r8At_g v2 (44 : Int) (200 : Int)) fun v3307 =>
  (.need (some (laws_FnPrimes_l14_E v1 v2 (nth ([(2 : Int), (3 : Int), (5 : Int), (7 : Int), (11 : Int), (101 : Int)] : List Int) (Int.toNat v8)) v3307 (false, (2 : Int))) = some (laws_FnPrimes_l14_E v1 v2 (nth ([(2 : Int), (3 : Int), (5 : Int), (7 : Int), (11 : Int), (101 : Int)] : List Int) (Int.toNat v8)) v3307 (false, (2 : Int)))) <|
  (.call (laws_FnPrimes_l14_g (nth ([(2 : Int), (3 : Int), (5 : Int), (7 : Int), (11 : Int), (101 : Int)] : List Int) (Int.toNat v8)) v3307 (false, (2 : Int))) fun v3322 =>
  (.call (impl_IsPrime_g (nth ([(2 : Int), (3 : Int), (5 : Int), (7 : Int), (11 : Int), (101 : Int)] : List Int) (Int.toNat v8))) fun v3323 =>
  (.br v3323 (
  (.call (impl_IsPrime_g (IntKind.i64.wrap ((nth ([(2 : Int), (3 : Int), (5 : Int), (7 : Int), (11 : Int), (101 : Int)] : List Int) (Int.toNat v8)) * (nth ([(2 : Int), (3 : Int), (5 : Int), (7 : Int), (11 : Int), (101 : Int)] : List Int) (Int.toNat v8))))) fun v3324 =>
  (.br (!v3324) (
  (.call (impl_IsPrime_g v3307) fun v3325 =>
  (.br (decide ((2 : Int) ≤ v3307)) (
  .leaf (v3325 == (!v3322))
  ) (
  .leaf (v3325 == false)
  )))
  ) (
  .leaf false
  )))
  ) (
  .leaf false
  ))))))
  )))
  ))
  ))
  )))
  ))))
  ))))
  ))
  )))))
  ))))
  ))
  ))
  ))
  )))
  ))))))))
  ))

noncomputable def laws_FnPrimes_g (v1 v2 : List Int) : Option (Bool) := (laws_FnPrimes_T v1 v2).run
def laws_FnPrimes_enc (v1 v2 : List Int) (y : Bool) : Rs := (.bool y, [])
theorem laws_FnPrimes_den (v1 v2 : List Int) : (den TT (tabD laws_FnPrimes_tab) (tabM laws_FnPrimes_tab) (laws_FnPrimes_LO v1 v2) (codeOf Try.f11) ([.bslc (BR.root 0) (.u8 v1), .bslc (BR.root 1) (.u8 v2)] ++ List.replicate (Try.f11.ntmps - ([.bslc (BR.root 0) (.u8 v1), .bslc (BR.root 1) (.u8 v2)] : List DV).length) .undef) []).bind (retD TT Try.f11.results.toList 0) = (laws_FnPrimes_T v1 v2).bind fun y => .leaf (laws_FnPrimes_enc v1 v2 y) := by kernel_rfl
theorem laws_FnPrimes_fn (v1 v2 : List Int) (F : Fr) (h0 : St F [] F.H0) (hA : DVs.Ok F [] [.bslc (BR.root 0) (.u8 v1), .bslc (BR.root 1) (.u8 v2)]) {y : Bool} (hy : laws_FnPrimes_g v1 v2 = some y) : ∃ F' H', Fwd 0 F F' [] (laws_FnPrimes_enc v1 v2 y).2 ∧ FnOk Try.prog 11 (DVs.av F [.bslc (BR.root 0) (.u8 v1), .bslc (BR.root 1) (.u8 v2)]) F.H0 ((laws_FnPrimes_enc v1 v2 y).1.av F') H' ∧ St F' (laws_FnPrimes_enc v1 v2 y).2 H' ∧ (laws_FnPrimes_enc v1 v2 y).1.Ok F' (laws_FnPrimes_enc v1 v2 y).2 :=
  fn_fin tok laws_FnPrimes_hO mixed Try.func11 Try.call11 (by kernel_rfl) (LoopsOk_eq (l := [(0, bodyOf Try.f11 0), (6, bodyOf Try.f11 6), (10, bodyOf Try.f11 10), (14, bodyOf Try.f11 14)]) (by kernel_rfl) ⟨laws_FnPrimes_l0_ok v1 v2, laws_FnPrimes_l6_ok v1 v2, laws_FnPrimes_l10_ok v1 v2, laws_FnPrimes_l14_ok v1 v2, trivial⟩) (laws_FnPrimes_den v1 v2) hy h0 hA
noncomputable def laws_FnPrimes_F : DFn := fun args L =>
  match args with
  | [a1, a2] =>
    optT (rowU8 L a1) fun v1 =>
    optT (rowU8 L a2) fun v2 =>
    .call (laws_FnPrimes_g v1 v2) fun y => .leaf (.bool y, L)
  | _ => .fail
theorem laws_FnPrimes_Fok : COk Try.prog 11 laws_FnPrimes_F true := by
  intro F L H args r L' hs ha hr
  unfold laws_FnPrimes_F at hr
  split at hr
  · rename_i a1 a2
    obtain ⟨v1, hv1, hr⟩ := optT_run hr
    obtain ⟨v2, hv2, hr⟩ := optT_run hr
    simp only [Tree.run] at hr
    obtain ⟨y, hy, hr⟩ := Option.bind_eq_some_iff.1 hr
    simp only [Tree.run, Option.some.injEq, Prod.mk.injEq] at hr
    obtain ⟨rfl, rfl⟩ := hr
    exact call_ok0 hs (fun k => (([a1.av F, a2.av F] : List AV)[k]?).getD .top) [a1, a2] [.bslc (BR.root 0) (.u8 v1), .bslc (BR.root 1) (.u8 v2)] (fun F' h0 hi hρ => ⟨by simp [DVs.av, DV.av, BR.av, hρ], laws_FnPrimes_fn v1 v2 F' (st_nil hi) ⟨bslc_ok hi (by rw [h0, hρ]; exact rowU8_ok hs (DVs.okAt ha 0 rfl) hv1), bslc_ok hi (by rw [h0, hρ]; exact rowU8_ok hs (DVs.okAt ha 1 rfl) hv2), trivial⟩ hy⟩) rfl
  · cases hr
/-! laws.r8Long -/
noncomputable def laws_r8Long_len_LO (v3328 v3329 : Nat) : LOr := fun id e L =>
  match id with
  | _ => .fail
noncomputable def laws_r8Long_len_tab : List (FuncId × DFn × Bool) := []
theorem laws_r8Long_len_hO : OrcOk Try.prog (tabD laws_r8Long_len_tab) (tabM laws_r8Long_len_tab) := tabD_nil _
noncomputable def laws_r8Long_len_T (v3328 v3329 : Nat) : Tree (Bool) :=
  (.br (decide ((48 : Int) < ((v3328 : Nat) : Int))) (
  .leaf true
  ) (
  .leaf (decide ((48 : Int) < ((v3329 : Nat) : Int)))
  ))

noncomputable def laws_r8Long_len_g (v3328 v3329 : Nat) : Option (Bool) := (laws_r8Long_len_T v3328 v3329).run
def laws_r8Long_len_enc (v3328 v3329 : Nat) (y : Bool) : Rs := (.bool y, [])
theorem laws_r8Long_len_den (v3328 v3329 : Nat) : (den TT (tabD laws_r8Long_len_tab) (tabM laws_r8Long_len_tab) (laws_r8Long_len_LO v3328 v3329) (codeOf Try.f54) ([.hslc (BR.root 0) v3328, .hslc (BR.root 1) v3329] ++ List.replicate (Try.f54.ntmps - ([.hslc (BR.root 0) v3328, .hslc (BR.root 1) v3329] : List DV).length) .undef) []).bind (retD TT Try.f54.results.toList 0) = (laws_r8Long_len_T v3328 v3329).bind fun y => .leaf (laws_r8Long_len_enc v3328 v3329 y) := by kernel_rfl
theorem laws_r8Long_len_fn (v3328 v3329 : Nat) (F : Fr) (h0 : St F [] F.H0) (hA : DVs.Ok F [] [.hslc (BR.root 0) v3328, .hslc (BR.root 1) v3329]) {y : Bool} (hy : laws_r8Long_len_g v3328 v3329 = some y) : ∃ F' H', Fwd 0 F F' [] (laws_r8Long_len_enc v3328 v3329 y).2 ∧ FnOk Try.prog 54 (DVs.av F [.hslc (BR.root 0) v3328, .hslc (BR.root 1) v3329]) F.H0 ((laws_r8Long_len_enc v3328 v3329 y).1.av F') H' ∧ St F' (laws_r8Long_len_enc v3328 v3329 y).2 H' ∧ (laws_r8Long_len_enc v3328 v3329 y).1.Ok F' (laws_r8Long_len_enc v3328 v3329 y).2 :=
  fn_fin tok laws_r8Long_len_hO mixed Try.func54 Try.call54 (by kernel_rfl) (LoopsOk_eq (l := []) (by kernel_rfl) trivial) (laws_r8Long_len_den v3328 v3329) hy h0 hA
def laws_r8Long_len_v (v3328 v3329 : Nat) : Bool :=
  if (decide ((48 : Int) < ((v3328 : Nat) : Int))) = true then (
  true
  ) else (
  decide ((48 : Int) < ((v3329 : Nat) : Int))
  )
theorem laws_r8Long_len_tot (v3328 v3329 : Nat) : laws_r8Long_len_g v3328 v3329 = some (laws_r8Long_len_v v3328 v3329) := by
  unfold laws_r8Long_len_g laws_r8Long_len_T laws_r8Long_len_v
  simp only [Tree.run]
  repeat' (first | rfl | split)
noncomputable def laws_r8Long_len_F : DFn := fun args L =>
  match args with
  | [a1, a2] =>
    optT (lenV L a1) fun v3328 =>
    optT (lenV L a2) fun v3329 =>
    .leaf (.bool (laws_r8Long_len_v v3328 v3329), L)
  | _ => .fail
theorem laws_r8Long_len_Fok : COk Try.prog 54 laws_r8Long_len_F true := by
  intro F L H args r L' hs ha hr
  unfold laws_r8Long_len_F at hr
  split at hr
  · rename_i a1 a2
    obtain ⟨v3328, hv3328, hr⟩ := optT_run hr
    obtain ⟨v3329, hv3329, hr⟩ := optT_run hr
    have hy := laws_r8Long_len_tot v3328 v3329
    generalize laws_r8Long_len_v v3328 v3329 = y at hy hr
    simp only [Tree.run, Option.some.injEq, Prod.mk.injEq] at hr
    obtain ⟨rfl, rfl⟩ := hr
    exact call_ok0 hs (fun k => (([a1.av F, a2.av F] : List AV)[k]?).getD .top) [a1, a2] [.hslc (BR.root 0) v3328, .hslc (BR.root 1) v3329] (fun F' h0 hi hρ => ⟨by simp [DVs.av, DV.av, BR.av, hρ], laws_r8Long_len_fn v3328 v3329 F' (st_nil hi) ⟨hslc_ok hi (by rw [h0, hρ]; exact lenV_ok hs (DVs.okAt ha 0 rfl) hv3328), hslc_ok hi (by rw [h0, hρ]; exact lenV_ok hs (DVs.okAt ha 1 rfl) hv3329), trivial⟩ hy⟩) rfl
  · cases hr
/-! laws.FnPrimes -/
noncomputable def laws_FnPrimes_len_LO (v3326 v3327 : Nat) : LOr := fun id e L =>
  match id with
  | _ => .fail
noncomputable def laws_FnPrimes_len_tab : List (FuncId × DFn × Bool) := [(54, laws_r8Long_len_F, true)]
theorem laws_FnPrimes_len_hO : OrcOk Try.prog (tabD laws_FnPrimes_len_tab) (tabM laws_FnPrimes_len_tab) := tabD_cons laws_r8Long_len_Fok (tabD_nil _)
noncomputable def laws_FnPrimes_len_T (v3326 v3327 : Nat) : Tree (Bool) :=
  (.br (laws_r8Long_len_v v3326 v3327) (
  .leaf true
  ) (
  .fail
  ))

noncomputable def laws_FnPrimes_len_g (v3326 v3327 : Nat) : Option (Bool) := (laws_FnPrimes_len_T v3326 v3327).run
def laws_FnPrimes_len_enc (v3326 v3327 : Nat) (y : Bool) : Rs := (.bool y, [])
theorem laws_FnPrimes_len_den (v3326 v3327 : Nat) : (den TT (tabD laws_FnPrimes_len_tab) (tabM laws_FnPrimes_len_tab) (laws_FnPrimes_len_LO v3326 v3327) (codeOf Try.f11) ([.hslc (BR.root 0) v3326, .hslc (BR.root 1) v3327] ++ List.replicate (Try.f11.ntmps - ([.hslc (BR.root 0) v3326, .hslc (BR.root 1) v3327] : List DV).length) .undef) []).bind (retD TT Try.f11.results.toList 0) = (laws_FnPrimes_len_T v3326 v3327).bind fun y => .leaf (laws_FnPrimes_len_enc v3326 v3327 y) := by kernel_rfl
theorem laws_FnPrimes_len_u0_ok (v3326 v3327 : Nat) : LSound Try.prog 0 (laws_FnPrimes_len_LO v3326 v3327) 0 (bodyOf Try.f11 0) := fun e L out h => absurd (show (none : Option Out) = some out from h) (by simp)
theorem laws_FnPrimes_len_u6_ok (v3326 v3327 : Nat) : LSound Try.prog 0 (laws_FnPrimes_len_LO v3326 v3327) 6 (bodyOf Try.f11 6) := fun e L out h => absurd (show (none : Option Out) = some out from h) (by simp)
theorem laws_FnPrimes_len_u10_ok (v3326 v3327 : Nat) : LSound Try.prog 0 (laws_FnPrimes_len_LO v3326 v3327) 10 (bodyOf Try.f11 10) := fun e L out h => absurd (show (none : Option Out) = some out from h) (by simp)
theorem laws_FnPrimes_len_u14_ok (v3326 v3327 : Nat) : LSound Try.prog 0 (laws_FnPrimes_len_LO v3326 v3327) 14 (bodyOf Try.f11 14) := fun e L out h => absurd (show (none : Option Out) = some out from h) (by simp)
theorem laws_FnPrimes_len_fn (v3326 v3327 : Nat) (F : Fr) (h0 : St F [] F.H0) (hA : DVs.Ok F [] [.hslc (BR.root 0) v3326, .hslc (BR.root 1) v3327]) {y : Bool} (hy : laws_FnPrimes_len_g v3326 v3327 = some y) : ∃ F' H', Fwd 0 F F' [] (laws_FnPrimes_len_enc v3326 v3327 y).2 ∧ FnOk Try.prog 11 (DVs.av F [.hslc (BR.root 0) v3326, .hslc (BR.root 1) v3327]) F.H0 ((laws_FnPrimes_len_enc v3326 v3327 y).1.av F') H' ∧ St F' (laws_FnPrimes_len_enc v3326 v3327 y).2 H' ∧ (laws_FnPrimes_len_enc v3326 v3327 y).1.Ok F' (laws_FnPrimes_len_enc v3326 v3327 y).2 :=
  fn_fin tok laws_FnPrimes_len_hO mixed Try.func11 Try.call11 (by kernel_rfl) (LoopsOk_eq (l := [(0, bodyOf Try.f11 0), (6, bodyOf Try.f11 6), (10, bodyOf Try.f11 10), (14, bodyOf Try.f11 14)]) (by kernel_rfl) ⟨laws_FnPrimes_len_u0_ok v3326 v3327, laws_FnPrimes_len_u6_ok v3326 v3327, laws_FnPrimes_len_u10_ok v3326 v3327, laws_FnPrimes_len_u14_ok v3326 v3327, trivial⟩) (laws_FnPrimes_len_den v3326 v3327) hy h0 hA
noncomputable def laws_FnPrimes_len_F : DFn := fun args L =>
  match args with
  | [a1, a2] =>
    optT (lenV L a1) fun v3326 =>
    optT (lenV L a2) fun v3327 =>
    .call (laws_FnPrimes_len_g v3326 v3327) fun y => .leaf (.bool y, L)
  | _ => .fail
theorem laws_FnPrimes_len_Fok : COk Try.prog 11 laws_FnPrimes_len_F true := by
  intro F L H args r L' hs ha hr
  unfold laws_FnPrimes_len_F at hr
  split at hr
  · rename_i a1 a2
    obtain ⟨v3326, hv3326, hr⟩ := optT_run hr
    obtain ⟨v3327, hv3327, hr⟩ := optT_run hr
    simp only [Tree.run] at hr
    obtain ⟨y, hy, hr⟩ := Option.bind_eq_some_iff.1 hr
    simp only [Tree.run, Option.some.injEq, Prod.mk.injEq] at hr
    obtain ⟨rfl, rfl⟩ := hr
    exact call_ok0 hs (fun k => (([a1.av F, a2.av F] : List AV)[k]?).getD .top) [a1, a2] [.hslc (BR.root 0) v3326, .hslc (BR.root 1) v3327] (fun F' h0 hi hρ => ⟨by simp [DVs.av, DV.av, BR.av, hρ], laws_FnPrimes_len_fn v3326 v3327 F' (st_nil hi) ⟨hslc_ok hi (by rw [h0, hρ]; exact lenV_ok hs (DVs.okAt ha 0 rfl) hv3326), hslc_ok hi (by rw [h0, hρ]; exact lenV_ok hs (DVs.okAt ha 1 rfl) hv3327), trivial⟩ hy⟩) rfl
  · cases hr
end Go.Proofs.Ytimlecagkbbnpaa.AM
