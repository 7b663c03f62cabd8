/- Functions: what they come to. -/
import Derived.Test.YtimlecagkbbnpaaX0
set_option maxRecDepth 100000
set_option maxHeartbeats 4000000
set_option linter.unusedSimpArgs false
set_option linter.unusedVariables false
namespace Go.Proofs.Ytimlecagkbbnpaa.AM
open Go.Proofs
/-! spec.l06Choices -/
noncomputable def spec_l06Choices_l2_T (v50 : Int) (v92 : Int) (v94 : List (List Int)) (v95 : List Nat) (s : Int × (List Int)) : Tree ((Int × (List Int)) ⊕ ((List Int))) :=
  (.br (decide (s.1 < v50)) (
   (.grd (decide (0 ≤ IntKind.u64.wrap (s.1))) <|
   (.br (decide (iand .i64 (ishr .i64 v92 (IntKind.u64.wrap (s.1))) (1 : Int) = (1 : Int))) (
    (.grd (fits (s.2 ++ ([s.1] : List Int)).length) <|
    .leaf (.inl (IntKind.i64.wrap (s.1 + (1 : Int)), s.2 ++ ([s.1] : List Int))))
   ) (
    .leaf (.inl (IntKind.i64.wrap (s.1 + (1 : Int)), s.2))
   )))
  ) (
   .leaf (.inr s.2)
  ))

noncomputable def spec_l06Choices_l2_g (v50 : Int) (v92 : Int) (v94 : List (List Int)) (v95 : List Nat) (s0 : Int × (List Int)) : Option ((List Int)) := whileM (fun s => (spec_l06Choices_l2_T v50 v92 v94 v95 s).run) s0
def spec_l06Choices_l2_E (v50 : Int) (v51 : Int) (v92 : Int) (v94 : List (List Int)) (v95 : List Nat) (s : Int × (List Int)) : Sd := ([.int .i64 v50,.int .i64 v51,tp,tp,tp,.nest 0 0 1 ((v95).length),.int .i64 v92,.own 1 0 ((s.2).length),.int .i64 s.1,tp,tp,tp,tp,tp,tp,tp,tp,tp,tp,tp,tp,tp,tp,tp,tp,tp,tp,tp,tp,tp,tp,tp,tp,tp,tp,tp,tp,tp,tp,tp,tp,tp], [.nest [.sl (.i64 v94) v95] false 0, .row (.i64 s.2) 0])
def spec_l06Choices_l2_X (v50 : Int) (v51 : Int) (v92 : Int) (v94 : List (List Int)) (v95 : List Nat) (x : (List Int)) : Out := (.normal, [.int .i64 v50,.int .i64 v51,tp,tp,tp,.nest 0 0 1 ((v95).length),.int .i64 v92,.own 1 0 ((x).length),tp,tp,tp,tp,tp,tp,tp,tp,tp,tp,tp,tp,tp,tp,tp,tp,tp,tp,tp,tp,tp,tp,tp,tp,tp,tp,tp,tp,tp,tp,tp,tp,tp,tp], [.nest [.sl (.i64 v94) v95] false 0, .row (.i64 x) 0])
def spec_l06Choices_l2_kill : List Nat := KL true [0,2,3,4,33]
def spec_l06Choices_l2_nx : Exit → List Nat
  | .exit 0 => KL true [5,1,36]
  | .exit 1 => KL true [0,2,3,2,35]
  | .exit 2 => KL true [0,2,3,3,34]
  | .ret => KL true [4,1,37]
  | _ => []
noncomputable def spec_l06Choices_l0_T (v50 : Int) (v51 : Int) (s : Int × (List (List Int)) × (List Nat)) : Tree ((Int × (List (List Int)) × (List Nat)) ⊕ ((List (List Int)) × (List Nat))) :=
  (.grd (decide (0 ≤ IntKind.u64.wrap (v50))) <|
  (.br (decide (s.1 < ishl .i64 (1 : Int) (IntKind.u64.wrap (v50)))) (
   (.need (some (spec_l06Choices_l2_E v50 v51 s.1 s.2.1 s.2.2 ((0 : Int), ([] : List Int))) = some (spec_l06Choices_l2_E v50 v51 s.1 s.2.1 s.2.2 ((0 : Int), ([] : List Int)))) <|
   (.call (spec_l06Choices_l2_g v50 s.1 s.2.1 s.2.2 ((0 : Int), ([] : List Int))) fun v97 =>
   (.br (decide ((((v97).length : Nat) : Int) = v51)) (
    (.grd (fits (((s.2.2).length) + (1 : Nat))) <|
    .leaf (.inl (IntKind.i64.wrap (s.1 + (1 : Int)), s.2.1 ++ ([v97] : List (List Int)), s.2.2 ++ [s.2.1.length + 1])))
   ) (
    .leaf (.inl (IntKind.i64.wrap (s.1 + (1 : Int)), s.2.1, s.2.2))
   ))))
  ) (
   .leaf (.inr (s.2.1, s.2.2))
  )))

noncomputable def spec_l06Choices_l0_g (v50 : Int) (v51 : Int) (s0 : Int × (List (List Int)) × (List Nat)) : Option ((List (List Int)) × (List Nat)) := whileM (fun s => (spec_l06Choices_l0_T v50 v51 s).run) s0
def spec_l06Choices_l0_E (v50 : Int) (v51 : Int) (s : Int × (List (List Int)) × (List Nat)) : Sd := ([.int .i64 v50,.int .i64 v51,tp,tp,tp,.nest 0 0 1 ((s.2.2).length),.int .i64 s.1,tp,tp,tp,tp,tp,tp,tp,tp,tp,tp,tp,tp,tp,tp,tp,tp,tp,tp,tp,tp,tp,tp,tp,tp,tp,tp,tp,tp,tp,tp,tp,tp,tp,tp,tp], [.nest [.sl (.i64 s.2.1) s.2.2] false 0])
def spec_l06Choices_l0_X (v50 : Int) (v51 : Int) (x : (List (List Int)) × (List Nat)) : Out := (.normal, [tp,tp,tp,tp,tp,.nest 0 0 1 ((x.2).length),tp,tp,tp,tp,tp,tp,tp,tp,tp,tp,tp,tp,tp,tp,tp,tp,tp,tp,tp,tp,tp,tp,tp,tp,tp,tp,tp,tp,tp,tp,tp,tp,tp,tp,tp,tp], [.nest [.sl (.i64 x.1) x.2] false 0])
def spec_l06Choices_l0_kill : List Nat := KL true [0,2,3,2,35]
def spec_l06Choices_l0_nx : Exit → List Nat
  | .exit 0 => KL true [5,1,36]
  | .ret => KL true [4,1,37]
  | _ => []
noncomputable def spec_l06Choices_LO (v50 : Int) (v51 : Int) : LOr := fun id e L =>
  match id with
  | 2 => .need (normA 0 spec_l06Choices_l2_kill e L = some (spec_l06Choices_l2_E v50 v51 (gI (vAt e 6)) (gPI L (vAt e 5) 0) (gX L (vAt e 5) 0) ((gI (vAt e 8)), (gRI L (vAt e 7))))) (.call (spec_l06Choices_l2_g v50 (gI (vAt e 6)) (gPI L (vAt e 5) 0) (gX L (vAt e 5) 0) ((gI (vAt e 8)), (gRI L (vAt e 7)))) fun x => .leaf (spec_l06Choices_l2_X v50 v51 (gI (vAt e 6)) (gPI L (vAt e 5) 0) (gX L (vAt e 5) 0) x))
  | 0 => .need (normA 0 spec_l06Choices_l0_kill e L = some (spec_l06Choices_l0_E v50 v51 ((gI (vAt e 6)), (gPI L (vAt e 5) 0), (gX L (vAt e 5) 0)))) (.call (spec_l06Choices_l0_g v50 v51 ((gI (vAt e 6)), (gPI L (vAt e 5) 0), (gX L (vAt e 5) 0))) fun x => .leaf (spec_l06Choices_l0_X v50 v51 x))
  | _ => .fail
noncomputable def spec_l06Choices_tab : List (FuncId × DFn × Bool) := []
theorem spec_l06Choices_hO : OrcOk Try.prog (tabD spec_l06Choices_tab) (tabM spec_l06Choices_tab) := tabD_nil _
theorem spec_l06Choices_l2_be (v50 : Int) (v51 : Int) (v92 : Int) (v94 : List (List Int)) (v95 : List Nat) (s : Int × (List Int)) : bodyT TT (tabD spec_l06Choices_tab) (tabM spec_l06Choices_tab) (spec_l06Choices_LO v50 v51) 0 spec_l06Choices_l2_kill spec_l06Choices_l2_nx (bodyOf Try.f73 2) 2 (spec_l06Choices_l2_E v50 v51 v92 v94 v95 s) = (spec_l06Choices_l2_T v50 v92 v94 v95 s).bind fun y => .leaf (outS (spec_l06Choices_l2_E v50 v51 v92 v94 v95) (spec_l06Choices_l2_X v50 v51 v92 v94 v95) y) := by kernel_rfl
theorem spec_l06Choices_l2_ok (v50 : Int) (v51 : Int) : LSound Try.prog 0 (spec_l06Choices_LO v50 v51) 2 (bodyOf Try.f73 2) := by
  intro e L out h
  exact lo_ok (E := spec_l06Choices_l2_E v50 v51 (gI (vAt e 6)) (gPI L (vAt e 5) 0) (gX L (vAt e 5) 0)) (gT := spec_l06Choices_l2_T v50 (gI (vAt e 6)) (gPI L (vAt e 5) 0) (gX L (vAt e 5) 0)) (X := spec_l06Choices_l2_X v50 v51 (gI (vAt e 6)) (gPI L (vAt e 5) 0) (gX L (vAt e 5) 0)) (s0 := ((gI (vAt e 8)), (gRI L (vAt e 7)))) tok spec_l06Choices_hO mixed (LoopsOk_eq (l := []) (by kernel_rfl) trivial) (spec_l06Choices_l2_be v50 v51 (gI (vAt e 6)) (gPI L (vAt e 5) 0) (gX L (vAt e 5) 0)) rfl (by intro x; rfl) h
theorem spec_l06Choices_l0_be (v50 : Int) (v51 : Int) (s : Int × (List (List Int)) × (List Nat)) : bodyT TT (tabD spec_l06Choices_tab) (tabM spec_l06Choices_tab) (spec_l06Choices_LO v50 v51) 0 spec_l06Choices_l0_kill spec_l06Choices_l0_nx (bodyOf Try.f73 0) 0 (spec_l06Choices_l0_E v50 v51 s) = (spec_l06Choices_l0_T v50 v51 s).bind fun y => .leaf (outS (spec_l06Choices_l0_E v50 v51) (spec_l06Choices_l0_X v50 v51) y) := by kernel_rfl
theorem spec_l06Choices_l0_ok (v50 : Int) (v51 : Int) : LSound Try.prog 0 (spec_l06Choices_LO v50 v51) 0 (bodyOf Try.f73 0) := by
  intro e L out h
  exact lo_ok (E := spec_l06Choices_l0_E v50 v51) (gT := spec_l06Choices_l0_T v50 v51) (X := spec_l06Choices_l0_X v50 v51) (s0 := ((gI (vAt e 6)), (gPI L (vAt e 5) 0), (gX L (vAt e 5) 0))) tok spec_l06Choices_hO mixed (LoopsOk_eq (l := [(2, bodyOf Try.f73 2)]) (by kernel_rfl) ⟨spec_l06Choices_l2_ok v50 v51, trivial⟩) (spec_l06Choices_l0_be v50 v51) rfl (by intro x; rfl) h
noncomputable def spec_l06Choices_T (v50 : Int) (v51 : Int) : Tree ((List (List Int)) × (List Nat)) :=
  (.need (some (spec_l06Choices_l0_E v50 v51 ((0 : Int), ([] : List (List Int)), ([] : List Nat))) = some (spec_l06Choices_l0_E v50 v51 ((0 : Int), ([] : List (List Int)), ([] : List Nat)))) <|
  (.call (spec_l06Choices_l0_g v50 v51 ((0 : Int), ([] : List (List Int)), ([] : List Nat))) fun v98 =>
  .leaf (v98.1, v98.2)))

noncomputable def spec_l06Choices_g (v50 : Int) (v51 : Int) : Option ((List (List Int)) × (List Nat)) := (spec_l06Choices_T v50 v51).run
def spec_l06Choices_enc (v50 : Int) (v51 : Int) (y : (List (List Int)) × (List Nat)) : Rs := (.nest 0 0 1 ((y.2).length), [.nest [.sl (.i64 y.1) y.2] false 0])
theorem spec_l06Choices_den (v50 : Int) (v51 : Int) : (den TT (tabD spec_l06Choices_tab) (tabM spec_l06Choices_tab) (spec_l06Choices_LO v50 v51) (codeOf Try.f73) ([.int .i64 v50, .int .i64 v51] ++ List.replicate (Try.f73.ntmps - ([.int .i64 v50, .int .i64 v51] : List DV).length) .undef) []).bind (retD TT Try.f73.results.toList 0) = (spec_l06Choices_T v50 v51).bind fun y => .leaf (spec_l06Choices_enc v50 v51 y) := by kernel_rfl
theorem spec_l06Choices_fn (v50 : Int) (v51 : Int) (F : Fr) (h0 : St F [] F.H0) (hA : DVs.Ok F [] [.int .i64 v50, .int .i64 v51]) {y : (List (List Int)) × (List Nat)} (hy : spec_l06Choices_g v50 v51 = some y) : ∃ F' H', Fwd 0 F F' [] (spec_l06Choices_enc v50 v51 y).2 ∧ FnOk Try.prog 73 (DVs.av F [.int .i64 v50, .int .i64 v51]) F.H0 ((spec_l06Choices_enc v50 v51 y).1.av F') H' ∧ St F' (spec_l06Choices_enc v50 v51 y).2 H' ∧ (spec_l06Choices_enc v50 v51 y).1.Ok F' (spec_l06Choices_enc v50 v51 y).2 :=
  fn_fin tok spec_l06Choices_hO mixed Try.func73 Try.call73 (by kernel_rfl) (LoopsOk_eq (l := [(0, bodyOf Try.f73 0)]) (by kernel_rfl) ⟨spec_l06Choices_l0_ok v50 v51, trivial⟩) (spec_l06Choices_den v50 v51) hy h0 hA
noncomputable def spec_l06Choices_F : DFn := fun args L =>
  match args with
  | [.int .i64 v50, .int .i64 v51] =>
    .call (spec_l06Choices_g v50 v51) fun y => .leaf (.nest (L.length + 0) 0 1 ((y.2).length), L ++ [.nest [.sl (.i64 y.1) y.2] false 0])
  | _ => .fail
theorem spec_l06Choices_Fok : COk Try.prog 73 spec_l06Choices_F true := by
  intro F L H args r L' hs ha hr
  unfold spec_l06Choices_F at hr
  split at hr
  · rename_i v50 v51
    simp only [Tree.run] at hr
    obtain ⟨y, hy, hr⟩ := Option.bind_eq_some_iff.1 hr
    simp only [Tree.run, Option.some.injEq, Prod.mk.injEq] at hr
    obtain ⟨rfl, rfl⟩ := hr
    exact call_ok1 hs (fun k => (([] : List AV)[k]?).getD .top) [.int .i64 v50, .int .i64 v51] [.int .i64 v50, .int .i64 v51] (fun F' h0 hi hρ => ⟨by simp [DVs.av, DV.av, BR.av, hρ], spec_l06Choices_fn v50 v51 F' (st_nil hi) ⟨trivial, trivial, trivial⟩ hy⟩) rfl rfl
  · cases hr
/-! spec.l06At -/
noncomputable def spec_l06At_LO (v126 : Int) (v127 : Int) (v128 : List Int) (v129 : Int) (v130 : Int) : LOr := fun id e L =>
  match id with
  | _ => .fail
noncomputable def spec_l06At_tab : List (FuncId × DFn × Bool) := []
theorem spec_l06At_hO : OrcOk Try.prog (tabD spec_l06At_tab) (tabM spec_l06At_tab) := tabD_nil _
noncomputable def spec_l06At_T (v127 : Int) (v128 : List Int) (v129 : Int) (v130 : Int) : Tree (Int) :=
  (.grd (inb (IntKind.i64.wrap ((IntKind.i64.wrap (v129 * v127)) + v130)) v128.length) <|
  .leaf (nth v128 (Int.toNat (IntKind.i64.wrap ((IntKind.i64.wrap (v129 * v127)) + v130)))))

noncomputable def spec_l06At_g (v127 : Int) (v128 : List Int) (v129 : Int) (v130 : Int) : Option (Int) := (spec_l06At_T v127 v128 v129 v130).run
def spec_l06At_enc (v126 : Int) (v127 : Int) (v128 : List Int) (v129 : Int) (v130 : Int) (y : Int) : Rs := (.int .i64 y, [])
theorem spec_l06At_den (v126 : Int) (v127 : Int) (v128 : List Int) (v129 : Int) (v130 : Int) : (den TT (tabD spec_l06At_tab) (tabM spec_l06At_tab) (spec_l06At_LO v126 v127 v128 v129 v130) (codeOf Try.f124) ([.bptr (BR.root 0) [.int .i64 v126, .int .i64 v127, .bslc (BR.root 1) (.i64 v128)], .int .i64 v129, .int .i64 v130] ++ List.replicate (Try.f124.ntmps - ([.bptr (BR.root 0) [.int .i64 v126, .int .i64 v127, .bslc (BR.root 1) (.i64 v128)], .int .i64 v129, .int .i64 v130] : List DV).length) .undef) []).bind (retD TT Try.f124.results.toList 0) = (spec_l06At_T v127 v128 v129 v130).bind fun y => .leaf (spec_l06At_enc v126 v127 v128 v129 v130 y) := by kernel_rfl
theorem spec_l06At_fn (v126 : Int) (v127 : Int) (v128 : List Int) (v129 : Int) (v130 : Int) (F : Fr) (h0 : St F [] F.H0) (hA : DVs.Ok F [] [.bptr (BR.root 0) [.int .i64 v126, .int .i64 v127, .bslc (BR.root 1) (.i64 v128)], .int .i64 v129, .int .i64 v130]) {y : Int} (hy : spec_l06At_g v127 v128 v129 v130 = some y) : ∃ F' H', Fwd 0 F F' [] (spec_l06At_enc v126 v127 v128 v129 v130 y).2 ∧ FnOk Try.prog 124 (DVs.av F [.bptr (BR.root 0) [.int .i64 v126, .int .i64 v127, .bslc (BR.root 1) (.i64 v128)], .int .i64 v129, .int .i64 v130]) F.H0 ((spec_l06At_enc v126 v127 v128 v129 v130 y).1.av F') H' ∧ St F' (spec_l06At_enc v126 v127 v128 v129 v130 y).2 H' ∧ (spec_l06At_enc v126 v127 v128 v129 v130 y).1.Ok F' (spec_l06At_enc v126 v127 v128 v129 v130 y).2 :=
  fn_fin tok spec_l06At_hO mixed Try.func124 Try.call124 (by kernel_rfl) (LoopsOk_eq (l := []) (by kernel_rfl) trivial) (spec_l06At_den v126 v127 v128 v129 v130) hy h0 hA
noncomputable def spec_l06At_F : DFn := fun args L =>
  match args with
  | [a1, .int .i64 v129, .int .i64 v130] =>
    optT (cellsOf L 3 a1) fun cs0 =>
    (match cs0 with
    | [.int .i64 v126, .int .i64 v127, a2] =>
    optT (rowI64 L a2) fun v128 =>
    .call (spec_l06At_g v127 v128 v129 v130) fun y => .leaf (.int .i64 y, L)
    | _ => .fail)
  | _ => .fail
theorem spec_l06At_Fok : COk Try.prog 124 spec_l06At_F true := by
  intro F L H args r L' hs ha hr
  unfold spec_l06At_F at hr
  split at hr
  · rename_i a1 v129 v130
    obtain ⟨cs0, hcp0, hr⟩ := optT_run hr
    split at hr
    · rename_i v126 v127 a2
      obtain ⟨v128, hv128, hr⟩ := optT_run hr
      simp only [Tree.run] at hr
      obtain ⟨y, hy, hr⟩ := Option.bind_eq_some_iff.1 hr
      simp only [Tree.run, Option.some.injEq, Prod.mk.injEq] at hr
      obtain ⟨rfl, rfl⟩ := hr
      exact call_ok0 hs (fun k => (([a1.av F, a2.av F] : List AV)[k]?).getD .top) [a1, .int .i64 v129, .int .i64 v130] [.bptr (BR.root 0) [.int .i64 v126, .int .i64 v127, .bslc (BR.root 1) (.i64 v128)], .int .i64 v129, .int .i64 v130] (fun F' h0 hi hρ => ⟨by simp [DVs.av, DV.av, BR.av, hρ], spec_l06At_fn v126 v127 v128 v129 v130 F' (st_nil hi) ⟨bptr_ok hi (by rw [h0]; simpa [DVs.av, DV.av, BR.av, hρ] using (cellsOf_ok hs (DVs.okAt ha 0 rfl) hcp0).1) ⟨trivial, trivial, bslc_ok hi (by rw [h0, hρ]; exact rowI64_ok hs (DVs.okAt (cellsOf_ok hs (DVs.okAt ha 0 rfl) hcp0).2 2 rfl) hv128), trivial⟩, trivial, trivial, trivial⟩ hy⟩) rfl
    · cases hr
  · cases hr
/-! spec.l06Without -/
noncomputable def spec_l06Without_LO (v132 : List Int) (v133 : Int) : LOr := fun id e L =>
  match id with
  | _ => .fail
noncomputable def spec_l06Without_tab : List (FuncId × DFn × Bool) := []
theorem spec_l06Without_hO : OrcOk Try.prog (tabD spec_l06Without_tab) (tabM spec_l06Without_tab) := tabD_nil _
noncomputable def spec_l06Without_T (v132 : List Int) (v133 : Int) : Tree (Unit) :=
  (.grd (sok (0 : Int) v133 v132.length) <|
  (.grd (fits (([] : List Int) ++ (AM.sub v132 (0 : Int) v133)).length) <|
  (.grd (sok (IntKind.i64.wrap (v133 + (1 : Int))) ((v132.length : Nat) : Int) v132.length) <|
  (.grd (fits ((([] : List Int) ++ (AM.sub v132 (0 : Int) v133)) ++ (AM.sub v132 (IntKind.i64.wrap (v133 + (1 : Int))) ((v132.length : Nat) : Int))).length) <|
  .leaf ()))))

noncomputable def spec_l06Without_g (v132 : List Int) (v133 : Int) : Option (Unit) := (spec_l06Without_T v132 v133).run
def spec_l06Without_enc (v132 : List Int) (v133 : Int) (y : Unit) : Rs := (.own 0 0 (((([] : List Int) ++ (AM.sub v132 (0 : Int) v133)) ++ (AM.sub v132 (IntKind.i64.wrap (v133 + (1 : Int))) ((v132.length : Nat) : Int))).length), [.row (.i64 ((([] : List Int) ++ (AM.sub v132 (0 : Int) v133)) ++ (AM.sub v132 (IntKind.i64.wrap (v133 + (1 : Int))) ((v132.length : Nat) : Int)))) 0])
theorem spec_l06Without_den (v132 : List Int) (v133 : Int) : (den TT (tabD spec_l06Without_tab) (tabM spec_l06Without_tab) (spec_l06Without_LO v132 v133) (codeOf Try.f131) ([.bslc (BR.root 0) (.i64 v132), .int .i64 v133] ++ List.replicate (Try.f131.ntmps - ([.bslc (BR.root 0) (.i64 v132), .int .i64 v133] : List DV).length) .undef) []).bind (retD TT Try.f131.results.toList 0) = (spec_l06Without_T v132 v133).bind fun y => .leaf (spec_l06Without_enc v132 v133 y) := by kernel_rfl
theorem spec_l06Without_fn (v132 : List Int) (v133 : Int) (F : Fr) (h0 : St F [] F.H0) (hA : DVs.Ok F [] [.bslc (BR.root 0) (.i64 v132), .int .i64 v133]) {y : Unit} (hy : spec_l06Without_g v132 v133 = some y) : ∃ F' H', Fwd 0 F F' [] (spec_l06Without_enc v132 v133 y).2 ∧ FnOk Try.prog 131 (DVs.av F [.bslc (BR.root 0) (.i64 v132), .int .i64 v133]) F.H0 ((spec_l06Without_enc v132 v133 y).1.av F') H' ∧ St F' (spec_l06Without_enc v132 v133 y).2 H' ∧ (spec_l06Without_enc v132 v133 y).1.Ok F' (spec_l06Without_enc v132 v133 y).2 :=
  fn_fin tok spec_l06Without_hO mixed Try.func131 Try.call131 (by kernel_rfl) (LoopsOk_eq (l := []) (by kernel_rfl) trivial) (spec_l06Without_den v132 v133) hy h0 hA
noncomputable def spec_l06Without_F : DFn := fun args L =>
  match args with
  | [a1, .int .i64 v133] =>
    optT (rowI64 L a1) fun v132 =>
    .call (spec_l06Without_g v132 v133) fun y => .leaf (.own (L.length + 0) 0 (((([] : List Int) ++ (AM.sub v132 (0 : Int) v133)) ++ (AM.sub v132 (IntKind.i64.wrap (v133 + (1 : Int))) ((v132.length : Nat) : Int))).length), L ++ [.row (.i64 ((([] : List Int) ++ (AM.sub v132 (0 : Int) v133)) ++ (AM.sub v132 (IntKind.i64.wrap (v133 + (1 : Int))) ((v132.length : Nat) : Int)))) 0])
  | _ => .fail
theorem spec_l06Without_Fok : COk Try.prog 131 spec_l06Without_F true := by
  intro F L H args r L' hs ha hr
  unfold spec_l06Without_F at hr
  split at hr
  · rename_i a1 v133
    obtain ⟨v132, hv132, hr⟩ := optT_run hr
    simp only [Tree.run] at hr
    obtain ⟨y, hy, hr⟩ := Option.bind_eq_some_iff.1 hr
    simp only [Tree.run, Option.some.injEq, Prod.mk.injEq] at hr
    obtain ⟨rfl, rfl⟩ := hr
    exact call_ok1 hs (fun k => (([a1.av F] : List AV)[k]?).getD .top) [a1, .int .i64 v133] [.bslc (BR.root 0) (.i64 v132), .int .i64 v133] (fun F' h0 hi hρ => ⟨by simp [DVs.av, DV.av, BR.av, hρ], spec_l06Without_fn v132 v133 F' (st_nil hi) ⟨bslc_ok hi (by rw [h0, hρ]; exact rowI64_ok hs (DVs.okAt ha 0 rfl) hv132), trivial, trivial⟩ hy⟩) rfl rfl
  · cases hr
/-! spec.l06Minor -/
noncomputable def spec_l06Minor_i4_l0_T (v166 : Int) (v167 : List Int) (v168 : List Int) (v169 : List Int) (s : Int × Int) : Tree ((Int × Int) ⊕ (Unit)) :=
  (.br (decide (s.2 < ((v169.length : Nat) : Int))) (
   (.grd (inb (0 : Int) v168.length) <|
   (.grd (inb s.2 v169.length) <|
   (.call (spec_l06At_g v166 v167 (nth v168 (Int.toNat (0 : Int))) (nth v169 (Int.toNat s.2))) fun v181 =>
   (.br (!decide (v181 = (0 : Int))) (
    (.grd (sok (1 : Int) ((v168.length : Nat) : Int) v168.length) <|
    (.call (spec_l06Without_g v169 s.2) fun v182 =>
    .fail))
   ) (
    .leaf (.inl (IntKind.i64.wrap (0 - s.1), IntKind.i64.wrap (s.2 + (1 : Int))))
   )))))
  ) (
   .leaf (.inr ())
  ))

noncomputable def spec_l06Minor_i4_l0_g (v166 : Int) (v167 : List Int) (v168 : List Int) (v169 : List Int) (s0 : Int × Int) : Option (Unit) := whileM (fun s => (spec_l06Minor_i4_l0_T v166 v167 v168 v169 s).run) s0
def spec_l06Minor_i4_l0_E (v165 : Int) (v166 : Int) (v167 : List Int) (v168 : List Int) (v169 : List Int) (s : Int × Int) : Sd := ([.bptr (BR.root 0) [.int .i64 v165, .int .i64 v166, .bslc (BR.root 1) (.i64 v167)],.bslc (BR.root 2) (.i64 v168),.bslc (BR.root 3) (.i64 v169),tp,tp,tp,tp,.int .i64 (0 : Int),.int .i64 s.1,.int .i64 s.2,tp,tp,tp,tp,tp,tp,tp,tp,tp,tp,tp,tp,tp,tp,tp,tp,tp,tp,tp,tp,tp,tp,tp,tp,tp,tp,tp,tp,tp,tp,tp,tp,tp,tp,tp,tp,tp], [])
def spec_l06Minor_i4_l0_X (v165 : Int) (v166 : Int) (v167 : List Int) (v168 : List Int) (v169 : List Int) (x : Unit) : Out := (.normal, [tp,tp,tp,tp,tp,tp,tp,.int .i64 (0 : Int),tp,tp,tp,tp,tp,tp,tp,tp,tp,tp,tp,tp,tp,tp,tp,tp,tp,tp,tp,tp,tp,tp,tp,tp,tp,tp,tp,tp,tp,tp,tp,tp,tp,tp,tp,tp,tp,tp,tp], [])
def spec_l06Minor_i4_l0_kill : List Nat := KL true [0,3,4,3,37]
def spec_l06Minor_i4_l0_nx : Exit → List Nat
  | .exit 0 => KL true [7,1,39]
  | .ret => KL true [6,1,40]
  | _ => []
noncomputable def spec_l06Minor_i4_LO (v165 : Int) (v166 : Int) (v167 : List Int) (v168 : List Int) (v169 : List Int) : LOr := fun id e L =>
  match id with
  | 0 => .need (normA 0 spec_l06Minor_i4_l0_kill e L = some (spec_l06Minor_i4_l0_E v165 v166 v167 v168 v169 ((gI (vAt e 8)), (gI (vAt e 9))))) (.call (spec_l06Minor_i4_l0_g v166 v167 v168 v169 ((gI (vAt e 8)), (gI (vAt e 9)))) fun x => .leaf (spec_l06Minor_i4_l0_X v165 v166 v167 v168 v169 x))
  | _ => .fail
noncomputable def spec_l06Minor_i4_tab : List (FuncId × DFn × Bool) := [(124, spec_l06At_F, true), (131, spec_l06Without_F, true)]
theorem spec_l06Minor_i4_hO : OrcOk Try.prog (tabD spec_l06Minor_i4_tab) (tabM spec_l06Minor_i4_tab) := tabD_cons spec_l06At_Fok (tabD_cons spec_l06Without_Fok (tabD_nil _))
theorem spec_l06Minor_i4_l0_be (v165 : Int) (v166 : Int) (v167 : List Int) (v168 : List Int) (v169 : List Int) (s : Int × Int) : bodyT TT (tabD spec_l06Minor_i4_tab) (tabM spec_l06Minor_i4_tab) (spec_l06Minor_i4_LO v165 v166 v167 v168 v169) 0 spec_l06Minor_i4_l0_kill spec_l06Minor_i4_l0_nx (bodyOf Try.f75 0) 0 (spec_l06Minor_i4_l0_E v165 v166 v167 v168 v169 s) = (spec_l06Minor_i4_l0_T v166 v167 v168 v169 s).bind fun y => .leaf (outS (spec_l06Minor_i4_l0_E v165 v166 v167 v168 v169) (spec_l06Minor_i4_l0_X v165 v166 v167 v168 v169) y) := by kernel_rfl
theorem spec_l06Minor_i4_l0_ok (v165 : Int) (v166 : Int) (v167 : List Int) (v168 : List Int) (v169 : List Int) : LSound Try.prog 0 (spec_l06Minor_i4_LO v165 v166 v167 v168 v169) 0 (bodyOf Try.f75 0) := by
  intro e L out h
  exact lo_ok (E := spec_l06Minor_i4_l0_E v165 v166 v167 v168 v169) (gT := spec_l06Minor_i4_l0_T v166 v167 v168 v169) (X := spec_l06Minor_i4_l0_X v165 v166 v167 v168 v169) (s0 := ((gI (vAt e 8)), (gI (vAt e 9)))) tok spec_l06Minor_i4_hO mixed (LoopsOk_eq (l := []) (by kernel_rfl) trivial) (spec_l06Minor_i4_l0_be v165 v166 v167 v168 v169) rfl (by intro x; rfl) h
noncomputable def spec_l06Minor_i4_T (v165 : Int) (v166 : Int) (v167 : List Int) (v168 : List Int) (v169 : List Int) : Tree (Int) :=
  (.br (decide (((v168.length : Nat) : Int) = (0 : Int))) (
   .leaf (1 : Int)
  ) (
   (.need (some (spec_l06Minor_i4_l0_E v165 v166 v167 v168 v169 ((1 : Int), (0 : Int))) = some (spec_l06Minor_i4_l0_E v165 v166 v167 v168 v169 ((1 : Int), (0 : Int)))) <|
   (.call (spec_l06Minor_i4_l0_g v166 v167 v168 v169 ((1 : Int), (0 : Int))) fun v183 =>
   .leaf (0 : Int)))
  ))

noncomputable def spec_l06Minor_i4_g (v165 : Int) (v166 : Int) (v167 : List Int) (v168 : List Int) (v169 : List Int) : Option (Int) := (spec_l06Minor_i4_T v165 v166 v167 v168 v169).run
def spec_l06Minor_i4_enc (v165 : Int) (v166 : Int) (v167 : List Int) (v168 : List Int) (v169 : List Int) (y : Int) : Rs := (.int .i64 y, [])
theorem spec_l06Minor_i4_den (v165 : Int) (v166 : Int) (v167 : List Int) (v168 : List Int) (v169 : List Int) : (den TT (tabD spec_l06Minor_i4_tab) (tabM spec_l06Minor_i4_tab) (spec_l06Minor_i4_LO v165 v166 v167 v168 v169) (codeOf Try.f75) ([.bptr (BR.root 0) [.int .i64 v165, .int .i64 v166, .bslc (BR.root 1) (.i64 v167)], .bslc (BR.root 2) (.i64 v168), .bslc (BR.root 3) (.i64 v169)] ++ List.replicate (Try.f75.ntmps - ([.bptr (BR.root 0) [.int .i64 v165, .int .i64 v166, .bslc (BR.root 1) (.i64 v167)], .bslc (BR.root 2) (.i64 v168), .bslc (BR.root 3) (.i64 v169)] : List DV).length) .undef) []).bind (retD TT Try.f75.results.toList 0) = (spec_l06Minor_i4_T v165 v166 v167 v168 v169).bind fun y => .leaf (spec_l06Minor_i4_enc v165 v166 v167 v168 v169 y) := by kernel_rfl
theorem spec_l06Minor_i4_fn (v165 : Int) (v166 : Int) (v167 : List Int) (v168 : List Int) (v169 : List Int) (F : Fr) (h0 : St F [] F.H0) (hA : DVs.Ok F [] [.bptr (BR.root 0) [.int .i64 v165, .int .i64 v166, .bslc (BR.root 1) (.i64 v167)], .bslc (BR.root 2) (.i64 v168), .bslc (BR.root 3) (.i64 v169)]) {y : Int} (hy : spec_l06Minor_i4_g v165 v166 v167 v168 v169 = some y) : ∃ F' H', Fwd 0 F F' [] (spec_l06Minor_i4_enc v165 v166 v167 v168 v169 y).2 ∧ FnOk Try.prog 75 (DVs.av F [.bptr (BR.root 0) [.int .i64 v165, .int .i64 v166, .bslc (BR.root 1) (.i64 v167)], .bslc (BR.root 2) (.i64 v168), .bslc (BR.root 3) (.i64 v169)]) F.H0 ((spec_l06Minor_i4_enc v165 v166 v167 v168 v169 y).1.av F') H' ∧ St F' (spec_l06Minor_i4_enc v165 v166 v167 v168 v169 y).2 H' ∧ (spec_l06Minor_i4_enc v165 v166 v167 v168 v169 y).1.Ok F' (spec_l06Minor_i4_enc v165 v166 v167 v168 v169 y).2 :=
  fn_fin tok spec_l06Minor_i4_hO mixed Try.func75 Try.call75 (by kernel_rfl) (LoopsOk_eq (l := [(0, bodyOf Try.f75 0)]) (by kernel_rfl) ⟨spec_l06Minor_i4_l0_ok v165 v166 v167 v168 v169, trivial⟩) (spec_l06Minor_i4_den v165 v166 v167 v168 v169) hy h0 hA
noncomputable def spec_l06Minor_i4_F : DFn := fun args L =>
  match args with
  | [a1, a3, a4] =>
    optT (cellsOf L 3 a1) fun cs0 =>
    (match cs0 with
    | [.int .i64 v165, .int .i64 v166, a2] =>
    optT (rowI64 L a2) fun v167 =>
    optT (rowI64 L a3) fun v168 =>
    optT (rowI64 L a4) fun v169 =>
    .call (spec_l06Minor_i4_g v165 v166 v167 v168 v169) fun y => .leaf (.int .i64 y, L)
    | _ => .fail)
  | _ => .fail
theorem spec_l06Minor_i4_Fok : COk Try.prog 75 spec_l06Minor_i4_F true := by
  intro F L H args r L' hs ha hr
  unfold spec_l06Minor_i4_F at hr
  split at hr
  · rename_i a1 a3 a4
    obtain ⟨cs0, hcp0, hr⟩ := optT_run hr
    split at hr
    · rename_i v165 v166 a2
      obtain ⟨v167, hv167, hr⟩ := optT_run hr
      obtain ⟨v168, hv168, hr⟩ := optT_run hr
      obtain ⟨v169, hv169, hr⟩ := optT_run hr
      simp only [Tree.run] at hr
      obtain ⟨y, hy, hr⟩ := Option.bind_eq_some_iff.1 hr
      simp only [Tree.run, Option.some.injEq, Prod.mk.injEq] at hr
      obtain ⟨rfl, rfl⟩ := hr
      exact call_ok0 hs (fun k => (([a1.av F, a2.av F, a3.av F, a4.av F] : List AV)[k]?).getD .top) [a1, a3, a4] [.bptr (BR.root 0) [.int .i64 v165, .int .i64 v166, .bslc (BR.root 1) (.i64 v167)], .bslc (BR.root 2) (.i64 v168), .bslc (BR.root 3) (.i64 v169)] (fun F' h0 hi hρ => ⟨by simp [DVs.av, DV.av, BR.av, hρ], spec_l06Minor_i4_fn v165 v166 v167 v168 v169 F' (st_nil hi) ⟨bptr_ok hi (by rw [h0]; simpa [DVs.av, DV.av, BR.av, hρ] using (cellsOf_ok hs (DVs.okAt ha 0 rfl) hcp0).1) ⟨trivial, trivial, bslc_ok hi (by rw [h0, hρ]; exact rowI64_ok hs (DVs.okAt (cellsOf_ok hs (DVs.okAt ha 0 rfl) hcp0).2 2 rfl) hv167), trivial⟩, bslc_ok hi (by rw [h0, hρ]; exact rowI64_ok hs (DVs.okAt ha 1 rfl) hv168), bslc_ok hi (by rw [h0, hρ]; exact rowI64_ok hs (DVs.okAt ha 2 rfl) hv169), trivial⟩ hy⟩) rfl
    · cases hr
  · cases hr
/-! spec.l06Minor -/
noncomputable def spec_l06Minor_i3_l0_T (v155 : Int) (v156 : Int) (v157 : List Int) (v158 : List Int) (v159 : List Int) (s : Int × Int × Int) : Tree ((Int × Int × Int) ⊕ (Int)) :=
  (.br (decide (s.2.2 < ((v159.length : Nat) : Int))) (
   (.grd (inb (0 : Int) v158.length) <|
   (.grd (inb s.2.2 v159.length) <|
   (.call (spec_l06At_g v156 v157 (nth v158 (Int.toNat (0 : Int))) (nth v159 (Int.toNat s.2.2))) fun v194 =>
   (.br (!decide (v194 = (0 : Int))) (
    (.grd (sok (1 : Int) ((v158.length : Nat) : Int) v158.length) <|
    (.call (spec_l06Without_g v159 s.2.2) fun v195 =>
    (.call (spec_l06Minor_i4_g v155 v156 v157 (AM.sub v158 (1 : Int) ((v158.length : Nat) : Int)) ((([] : List Int) ++ (AM.sub v159 (0 : Int) s.2.2)) ++ (AM.sub v159 (IntKind.i64.wrap (s.2.2 + (1 : Int))) ((v159.length : Nat) : Int)))) fun v196 =>
    .leaf (.inl (IntKind.i64.wrap (s.1 + (IntKind.i64.wrap ((IntKind.i64.wrap (s.2.1 * v194)) * v196))), IntKind.i64.wrap (0 - s.2.1), IntKind.i64.wrap (s.2.2 + (1 : Int)))))))
   ) (
    .leaf (.inl (s.1, IntKind.i64.wrap (0 - s.2.1), IntKind.i64.wrap (s.2.2 + (1 : Int))))
   )))))
  ) (
   .leaf (.inr s.1)
  ))

noncomputable def spec_l06Minor_i3_l0_g (v155 : Int) (v156 : Int) (v157 : List Int) (v158 : List Int) (v159 : List Int) (s0 : Int × Int × Int) : Option (Int) := whileM (fun s => (spec_l06Minor_i3_l0_T v155 v156 v157 v158 v159 s).run) s0
def spec_l06Minor_i3_l0_E (v155 : Int) (v156 : Int) (v157 : List Int) (v158 : List Int) (v159 : List Int) (s : Int × Int × Int) : Sd := ([.bptr (BR.root 0) [.int .i64 v155, .int .i64 v156, .bslc (BR.root 1) (.i64 v157)],.bslc (BR.root 2) (.i64 v158),.bslc (BR.root 3) (.i64 v159),tp,tp,tp,tp,.int .i64 s.1,.int .i64 s.2.1,.int .i64 s.2.2,tp,tp,tp,tp,tp,tp,tp,tp,tp,tp,tp,tp,tp,tp,tp,tp,tp,tp,tp,tp,tp,tp,tp,tp,tp,tp,tp,tp,tp,tp,tp,tp,tp,tp,tp,tp,tp], [])
def spec_l06Minor_i3_l0_X (v155 : Int) (v156 : Int) (v157 : List Int) (v158 : List Int) (v159 : List Int) (x : Int) : Out := (.normal, [tp,tp,tp,tp,tp,tp,tp,.int .i64 x,tp,tp,tp,tp,tp,tp,tp,tp,tp,tp,tp,tp,tp,tp,tp,tp,tp,tp,tp,tp,tp,tp,tp,tp,tp,tp,tp,tp,tp,tp,tp,tp,tp,tp,tp,tp,tp,tp,tp], [])
def spec_l06Minor_i3_l0_kill : List Nat := KL true [0,3,4,3,37]
def spec_l06Minor_i3_l0_nx : Exit → List Nat
  | .exit 0 => KL true [7,1,39]
  | .ret => KL true [6,1,40]
  | _ => []
noncomputable def spec_l06Minor_i3_LO (v155 : Int) (v156 : Int) (v157 : List Int) (v158 : List Int) (v159 : List Int) : LOr := fun id e L =>
  match id with
  | 0 => .need (normA 0 spec_l06Minor_i3_l0_kill e L = some (spec_l06Minor_i3_l0_E v155 v156 v157 v158 v159 ((gI (vAt e 7)), (gI (vAt e 8)), (gI (vAt e 9))))) (.call (spec_l06Minor_i3_l0_g v155 v156 v157 v158 v159 ((gI (vAt e 7)), (gI (vAt e 8)), (gI (vAt e 9)))) fun x => .leaf (spec_l06Minor_i3_l0_X v155 v156 v157 v158 v159 x))
  | _ => .fail
noncomputable def spec_l06Minor_i3_tab : List (FuncId × DFn × Bool) := [(124, spec_l06At_F, true), (131, spec_l06Without_F, true), (75, spec_l06Minor_i4_F, true)]
theorem spec_l06Minor_i3_hO : OrcOk Try.prog (tabD spec_l06Minor_i3_tab) (tabM spec_l06Minor_i3_tab) := tabD_cons spec_l06At_Fok (tabD_cons spec_l06Without_Fok (tabD_cons spec_l06Minor_i4_Fok (tabD_nil _)))
theorem spec_l06Minor_i3_l0_be (v155 : Int) (v156 : Int) (v157 : List Int) (v158 : List Int) (v159 : List Int) (s : Int × Int × Int) : bodyT TT (tabD spec_l06Minor_i3_tab) (tabM spec_l06Minor_i3_tab) (spec_l06Minor_i3_LO v155 v156 v157 v158 v159) 0 spec_l06Minor_i3_l0_kill spec_l06Minor_i3_l0_nx (bodyOf Try.f75 0) 0 (spec_l06Minor_i3_l0_E v155 v156 v157 v158 v159 s) = (spec_l06Minor_i3_l0_T v155 v156 v157 v158 v159 s).bind fun y => .leaf (outS (spec_l06Minor_i3_l0_E v155 v156 v157 v158 v159) (spec_l06Minor_i3_l0_X v155 v156 v157 v158 v159) y) := by kernel_rfl
theorem spec_l06Minor_i3_l0_ok (v155 : Int) (v156 : Int) (v157 : List Int) (v158 : List Int) (v159 : List Int) : LSound Try.prog 0 (spec_l06Minor_i3_LO v155 v156 v157 v158 v159) 0 (bodyOf Try.f75 0) := by
  intro e L out h
  exact lo_ok (E := spec_l06Minor_i3_l0_E v155 v156 v157 v158 v159) (gT := spec_l06Minor_i3_l0_T v155 v156 v157 v158 v159) (X := spec_l06Minor_i3_l0_X v155 v156 v157 v158 v159) (s0 := ((gI (vAt e 7)), (gI (vAt e 8)), (gI (vAt e 9)))) tok spec_l06Minor_i3_hO mixed (LoopsOk_eq (l := []) (by kernel_rfl) trivial) (spec_l06Minor_i3_l0_be v155 v156 v157 v158 v159) rfl (by intro x; rfl) h
noncomputable def spec_l06Minor_i3_T (v155 : Int) (v156 : Int) (v157 : List Int) (v158 : List Int) (v159 : List Int) : Tree (Int) :=
  (.br (decide (((v158.length : Nat) : Int) = (0 : Int))) (
   .leaf (1 : Int)
  ) (
   (.need (some (spec_l06Minor_i3_l0_E v155 v156 v157 v158 v159 ((0 : Int), (1 : Int), (0 : Int))) = some (spec_l06Minor_i3_l0_E v155 v156 v157 v158 v159 ((0 : Int), (1 : Int), (0 : Int)))) <|
   (.call (spec_l06Minor_i3_l0_g v155 v156 v157 v158 v159 ((0 : Int), (1 : Int), (0 : Int))) fun v197 =>
   .leaf v197))
  ))

noncomputable def spec_l06Minor_i3_g (v155 : Int) (v156 : Int) (v157 : List Int) (v158 : List Int) (v159 : List Int) : Option (Int) := (spec_l06Minor_i3_T v155 v156 v157 v158 v159).run
def spec_l06Minor_i3_enc (v155 : Int) (v156 : Int) (v157 : List Int) (v158 : List Int) (v159 : List Int) (y : Int) : Rs := (.int .i64 y, [])
theorem spec_l06Minor_i3_den (v155 : Int) (v156 : Int) (v157 : List Int) (v158 : List Int) (v159 : List Int) : (den TT (tabD spec_l06Minor_i3_tab) (tabM spec_l06Minor_i3_tab) (spec_l06Minor_i3_LO v155 v156 v157 v158 v159) (codeOf Try.f75) ([.bptr (BR.root 0) [.int .i64 v155, .int .i64 v156, .bslc (BR.root 1) (.i64 v157)], .bslc (BR.root 2) (.i64 v158), .bslc (BR.root 3) (.i64 v159)] ++ List.replicate (Try.f75.ntmps - ([.bptr (BR.root 0) [.int .i64 v155, .int .i64 v156, .bslc (BR.root 1) (.i64 v157)], .bslc (BR.root 2) (.i64 v158), .bslc (BR.root 3) (.i64 v159)] : List DV).length) .undef) []).bind (retD TT Try.f75.results.toList 0) = (spec_l06Minor_i3_T v155 v156 v157 v158 v159).bind fun y => .leaf (spec_l06Minor_i3_enc v155 v156 v157 v158 v159 y) := by kernel_rfl
theorem spec_l06Minor_i3_fn (v155 : Int) (v156 : Int) (v157 : List Int) (v158 : List Int) (v159 : List Int) (F : Fr) (h0 : St F [] F.H0) (hA : DVs.Ok F [] [.bptr (BR.root 0) [.int .i64 v155, .int .i64 v156, .bslc (BR.root 1) (.i64 v157)], .bslc (BR.root 2) (.i64 v158), .bslc (BR.root 3) (.i64 v159)]) {y : Int} (hy : spec_l06Minor_i3_g v155 v156 v157 v158 v159 = some y) : ∃ F' H', Fwd 0 F F' [] (spec_l06Minor_i3_enc v155 v156 v157 v158 v159 y).2 ∧ FnOk Try.prog 75 (DVs.av F [.bptr (BR.root 0) [.int .i64 v155, .int .i64 v156, .bslc (BR.root 1) (.i64 v157)], .bslc (BR.root 2) (.i64 v158), .bslc (BR.root 3) (.i64 v159)]) F.H0 ((spec_l06Minor_i3_enc v155 v156 v157 v158 v159 y).1.av F') H' ∧ St F' (spec_l06Minor_i3_enc v155 v156 v157 v158 v159 y).2 H' ∧ (spec_l06Minor_i3_enc v155 v156 v157 v158 v159 y).1.Ok F' (spec_l06Minor_i3_enc v155 v156 v157 v158 v159 y).2 :=
  fn_fin tok spec_l06Minor_i3_hO mixed Try.func75 Try.call75 (by kernel_rfl) (LoopsOk_eq (l := [(0, bodyOf Try.f75 0)]) (by kernel_rfl) ⟨spec_l06Minor_i3_l0_ok v155 v156 v157 v158 v159, trivial⟩) (spec_l06Minor_i3_den v155 v156 v157 v158 v159) hy h0 hA
noncomputable def spec_l06Minor_i3_F : DFn := fun args L =>
  match args with
  | [a1, a3, a4] =>
    optT (cellsOf L 3 a1) fun cs0 =>
    (match cs0 with
    | [.int .i64 v155, .int .i64 v156, a2] =>
    optT (rowI64 L a2) fun v157 =>
    optT (rowI64 L a3) fun v158 =>
    optT (rowI64 L a4) fun v159 =>
    .call (spec_l06Minor_i3_g v155 v156 v157 v158 v159) fun y => .leaf (.int .i64 y, L)
    | _ => .fail)
  | _ => .fail
theorem spec_l06Minor_i3_Fok : COk Try.prog 75 spec_l06Minor_i3_F true := by
  intro F L H args r L' hs ha hr
  unfold spec_l06Minor_i3_F at hr
  split at hr
  · rename_i a1 a3 a4
    obtain ⟨cs0, hcp0, hr⟩ := optT_run hr
    split at hr
    · rename_i v155 v156 a2
      obtain ⟨v157, hv157, hr⟩ := optT_run hr
      obtain ⟨v158, hv158, hr⟩ := optT_run hr
      obtain ⟨v159, hv159, hr⟩ := optT_run hr
      simp only [Tree.run] at hr
      obtain ⟨y, hy, hr⟩ := Option.bind_eq_some_iff.1 hr
      simp only [Tree.run, Option.some.injEq, Prod.mk.injEq] at hr
      obtain ⟨rfl, rfl⟩ := hr
      exact call_ok0 hs (fun k => (([a1.av F, a2.av F, a3.av F, a4.av F] : List AV)[k]?).getD .top) [a1, a3, a4] [.bptr (BR.root 0) [.int .i64 v155, .int .i64 v156, .bslc (BR.root 1) (.i64 v157)], .bslc (BR.root 2) (.i64 v158), .bslc (BR.root 3) (.i64 v159)] (fun F' h0 hi hρ => ⟨by simp [DVs.av, DV.av, BR.av, hρ], spec_l06Minor_i3_fn v155 v156 v157 v158 v159 F' (st_nil hi) ⟨bptr_ok hi (by rw [h0]; simpa [DVs.av, DV.av, BR.av, hρ] using (cellsOf_ok hs (DVs.okAt ha 0 rfl) hcp0).1) ⟨trivial, trivial, bslc_ok hi (by rw [h0, hρ]; exact rowI64_ok hs (DVs.okAt (cellsOf_ok hs (DVs.okAt ha 0 rfl) hcp0).2 2 rfl) hv157), trivial⟩, bslc_ok hi (by rw [h0, hρ]; exact rowI64_ok hs (DVs.okAt ha 1 rfl) hv158), bslc_ok hi (by rw [h0, hρ]; exact rowI64_ok hs (DVs.okAt ha 2 rfl) hv159), trivial⟩ hy⟩) rfl
    · cases hr
  · cases hr
/-! spec.l06Minor -/
noncomputable def spec_l06Minor_i2_l0_T (v145 : Int) (v146 : Int) (v147 : List Int) (v148 : List Int) (v149 : List Int) (s : Int × Int × Int) : Tree ((Int × Int × Int) ⊕ (Int)) :=
  (.br (decide (s.2.2 < ((v149.length : Nat) : Int))) (
   (.grd (inb (0 : Int) v148.length) <|
   (.grd (inb s.2.2 v149.length) <|
   (.call (spec_l06At_g v146 v147 (nth v148 (Int.toNat (0 : Int))) (nth v149 (Int.toNat s.2.2))) fun v208 =>
   (.br (!decide (v208 = (0 : Int))) (
    (.grd (sok (1 : Int) ((v148.length : Nat) : Int) v148.length) <|
    (.call (spec_l06Without_g v149 s.2.2) fun v209 =>
    (.call (spec_l06Minor_i3_g v145 v146 v147 (AM.sub v148 (1 : Int) ((v148.length : Nat) : Int)) ((([] : List Int) ++ (AM.sub v149 (0 : Int) s.2.2)) ++ (AM.sub v149 (IntKind.i64.wrap (s.2.2 + (1 : Int))) ((v149.length : Nat) : Int)))) fun v210 =>
    .leaf (.inl (IntKind.i64.wrap (s.1 + (IntKind.i64.wrap ((IntKind.i64.wrap (s.2.1 * v208)) * v210))), IntKind.i64.wrap (0 - s.2.1), IntKind.i64.wrap (s.2.2 + (1 : Int)))))))
   ) (
    .leaf (.inl (s.1, IntKind.i64.wrap (0 - s.2.1), IntKind.i64.wrap (s.2.2 + (1 : Int))))
   )))))
  ) (
   .leaf (.inr s.1)
  ))

noncomputable def spec_l06Minor_i2_l0_g (v145 : Int) (v146 : Int) (v147 : List Int) (v148 : List Int) (v149 : List Int) (s0 : Int × Int × Int) : Option (Int) := whileM (fun s => (spec_l06Minor_i2_l0_T v145 v146 v147 v148 v149 s).run) s0
def spec_l06Minor_i2_l0_E (v145 : Int) (v146 : Int) (v147 : List Int) (v148 : List Int) (v149 : List Int) (s : Int × Int × Int) : Sd := ([.bptr (BR.root 0) [.int .i64 v145, .int .i64 v146, .bslc (BR.root 1) (.i64 v147)],.bslc (BR.root 2) (.i64 v148),.bslc (BR.root 3) (.i64 v149),tp,tp,tp,tp,.int .i64 s.1,.int .i64 s.2.1,.int .i64 s.2.2,tp,tp,tp,tp,tp,tp,tp,tp,tp,tp,tp,tp,tp,tp,tp,tp,tp,tp,tp,tp,tp,tp,tp,tp,tp,tp,tp,tp,tp,tp,tp,tp,tp,tp,tp,tp,tp], [])
def spec_l06Minor_i2_l0_X (v145 : Int) (v146 : Int) (v147 : List Int) (v148 : List Int) (v149 : List Int) (x : Int) : Out := (.normal, [tp,tp,tp,tp,tp,tp,tp,.int .i64 x,tp,tp,tp,tp,tp,tp,tp,tp,tp,tp,tp,tp,tp,tp,tp,tp,tp,tp,tp,tp,tp,tp,tp,tp,tp,tp,tp,tp,tp,tp,tp,tp,tp,tp,tp,tp,tp,tp,tp], [])
def spec_l06Minor_i2_l0_kill : List Nat := KL true [0,3,4,3,37]
def spec_l06Minor_i2_l0_nx : Exit → List Nat
  | .exit 0 => KL true [7,1,39]
  | .ret => KL true [6,1,40]
  | _ => []
noncomputable def spec_l06Minor_i2_LO (v145 : Int) (v146 : Int) (v147 : List Int) (v148 : List Int) (v149 : List Int) : LOr := fun id e L =>
  match id with
  | 0 => .need (normA 0 spec_l06Minor_i2_l0_kill e L = some (spec_l06Minor_i2_l0_E v145 v146 v147 v148 v149 ((gI (vAt e 7)), (gI (vAt e 8)), (gI (vAt e 9))))) (.call (spec_l06Minor_i2_l0_g v145 v146 v147 v148 v149 ((gI (vAt e 7)), (gI (vAt e 8)), (gI (vAt e 9)))) fun x => .leaf (spec_l06Minor_i2_l0_X v145 v146 v147 v148 v149 x))
  | _ => .fail
noncomputable def spec_l06Minor_i2_tab : List (FuncId × DFn × Bool) := [(124, spec_l06At_F, true), (131, spec_l06Without_F, true), (75, spec_l06Minor_i3_F, true)]
theorem spec_l06Minor_i2_hO : OrcOk Try.prog (tabD spec_l06Minor_i2_tab) (tabM spec_l06Minor_i2_tab) := tabD_cons spec_l06At_Fok (tabD_cons spec_l06Without_Fok (tabD_cons spec_l06Minor_i3_Fok (tabD_nil _)))
theorem spec_l06Minor_i2_l0_be (v145 : Int) (v146 : Int) (v147 : List Int) (v148 : List Int) (v149 : List Int) (s : Int × Int × Int) : bodyT TT (tabD spec_l06Minor_i2_tab) (tabM spec_l06Minor_i2_tab) (spec_l06Minor_i2_LO v145 v146 v147 v148 v149) 0 spec_l06Minor_i2_l0_kill spec_l06Minor_i2_l0_nx (bodyOf Try.f75 0) 0 (spec_l06Minor_i2_l0_E v145 v146 v147 v148 v149 s) = (spec_l06Minor_i2_l0_T v145 v146 v147 v148 v149 s).bind fun y => .leaf (outS (spec_l06Minor_i2_l0_E v145 v146 v147 v148 v149) (spec_l06Minor_i2_l0_X v145 v146 v147 v148 v149) y) := by kernel_rfl
theorem spec_l06Minor_i2_l0_ok (v145 : Int) (v146 : Int) (v147 : List Int) (v148 : List Int) (v149 : List Int) : LSound Try.prog 0 (spec_l06Minor_i2_LO v145 v146 v147 v148 v149) 0 (bodyOf Try.f75 0) := by
  intro e L out h
  exact lo_ok (E := spec_l06Minor_i2_l0_E v145 v146 v147 v148 v149) (gT := spec_l06Minor_i2_l0_T v145 v146 v147 v148 v149) (X := spec_l06Minor_i2_l0_X v145 v146 v147 v148 v149) (s0 := ((gI (vAt e 7)), (gI (vAt e 8)), (gI (vAt e 9)))) tok spec_l06Minor_i2_hO mixed (LoopsOk_eq (l := []) (by kernel_rfl) trivial) (spec_l06Minor_i2_l0_be v145 v146 v147 v148 v149) rfl (by intro x; rfl) h
noncomputable def spec_l06Minor_i2_T (v145 : Int) (v146 : Int) (v147 : List Int) (v148 : List Int) (v149 : List Int) : Tree (Int) :=
  (.br (decide (((v148.length : Nat) : Int) = (0 : Int))) (
   .leaf (1 : Int)
  ) (
   (.need (some (spec_l06Minor_i2_l0_E v145 v146 v147 v148 v149 ((0 : Int), (1 : Int), (0 : Int))) = some (spec_l06Minor_i2_l0_E v145 v146 v147 v148 v149 ((0 : Int), (1 : Int), (0 : Int)))) <|
   (.call (spec_l06Minor_i2_l0_g v145 v146 v147 v148 v149 ((0 : Int), (1 : Int), (0 : Int))) fun v211 =>
   .leaf v211))
  ))

noncomputable def spec_l06Minor_i2_g (v145 : Int) (v146 : Int) (v147 : List Int) (v148 : List Int) (v149 : List Int) : Option (Int) := (spec_l06Minor_i2_T v145 v146 v147 v148 v149).run
def spec_l06Minor_i2_enc (v145 : Int) (v146 : Int) (v147 : List Int) (v148 : List Int) (v149 : List Int) (y : Int) : Rs := (.int .i64 y, [])
theorem spec_l06Minor_i2_den (v145 : Int) (v146 : Int) (v147 : List Int) (v148 : List Int) (v149 : List Int) : (den TT (tabD spec_l06Minor_i2_tab) (tabM spec_l06Minor_i2_tab) (spec_l06Minor_i2_LO v145 v146 v147 v148 v149) (codeOf Try.f75) ([.bptr (BR.root 0) [.int .i64 v145, .int .i64 v146, .bslc (BR.root 1) (.i64 v147)], .bslc (BR.root 2) (.i64 v148), .bslc (BR.root 3) (.i64 v149)] ++ List.replicate (Try.f75.ntmps - ([.bptr (BR.root 0) [.int .i64 v145, .int .i64 v146, .bslc (BR.root 1) (.i64 v147)], .bslc (BR.root 2) (.i64 v148), .bslc (BR.root 3) (.i64 v149)] : List DV).length) .undef) []).bind (retD TT Try.f75.results.toList 0) = (spec_l06Minor_i2_T v145 v146 v147 v148 v149).bind fun y => .leaf (spec_l06Minor_i2_enc v145 v146 v147 v148 v149 y) := by kernel_rfl
theorem spec_l06Minor_i2_fn (v145 : Int) (v146 : Int) (v147 : List Int) (v148 : List Int) (v149 : List Int) (F : Fr) (h0 : St F [] F.H0) (hA : DVs.Ok F [] [.bptr (BR.root 0) [.int .i64 v145, .int .i64 v146, .bslc (BR.root 1) (.i64 v147)], .bslc (BR.root 2) (.i64 v148), .bslc (BR.root 3) (.i64 v149)]) {y : Int} (hy : spec_l06Minor_i2_g v145 v146 v147 v148 v149 = some y) : ∃ F' H', Fwd 0 F F' [] (spec_l06Minor_i2_enc v145 v146 v147 v148 v149 y).2 ∧ FnOk Try.prog 75 (DVs.av F [.bptr (BR.root 0) [.int .i64 v145, .int .i64 v146, .bslc (BR.root 1) (.i64 v147)], .bslc (BR.root 2) (.i64 v148), .bslc (BR.root 3) (.i64 v149)]) F.H0 ((spec_l06Minor_i2_enc v145 v146 v147 v148 v149 y).1.av F') H' ∧ St F' (spec_l06Minor_i2_enc v145 v146 v147 v148 v149 y).2 H' ∧ (spec_l06Minor_i2_enc v145 v146 v147 v148 v149 y).1.Ok F' (spec_l06Minor_i2_enc v145 v146 v147 v148 v149 y).2 :=
  fn_fin tok spec_l06Minor_i2_hO mixed Try.func75 Try.call75 (by kernel_rfl) (LoopsOk_eq (l := [(0, bodyOf Try.f75 0)]) (by kernel_rfl) ⟨spec_l06Minor_i2_l0_ok v145 v146 v147 v148 v149, trivial⟩) (spec_l06Minor_i2_den v145 v146 v147 v148 v149) hy h0 hA
noncomputable def spec_l06Minor_i2_F : DFn := fun args L =>
  match args with
  | [a1, a3, a4] =>
    optT (cellsOf L 3 a1) fun cs0 =>
    (match cs0 with
    | [.int .i64 v145, .int .i64 v146, a2] =>
    optT (rowI64 L a2) fun v147 =>
    optT (rowI64 L a3) fun v148 =>
    optT (rowI64 L a4) fun v149 =>
    .call (spec_l06Minor_i2_g v145 v146 v147 v148 v149) fun y => .leaf (.int .i64 y, L)
    | _ => .fail)
  | _ => .fail
theorem spec_l06Minor_i2_Fok : COk Try.prog 75 spec_l06Minor_i2_F true := by
  intro F L H args r L' hs ha hr
  unfold spec_l06Minor_i2_F at hr
  split at hr
  · rename_i a1 a3 a4
    obtain ⟨cs0, hcp0, hr⟩ := optT_run hr
    split at hr
    · rename_i v145 v146 a2
      obtain ⟨v147, hv147, hr⟩ := optT_run hr
      obtain ⟨v148, hv148, hr⟩ := optT_run hr
      obtain ⟨v149, hv149, hr⟩ := optT_run hr
      simp only [Tree.run] at hr
      obtain ⟨y, hy, hr⟩ := Option.bind_eq_some_iff.1 hr
      simp only [Tree.run, Option.some.injEq, Prod.mk.injEq] at hr
      obtain ⟨rfl, rfl⟩ := hr
      exact call_ok0 hs (fun k => (([a1.av F, a2.av F, a3.av F, a4.av F] : List AV)[k]?).getD .top) [a1, a3, a4] [.bptr (BR.root 0) [.int .i64 v145, .int .i64 v146, .bslc (BR.root 1) (.i64 v147)], .bslc (BR.root 2) (.i64 v148), .bslc (BR.root 3) (.i64 v149)] (fun F' h0 hi hρ => ⟨by simp [DVs.av, DV.av, BR.av, hρ], spec_l06Minor_i2_fn v145 v146 v147 v148 v149 F' (st_nil hi) ⟨bptr_ok hi (by rw [h0]; simpa [DVs.av, DV.av, BR.av, hρ] using (cellsOf_ok hs (DVs.okAt ha 0 rfl) hcp0).1) ⟨trivial, trivial, bslc_ok hi (by rw [h0, hρ]; exact rowI64_ok hs (DVs.okAt (cellsOf_ok hs (DVs.okAt ha 0 rfl) hcp0).2 2 rfl) hv147), trivial⟩, bslc_ok hi (by rw [h0, hρ]; exact rowI64_ok hs (DVs.okAt ha 1 rfl) hv148), bslc_ok hi (by rw [h0, hρ]; exact rowI64_ok hs (DVs.okAt ha 2 rfl) hv149), trivial⟩ hy⟩) rfl
    · cases hr
  · cases hr
/-! spec.l06Minor -/
noncomputable def spec_l06Minor_i1_l0_T (v135 : Int) (v136 : Int) (v137 : List Int) (v138 : List Int) (v139 : List Int) (s : Int × Int × Int) : Tree ((Int × Int × Int) ⊕ (Int)) :=
  (.br (decide (s.2.2 < ((v139.length : Nat) : Int))) (
   (.grd (inb (0 : Int) v138.length) <|
   (.grd (inb s.2.2 v139.length) <|
   (.call (spec_l06At_g v136 v137 (nth v138 (Int.toNat (0 : Int))) (nth v139 (Int.toNat s.2.2))) fun v222 =>
   (.br (!decide (v222 = (0 : Int))) (
    (.grd (sok (1 : Int) ((v138.length : Nat) : Int) v138.length) <|
    (.call (spec_l06Without_g v139 s.2.2) fun v223 =>
    (.call (spec_l06Minor_i2_g v135 v136 v137 (AM.sub v138 (1 : Int) ((v138.length : Nat) : Int)) ((([] : List Int) ++ (AM.sub v139 (0 : Int) s.2.2)) ++ (AM.sub v139 (IntKind.i64.wrap (s.2.2 + (1 : Int))) ((v139.length : Nat) : Int)))) fun v224 =>
    .leaf (.inl (IntKind.i64.wrap (s.1 + (IntKind.i64.wrap ((IntKind.i64.wrap (s.2.1 * v222)) * v224))), IntKind.i64.wrap (0 - s.2.1), IntKind.i64.wrap (s.2.2 + (1 : Int)))))))
   ) (
    .leaf (.inl (s.1, IntKind.i64.wrap (0 - s.2.1), IntKind.i64.wrap (s.2.2 + (1 : Int))))
   )))))
  ) (
   .leaf (.inr s.1)
  ))

noncomputable def spec_l06Minor_i1_l0_g (v135 : Int) (v136 : Int) (v137 : List Int) (v138 : List Int) (v139 : List Int) (s0 : Int × Int × Int) : Option (Int) := whileM (fun s => (spec_l06Minor_i1_l0_T v135 v136 v137 v138 v139 s).run) s0
def spec_l06Minor_i1_l0_E (v135 : Int) (v136 : Int) (v137 : List Int) (v138 : List Int) (v139 : List Int) (s : Int × Int × Int) : Sd := ([.bptr (BR.root 0) [.int .i64 v135, .int .i64 v136, .bslc (BR.root 1) (.i64 v137)],.bslc (BR.root 2) (.i64 v138),.bslc (BR.root 3) (.i64 v139),tp,tp,tp,tp,.int .i64 s.1,.int .i64 s.2.1,.int .i64 s.2.2,tp,tp,tp,tp,tp,tp,tp,tp,tp,tp,tp,tp,tp,tp,tp,tp,tp,tp,tp,tp,tp,tp,tp,tp,tp,tp,tp,tp,tp,tp,tp,tp,tp,tp,tp,tp,tp], [])
def spec_l06Minor_i1_l0_X (v135 : Int) (v136 : Int) (v137 : List Int) (v138 : List Int) (v139 : List Int) (x : Int) : Out := (.normal, [tp,tp,tp,tp,tp,tp,tp,.int .i64 x,tp,tp,tp,tp,tp,tp,tp,tp,tp,tp,tp,tp,tp,tp,tp,tp,tp,tp,tp,tp,tp,tp,tp,tp,tp,tp,tp,tp,tp,tp,tp,tp,tp,tp,tp,tp,tp,tp,tp], [])
def spec_l06Minor_i1_l0_kill : List Nat := KL true [0,3,4,3,37]
def spec_l06Minor_i1_l0_nx : Exit → List Nat
  | .exit 0 => KL true [7,1,39]
  | .ret => KL true [6,1,40]
  | _ => []
noncomputable def spec_l06Minor_i1_LO (v135 : Int) (v136 : Int) (v137 : List Int) (v138 : List Int) (v139 : List Int) : LOr := fun id e L =>
  match id with
  | 0 => .need (normA 0 spec_l06Minor_i1_l0_kill e L = some (spec_l06Minor_i1_l0_E v135 v136 v137 v138 v139 ((gI (vAt e 7)), (gI (vAt e 8)), (gI (vAt e 9))))) (.call (spec_l06Minor_i1_l0_g v135 v136 v137 v138 v139 ((gI (vAt e 7)), (gI (vAt e 8)), (gI (vAt e 9)))) fun x => .leaf (spec_l06Minor_i1_l0_X v135 v136 v137 v138 v139 x))
  | _ => .fail
noncomputable def spec_l06Minor_i1_tab : List (FuncId × DFn × Bool) := [(124, spec_l06At_F, true), (131, spec_l06Without_F, true), (75, spec_l06Minor_i2_F, true)]
theorem spec_l06Minor_i1_hO : OrcOk Try.prog (tabD spec_l06Minor_i1_tab) (tabM spec_l06Minor_i1_tab) := tabD_cons spec_l06At_Fok (tabD_cons spec_l06Without_Fok (tabD_cons spec_l06Minor_i2_Fok (tabD_nil _)))
theorem spec_l06Minor_i1_l0_be (v135 : Int) (v136 : Int) (v137 : List Int) (v138 : List Int) (v139 : List Int) (s : Int × Int × Int) : bodyT TT (tabD spec_l06Minor_i1_tab) (tabM spec_l06Minor_i1_tab) (spec_l06Minor_i1_LO v135 v136 v137 v138 v139) 0 spec_l06Minor_i1_l0_kill spec_l06Minor_i1_l0_nx (bodyOf Try.f75 0) 0 (spec_l06Minor_i1_l0_E v135 v136 v137 v138 v139 s) = (spec_l06Minor_i1_l0_T v135 v136 v137 v138 v139 s).bind fun y => .leaf (outS (spec_l06Minor_i1_l0_E v135 v136 v137 v138 v139) (spec_l06Minor_i1_l0_X v135 v136 v137 v138 v139) y) := by kernel_rfl
theorem spec_l06Minor_i1_l0_ok (v135 : Int) (v136 : Int) (v137 : List Int) (v138 : List Int) (v139 : List Int) : LSound Try.prog 0 (spec_l06Minor_i1_LO v135 v136 v137 v138 v139) 0 (bodyOf Try.f75 0) := by
  intro e L out h
  exact lo_ok (E := spec_l06Minor_i1_l0_E v135 v136 v137 v138 v139) (gT := spec_l06Minor_i1_l0_T v135 v136 v137 v138 v139) (X := spec_l06Minor_i1_l0_X v135 v136 v137 v138 v139) (s0 := ((gI (vAt e 7)), (gI (vAt e 8)), (gI (vAt e 9)))) tok spec_l06Minor_i1_hO mixed (LoopsOk_eq (l := []) (by kernel_rfl) trivial) (spec_l06Minor_i1_l0_be v135 v136 v137 v138 v139) rfl (by intro x; rfl) h
noncomputable def spec_l06Minor_i1_T (v135 : Int) (v136 : Int) (v137 : List Int) (v138 : List Int) (v139 : List Int) : Tree (Int) :=
  (.br (decide (((v138.length : Nat) : Int) = (0 : Int))) (
   .leaf (1 : Int)
  ) (
   (.need (some (spec_l06Minor_i1_l0_E v135 v136 v137 v138 v139 ((0 : Int), (1 : Int), (0 : Int))) = some (spec_l06Minor_i1_l0_E v135 v136 v137 v138 v139 ((0 : Int), (1 : Int), (0 : Int)))) <|
   (.call (spec_l06Minor_i1_l0_g v135 v136 v137 v138 v139 ((0 : Int), (1 : Int), (0 : Int))) fun v225 =>
   .leaf v225))
  ))

noncomputable def spec_l06Minor_i1_g (v135 : Int) (v136 : Int) (v137 : List Int) (v138 : List Int) (v139 : List Int) : Option (Int) := (spec_l06Minor_i1_T v135 v136 v137 v138 v139).run
def spec_l06Minor_i1_enc (v135 : Int) (v136 : Int) (v137 : List Int) (v138 : List Int) (v139 : List Int) (y : Int) : Rs := (.int .i64 y, [])
theorem spec_l06Minor_i1_den (v135 : Int) (v136 : Int) (v137 : List Int) (v138 : List Int) (v139 : List Int) : (den TT (tabD spec_l06Minor_i1_tab) (tabM spec_l06Minor_i1_tab) (spec_l06Minor_i1_LO v135 v136 v137 v138 v139) (codeOf Try.f75) ([.bptr (BR.root 0) [.int .i64 v135, .int .i64 v136, .bslc (BR.root 1) (.i64 v137)], .bslc (BR.root 2) (.i64 v138), .bslc (BR.root 3) (.i64 v139)] ++ List.replicate (Try.f75.ntmps - ([.bptr (BR.root 0) [.int .i64 v135, .int .i64 v136, .bslc (BR.root 1) (.i64 v137)], .bslc (BR.root 2) (.i64 v138), .bslc (BR.root 3) (.i64 v139)] : List DV).length) .undef) []).bind (retD TT Try.f75.results.toList 0) = (spec_l06Minor_i1_T v135 v136 v137 v138 v139).bind fun y => .leaf (spec_l06Minor_i1_enc v135 v136 v137 v138 v139 y) := by kernel_rfl
theorem spec_l06Minor_i1_fn (v135 : Int) (v136 : Int) (v137 : List Int) (v138 : List Int) (v139 : List Int) (F : Fr) (h0 : St F [] F.H0) (hA : DVs.Ok F [] [.bptr (BR.root 0) [.int .i64 v135, .int .i64 v136, .bslc (BR.root 1) (.i64 v137)], .bslc (BR.root 2) (.i64 v138), .bslc (BR.root 3) (.i64 v139)]) {y : Int} (hy : spec_l06Minor_i1_g v135 v136 v137 v138 v139 = some y) : ∃ F' H', Fwd 0 F F' [] (spec_l06Minor_i1_enc v135 v136 v137 v138 v139 y).2 ∧ FnOk Try.prog 75 (DVs.av F [.bptr (BR.root 0) [.int .i64 v135, .int .i64 v136, .bslc (BR.root 1) (.i64 v137)], .bslc (BR.root 2) (.i64 v138), .bslc (BR.root 3) (.i64 v139)]) F.H0 ((spec_l06Minor_i1_enc v135 v136 v137 v138 v139 y).1.av F') H' ∧ St F' (spec_l06Minor_i1_enc v135 v136 v137 v138 v139 y).2 H' ∧ (spec_l06Minor_i1_enc v135 v136 v137 v138 v139 y).1.Ok F' (spec_l06Minor_i1_enc v135 v136 v137 v138 v139 y).2 :=
  fn_fin tok spec_l06Minor_i1_hO mixed Try.func75 Try.call75 (by kernel_rfl) (LoopsOk_eq (l := [(0, bodyOf Try.f75 0)]) (by kernel_rfl) ⟨spec_l06Minor_i1_l0_ok v135 v136 v137 v138 v139, trivial⟩) (spec_l06Minor_i1_den v135 v136 v137 v138 v139) hy h0 hA
noncomputable def spec_l06Minor_i1_F : DFn := fun args L =>
  match args with
  | [a1, a3, a4] =>
    optT (cellsOf L 3 a1) fun cs0 =>
    (match cs0 with
    | [.int .i64 v135, .int .i64 v136, a2] =>
    optT (rowI64 L a2) fun v137 =>
    optT (rowI64 L a3) fun v138 =>
    optT (rowI64 L a4) fun v139 =>
    .call (spec_l06Minor_i1_g v135 v136 v137 v138 v139) fun y => .leaf (.int .i64 y, L)
    | _ => .fail)
  | _ => .fail
theorem spec_l06Minor_i1_Fok : COk Try.prog 75 spec_l06Minor_i1_F true := by
  intro F L H args r L' hs ha hr
  unfold spec_l06Minor_i1_F at hr
  split at hr
  · rename_i a1 a3 a4
    obtain ⟨cs0, hcp0, hr⟩ := optT_run hr
    split at hr
    · rename_i v135 v136 a2
      obtain ⟨v137, hv137, hr⟩ := optT_run hr
      obtain ⟨v138, hv138, hr⟩ := optT_run hr
      obtain ⟨v139, hv139, hr⟩ := optT_run hr
      simp only [Tree.run] at hr
      obtain ⟨y, hy, hr⟩ := Option.bind_eq_some_iff.1 hr
      simp only [Tree.run, Option.some.injEq, Prod.mk.injEq] at hr
      obtain ⟨rfl, rfl⟩ := hr
      exact call_ok0 hs (fun k => (([a1.av F, a2.av F, a3.av F, a4.av F] : List AV)[k]?).getD .top) [a1, a3, a4] [.bptr (BR.root 0) [.int .i64 v135, .int .i64 v136, .bslc (BR.root 1) (.i64 v137)], .bslc (BR.root 2) (.i64 v138), .bslc (BR.root 3) (.i64 v139)] (fun F' h0 hi hρ => ⟨by simp [DVs.av, DV.av, BR.av, hρ], spec_l06Minor_i1_fn v135 v136 v137 v138 v139 F' (st_nil hi) ⟨bptr_ok hi (by rw [h0]; simpa [DVs.av, DV.av, BR.av, hρ] using (cellsOf_ok hs (DVs.okAt ha 0 rfl) hcp0).1) ⟨trivial, trivial, bslc_ok hi (by rw [h0, hρ]; exact rowI64_ok hs (DVs.okAt (cellsOf_ok hs (DVs.okAt ha 0 rfl) hcp0).2 2 rfl) hv137), trivial⟩, bslc_ok hi (by rw [h0, hρ]; exact rowI64_ok hs (DVs.okAt ha 1 rfl) hv138), bslc_ok hi (by rw [h0, hρ]; exact rowI64_ok hs (DVs.okAt ha 2 rfl) hv139), trivial⟩ hy⟩) rfl
    · cases hr
  · cases hr
/-! spec.l06Minor -/
noncomputable def spec_l06Minor_l0_T (v118 : Int) (v119 : Int) (v120 : List Int) (v121 : List Int) (v122 : List Int) (s : Int × Int × Int) : Tree ((Int × Int × Int) ⊕ (Int)) :=
  (.br (decide (s.2.2 < ((v122.length : Nat) : Int))) (
   (.grd (inb (0 : Int) v121.length) <|
   (.grd (inb s.2.2 v122.length) <|
   (.call (spec_l06At_g v119 v120 (nth v121 (Int.toNat (0 : Int))) (nth v122 (Int.toNat s.2.2))) fun v236 =>
   (.br (!decide (v236 = (0 : Int))) (
    (.grd (sok (1 : Int) ((v121.length : Nat) : Int) v121.length) <|
    (.call (spec_l06Without_g v122 s.2.2) fun v237 =>
    (.call (spec_l06Minor_i1_g v118 v119 v120 (AM.sub v121 (1 : Int) ((v121.length : Nat) : Int)) ((([] : List Int) ++ (AM.sub v122 (0 : Int) s.2.2)) ++ (AM.sub v122 (IntKind.i64.wrap (s.2.2 + (1 : Int))) ((v122.length : Nat) : Int)))) fun v238 =>
    .leaf (.inl (IntKind.i64.wrap (s.1 + (IntKind.i64.wrap ((IntKind.i64.wrap (s.2.1 * v236)) * v238))), IntKind.i64.wrap (0 - s.2.1), IntKind.i64.wrap (s.2.2 + (1 : Int)))))))
   ) (
    .leaf (.inl (s.1, IntKind.i64.wrap (0 - s.2.1), IntKind.i64.wrap (s.2.2 + (1 : Int))))
   )))))
  ) (
   .leaf (.inr s.1)
  ))

noncomputable def spec_l06Minor_l0_g (v118 : Int) (v119 : Int) (v120 : List Int) (v121 : List Int) (v122 : List Int) (s0 : Int × Int × Int) : Option (Int) := whileM (fun s => (spec_l06Minor_l0_T v118 v119 v120 v121 v122 s).run) s0
def spec_l06Minor_l0_E (v118 : Int) (v119 : Int) (v120 : List Int) (v121 : List Int) (v122 : List Int) (s : Int × Int × Int) : Sd := ([.bptr (BR.root 0) [.int .i64 v118, .int .i64 v119, .bslc (BR.root 1) (.i64 v120)],.bslc (BR.root 2) (.i64 v121),.bslc (BR.root 3) (.i64 v122),tp,tp,tp,tp,.int .i64 s.1,.int .i64 s.2.1,.int .i64 s.2.2,tp,tp,tp,tp,tp,tp,tp,tp,tp,tp,tp,tp,tp,tp,tp,tp,tp,tp,tp,tp,tp,tp,tp,tp,tp,tp,tp,tp,tp,tp,tp,tp,tp,tp,tp,tp,tp], [])
def spec_l06Minor_l0_X (v118 : Int) (v119 : Int) (v120 : List Int) (v121 : List Int) (v122 : List Int) (x : Int) : Out := (.normal, [tp,tp,tp,tp,tp,tp,tp,.int .i64 x,tp,tp,tp,tp,tp,tp,tp,tp,tp,tp,tp,tp,tp,tp,tp,tp,tp,tp,tp,tp,tp,tp,tp,tp,tp,tp,tp,tp,tp,tp,tp,tp,tp,tp,tp,tp,tp,tp,tp], [])
def spec_l06Minor_l0_kill : List Nat := KL true [0,3,4,3,37]
def spec_l06Minor_l0_nx : Exit → List Nat
  | .exit 0 => KL true [7,1,39]
  | .ret => KL true [6,1,40]
  | _ => []
noncomputable def spec_l06Minor_LO (v118 : Int) (v119 : Int) (v120 : List Int) (v121 : List Int) (v122 : List Int) : LOr := fun id e L =>
  match id with
  | 0 => .need (normA 0 spec_l06Minor_l0_kill e L = some (spec_l06Minor_l0_E v118 v119 v120 v121 v122 ((gI (vAt e 7)), (gI (vAt e 8)), (gI (vAt e 9))))) (.call (spec_l06Minor_l0_g v118 v119 v120 v121 v122 ((gI (vAt e 7)), (gI (vAt e 8)), (gI (vAt e 9)))) fun x => .leaf (spec_l06Minor_l0_X v118 v119 v120 v121 v122 x))
  | _ => .fail
noncomputable def spec_l06Minor_tab : List (FuncId × DFn × Bool) := [(124, spec_l06At_F, true), (131, spec_l06Without_F, true), (75, spec_l06Minor_i1_F, true)]
theorem spec_l06Minor_hO : OrcOk Try.prog (tabD spec_l06Minor_tab) (tabM spec_l06Minor_tab) := tabD_cons spec_l06At_Fok (tabD_cons spec_l06Without_Fok (tabD_cons spec_l06Minor_i1_Fok (tabD_nil _)))
theorem spec_l06Minor_l0_be (v118 : Int) (v119 : Int) (v120 : List Int) (v121 : List Int) (v122 : List Int) (s : Int × Int × Int) : bodyT TT (tabD spec_l06Minor_tab) (tabM spec_l06Minor_tab) (spec_l06Minor_LO v118 v119 v120 v121 v122) 0 spec_l06Minor_l0_kill spec_l06Minor_l0_nx (bodyOf Try.f75 0) 0 (spec_l06Minor_l0_E v118 v119 v120 v121 v122 s) = (spec_l06Minor_l0_T v118 v119 v120 v121 v122 s).bind fun y => .leaf (outS (spec_l06Minor_l0_E v118 v119 v120 v121 v122) (spec_l06Minor_l0_X v118 v119 v120 v121 v122) y) := by kernel_rfl
theorem spec_l06Minor_l0_ok (v118 : Int) (v119 : Int) (v120 : List Int) (v121 : List Int) (v122 : List Int) : LSound Try.prog 0 (spec_l06Minor_LO v118 v119 v120 v121 v122) 0 (bodyOf Try.f75 0) := by
  intro e L out h
  exact lo_ok (E := spec_l06Minor_l0_E v118 v119 v120 v121 v122) (gT := spec_l06Minor_l0_T v118 v119 v120 v121 v122) (X := spec_l06Minor_l0_X v118 v119 v120 v121 v122) (s0 := ((gI (vAt e 7)), (gI (vAt e 8)), (gI (vAt e 9)))) tok spec_l06Minor_hO mixed (LoopsOk_eq (l := []) (by kernel_rfl) trivial) (spec_l06Minor_l0_be v118 v119 v120 v121 v122) rfl (by intro x; rfl) h
noncomputable def spec_l06Minor_T (v118 : Int) (v119 : Int) (v120 : List Int) (v121 : List Int) (v122 : List Int) : Tree (Int) :=
  (.br (decide (((v121.length : Nat) : Int) = (0 : Int))) (
   .leaf (1 : Int)
  ) (
   (.need (some (spec_l06Minor_l0_E v118 v119 v120 v121 v122 ((0 : Int), (1 : Int), (0 : Int))) = some (spec_l06Minor_l0_E v118 v119 v120 v121 v122 ((0 : Int), (1 : Int), (0 : Int)))) <|
   (.call (spec_l06Minor_l0_g v118 v119 v120 v121 v122 ((0 : Int), (1 : Int), (0 : Int))) fun v239 =>
   .leaf v239))
  ))

noncomputable def spec_l06Minor_g (v118 : Int) (v119 : Int) (v120 : List Int) (v121 : List Int) (v122 : List Int) : Option (Int) := (spec_l06Minor_T v118 v119 v120 v121 v122).run
def spec_l06Minor_enc (v118 : Int) (v119 : Int) (v120 : List Int) (v121 : List Int) (v122 : List Int) (y : Int) : Rs := (.int .i64 y, [])
theorem spec_l06Minor_den (v118 : Int) (v119 : Int) (v120 : List Int) (v121 : List Int) (v122 : List Int) : (den TT (tabD spec_l06Minor_tab) (tabM spec_l06Minor_tab) (spec_l06Minor_LO v118 v119 v120 v121 v122) (codeOf Try.f75) ([.bptr (BR.root 0) [.int .i64 v118, .int .i64 v119, .bslc (BR.root 1) (.i64 v120)], .bslc (BR.root 2) (.i64 v121), .bslc (BR.root 3) (.i64 v122)] ++ List.replicate (Try.f75.ntmps - ([.bptr (BR.root 0) [.int .i64 v118, .int .i64 v119, .bslc (BR.root 1) (.i64 v120)], .bslc (BR.root 2) (.i64 v121), .bslc (BR.root 3) (.i64 v122)] : List DV).length) .undef) []).bind (retD TT Try.f75.results.toList 0) = (spec_l06Minor_T v118 v119 v120 v121 v122).bind fun y => .leaf (spec_l06Minor_enc v118 v119 v120 v121 v122 y) := by kernel_rfl
theorem spec_l06Minor_fn (v118 : Int) (v119 : Int) (v120 : List Int) (v121 : List Int) (v122 : List Int) (F : Fr) (h0 : St F [] F.H0) (hA : DVs.Ok F [] [.bptr (BR.root 0) [.int .i64 v118, .int .i64 v119, .bslc (BR.root 1) (.i64 v120)], .bslc (BR.root 2) (.i64 v121), .bslc (BR.root 3) (.i64 v122)]) {y : Int} (hy : spec_l06Minor_g v118 v119 v120 v121 v122 = some y) : ∃ F' H', Fwd 0 F F' [] (spec_l06Minor_enc v118 v119 v120 v121 v122 y).2 ∧ FnOk Try.prog 75 (DVs.av F [.bptr (BR.root 0) [.int .i64 v118, .int .i64 v119, .bslc (BR.root 1) (.i64 v120)], .bslc (BR.root 2) (.i64 v121), .bslc (BR.root 3) (.i64 v122)]) F.H0 ((spec_l06Minor_enc v118 v119 v120 v121 v122 y).1.av F') H' ∧ St F' (spec_l06Minor_enc v118 v119 v120 v121 v122 y).2 H' ∧ (spec_l06Minor_enc v118 v119 v120 v121 v122 y).1.Ok F' (spec_l06Minor_enc v118 v119 v120 v121 v122 y).2 :=
  fn_fin tok spec_l06Minor_hO mixed Try.func75 Try.call75 (by kernel_rfl) (LoopsOk_eq (l := [(0, bodyOf Try.f75 0)]) (by kernel_rfl) ⟨spec_l06Minor_l0_ok v118 v119 v120 v121 v122, trivial⟩) (spec_l06Minor_den v118 v119 v120 v121 v122) hy h0 hA
noncomputable def spec_l06Minor_F : DFn := fun args L =>
  match args with
  | [a1, a3, a4] =>
    optT (cellsOf L 3 a1) fun cs0 =>
    (match cs0 with
    | [.int .i64 v118, .int .i64 v119, a2] =>
    optT (rowI64 L a2) fun v120 =>
    optT (rowI64 L a3) fun v121 =>
    optT (rowI64 L a4) fun v122 =>
    .call (spec_l06Minor_g v118 v119 v120 v121 v122) fun y => .leaf (.int .i64 y, L)
    | _ => .fail)
  | _ => .fail
theorem spec_l06Minor_Fok : COk Try.prog 75 spec_l06Minor_F true := by
  intro F L H args r L' hs ha hr
  unfold spec_l06Minor_F at hr
  split at hr
  · rename_i a1 a3 a4
    obtain ⟨cs0, hcp0, hr⟩ := optT_run hr
    split at hr
    · rename_i v118 v119 a2
      obtain ⟨v120, hv120, hr⟩ := optT_run hr
      obtain ⟨v121, hv121, hr⟩ := optT_run hr
      obtain ⟨v122, hv122, hr⟩ := optT_run hr
      simp only [Tree.run] at hr
      obtain ⟨y, hy, hr⟩ := Option.bind_eq_some_iff.1 hr
      simp only [Tree.run, Option.some.injEq, Prod.mk.injEq] at hr
      obtain ⟨rfl, rfl⟩ := hr
      exact call_ok0 hs (fun k => (([a1.av F, a2.av F, a3.av F, a4.av F] : List AV)[k]?).getD .top) [a1, a3, a4] [.bptr (BR.root 0) [.int .i64 v118, .int .i64 v119, .bslc (BR.root 1) (.i64 v120)], .bslc (BR.root 2) (.i64 v121), .bslc (BR.root 3) (.i64 v122)] (fun F' h0 hi hρ => ⟨by simp [DVs.av, DV.av, BR.av, hρ], spec_l06Minor_fn v118 v119 v120 v121 v122 F' (st_nil hi) ⟨bptr_ok hi (by rw [h0]; simpa [DVs.av, DV.av, BR.av, hρ] using (cellsOf_ok hs (DVs.okAt ha 0 rfl) hcp0).1) ⟨trivial, trivial, bslc_ok hi (by rw [h0, hρ]; exact rowI64_ok hs (DVs.okAt (cellsOf_ok hs (DVs.okAt ha 0 rfl) hcp0).2 2 rfl) hv120), trivial⟩, bslc_ok hi (by rw [h0, hρ]; exact rowI64_ok hs (DVs.okAt ha 1 rfl) hv121), bslc_ok hi (by rw [h0, hρ]; exact rowI64_ok hs (DVs.okAt ha 2 rfl) hv122), trivial⟩ hy⟩) rfl
    · cases hr
  · cases hr
/-! spec.l06Gcd -/
noncomputable def spec_l06Gcd_l0_T (s : Int × Int) : Tree ((Int × Int) ⊕ (Int)) :=
  (.br (!decide (s.2 = (0 : Int))) (
   (.grd (!decide (s.2 = 0)) <|
   .leaf (.inl (s.2, Int.tmod s.1 s.2)))
  ) (
   .leaf (.inr s.1)
  ))

noncomputable def spec_l06Gcd_l0_g (s0 : Int × Int) : Option (Int) := whileM (fun s => (spec_l06Gcd_l0_T s).run) s0
def spec_l06Gcd_l0_E (v241 : Int) (v242 : Int) (s : Int × Int) : Sd := ([.int .i64 s.1,.int .i64 s.2,tp,tp,tp,tp,tp,tp,tp,tp,tp,tp,tp,tp,tp,tp,tp,tp], [])
def spec_l06Gcd_l0_X (v241 : Int) (v242 : Int) (x : Int) : Out := (.normal, [.int .i64 x,tp,tp,tp,tp,tp,tp,tp,tp,tp,tp,tp,tp,tp,tp,tp,tp,tp], [])
def spec_l06Gcd_l0_kill : List Nat := KL true [0,2,16]
def spec_l06Gcd_l0_nx : Exit → List Nat
  | .exit 0 => KL true [0,1,17]
  | .ret => KL true [4,1,13]
  | _ => []
noncomputable def spec_l06Gcd_LO (v241 : Int) (v242 : Int) : LOr := fun id e L =>
  match id with
  | 0 => .need (normA 0 spec_l06Gcd_l0_kill e L = some (spec_l06Gcd_l0_E v241 v242 ((gI (vAt e 0)), (gI (vAt e 1))))) (.call (spec_l06Gcd_l0_g ((gI (vAt e 0)), (gI (vAt e 1)))) fun x => .leaf (spec_l06Gcd_l0_X v241 v242 x))
  | _ => .fail
noncomputable def spec_l06Gcd_tab : List (FuncId × DFn × Bool) := []
theorem spec_l06Gcd_hO : OrcOk Try.prog (tabD spec_l06Gcd_tab) (tabM spec_l06Gcd_tab) := tabD_nil _
theorem spec_l06Gcd_l0_be (v241 : Int) (v242 : Int) (s : Int × Int) : bodyT TT (tabD spec_l06Gcd_tab) (tabM spec_l06Gcd_tab) (spec_l06Gcd_LO v241 v242) 0 spec_l06Gcd_l0_kill spec_l06Gcd_l0_nx (bodyOf Try.f74 0) 0 (spec_l06Gcd_l0_E v241 v242 s) = (spec_l06Gcd_l0_T s).bind fun y => .leaf (outS (spec_l06Gcd_l0_E v241 v242) (spec_l06Gcd_l0_X v241 v242) y) := by kernel_rfl
theorem spec_l06Gcd_l0_ok (v241 : Int) (v242 : Int) : LSound Try.prog 0 (spec_l06Gcd_LO v241 v242) 0 (bodyOf Try.f74 0) := by
  intro e L out h
  exact lo_ok (E := spec_l06Gcd_l0_E v241 v242) (gT := spec_l06Gcd_l0_T) (X := spec_l06Gcd_l0_X v241 v242) (s0 := ((gI (vAt e 0)), (gI (vAt e 1)))) tok spec_l06Gcd_hO mixed (LoopsOk_eq (l := []) (by kernel_rfl) trivial) (spec_l06Gcd_l0_be v241 v242) rfl (by intro x; rfl) h
noncomputable def spec_l06Gcd_T (v241 : Int) (v242 : Int) : Tree (Int) :=
  (.need (some (spec_l06Gcd_l0_E v241 v242 (v241, v242)) = some (spec_l06Gcd_l0_E v241 v242 (v241, v242))) <|
  (.call (spec_l06Gcd_l0_g (v241, v242)) fun v249 =>
  (.br (decide (v249 < (0 : Int))) (
   .leaf (IntKind.i64.wrap (0 - v249))
  ) (
   .leaf v249
  ))))

noncomputable def spec_l06Gcd_g (v241 : Int) (v242 : Int) : Option (Int) := (spec_l06Gcd_T v241 v242).run
def spec_l06Gcd_enc (v241 : Int) (v242 : Int) (y : Int) : Rs := (.int .i64 y, [])
theorem spec_l06Gcd_den (v241 : Int) (v242 : Int) : (den TT (tabD spec_l06Gcd_tab) (tabM spec_l06Gcd_tab) (spec_l06Gcd_LO v241 v242) (codeOf Try.f74) ([.int .i64 v241, .int .i64 v242] ++ List.replicate (Try.f74.ntmps - ([.int .i64 v241, .int .i64 v242] : List DV).length) .undef) []).bind (retD TT Try.f74.results.toList 0) = (spec_l06Gcd_T v241 v242).bind fun y => .leaf (spec_l06Gcd_enc v241 v242 y) := by kernel_rfl
theorem spec_l06Gcd_fn (v241 : Int) (v242 : Int) (F : Fr) (h0 : St F [] F.H0) (hA : DVs.Ok F [] [.int .i64 v241, .int .i64 v242]) {y : Int} (hy : spec_l06Gcd_g v241 v242 = some y) : ∃ F' H', Fwd 0 F F' [] (spec_l06Gcd_enc v241 v242 y).2 ∧ FnOk Try.prog 74 (DVs.av F [.int .i64 v241, .int .i64 v242]) F.H0 ((spec_l06Gcd_enc v241 v242 y).1.av F') H' ∧ St F' (spec_l06Gcd_enc v241 v242 y).2 H' ∧ (spec_l06Gcd_enc v241 v242 y).1.Ok F' (spec_l06Gcd_enc v241 v242 y).2 :=
  fn_fin tok spec_l06Gcd_hO mixed Try.func74 Try.call74 (by kernel_rfl) (LoopsOk_eq (l := [(0, bodyOf Try.f74 0)]) (by kernel_rfl) ⟨spec_l06Gcd_l0_ok v241 v242, trivial⟩) (spec_l06Gcd_den v241 v242) hy h0 hA
noncomputable def spec_l06Gcd_F : DFn := fun args L =>
  match args with
  | [.int .i64 v241, .int .i64 v242] =>
    .call (spec_l06Gcd_g v241 v242) fun y => .leaf (.int .i64 y, L)
  | _ => .fail
theorem spec_l06Gcd_Fok : COk Try.prog 74 spec_l06Gcd_F true := by
  intro F L H args r L' hs ha hr
  unfold spec_l06Gcd_F at hr
  split at hr
  · rename_i v241 v242
    simp only [Tree.run] at hr
    obtain ⟨y, hy, hr⟩ := Option.bind_eq_some_iff.1 hr
    simp only [Tree.run, Option.some.injEq, Prod.mk.injEq] at hr
    obtain ⟨rfl, rfl⟩ := hr
    exact call_ok0 hs (fun k => (([] : List AV)[k]?).getD .top) [.int .i64 v241, .int .i64 v242] [.int .i64 v241, .int .i64 v242] (fun F' h0 hi hρ => ⟨by simp [DVs.av, DV.av, BR.av, hρ], spec_l06Gcd_fn v241 v242 F' (st_nil hi) ⟨trivial, trivial, trivial⟩ hy⟩) rfl
  · cases hr
/-! spec.NormalOf -/
noncomputable def spec_NormalOf_l4_T (v22 : Int) (v23 : Int) (v24 : List Int) (v633 : Int) (v634 : Int) (v636 : Int) (v638 : List Int) (v639 : List (List Int)) (v640 : List Nat) (v641 : List (List Int)) (v642 : List Nat) (s : Int × Int) : Tree ((Int × Int) ⊕ (Int)) :=
  (.br (decide (s.2 < (((v642).length : Nat) : Int))) (
   (.grd (inb v636 ((v640).length)) <|
   (.grd (inb s.2 ((v642).length)) <|
   (.call (spec_l06Minor_g v22 v23 v24 (nget v639 (nth v640 (Int.toNat v636))) (nget v641 (nth v642 (Int.toNat s.2)))) fun v643 =>
   (.call (spec_l06Gcd_g s.1 v643) fun v644 =>
   .leaf (.inl (v644, IntKind.i64.wrap (s.2 + (1 : Int))))))))
  ) (
   .leaf (.inr s.1)
  ))

noncomputable def spec_NormalOf_l4_g (v22 : Int) (v23 : Int) (v24 : List Int) (v633 : Int) (v634 : Int) (v636 : Int) (v638 : List Int) (v639 : List (List Int)) (v640 : List Nat) (v641 : List (List Int)) (v642 : List Nat) (s0 : Int × Int) : Option (Int) := whileM (fun s => (spec_NormalOf_l4_T v22 v23 v24 v633 v634 v636 v638 v639 v640 v641 v642 s).run) s0
def spec_NormalOf_l4_E (v22 : Int) (v23 : Int) (v24 : List Int) (v633 : Int) (v634 : Int) (v636 : Int) (v638 : List Int) (v639 : List (List Int)) (v640 : List Nat) (v641 : List (List Int)) (v642 : List Nat) (s : Int × Int) : Sd := ([tp,.ptr 0 (0 : Nat) 0 (3 : Nat),tp,tp,.own 1 0 ((v638).length),.int .i64 v633,.int .i64 v634,.int .i64 s.1,.nest 2 0 1 ((v640).length),.nest 3 0 1 ((v642).length),.int .i64 v636,.int .i64 s.2,tp,tp,tp,tp,tp,tp,tp,tp,tp,tp,tp,tp,tp,tp,tp,tp,tp,tp,tp,tp,tp,tp,tp,tp,tp,tp,tp,tp,tp,tp,tp,tp,tp,tp,tp,tp,tp,tp,tp,tp,tp,tp,tp,tp,tp,tp,tp,tp,tp,tp,tp,tp,tp,tp,tp,tp,tp,tp,tp,tp,tp,tp,tp,tp,tp,tp], [.gen [.int .i64 v22, .int .i64 v23, .bslc (BR.root 0) (.i64 v24)] false 0, .row (.i64 v638) 0, .nest [.sl (.i64 v639) v640] false 0, .nest [.sl (.i64 v641) v642] false 0])
def spec_NormalOf_l4_X (v22 : Int) (v23 : Int) (v24 : List Int) (v633 : Int) (v634 : Int) (v636 : Int) (v638 : List Int) (v639 : List (List Int)) (v640 : List Nat) (v641 : List (List Int)) (v642 : List Nat) (x : Int) : Out := (.normal, [tp,.ptr 0 (0 : Nat) 0 (3 : Nat),tp,tp,.own 1 0 ((v638).length),.int .i64 v633,.int .i64 v634,.int .i64 x,.nest 2 0 1 ((v640).length),.nest 3 0 1 ((v642).length),.int .i64 v636,tp,tp,tp,tp,tp,tp,tp,tp,tp,tp,tp,tp,tp,tp,tp,tp,tp,tp,tp,tp,tp,tp,tp,tp,tp,tp,tp,tp,tp,tp,tp,tp,tp,tp,tp,tp,tp,tp,tp,tp,tp,tp,tp,tp,tp,tp,tp,tp,tp,tp,tp,tp,tp,tp,tp,tp,tp,tp,tp,tp,tp,tp,tp,tp,tp,tp,tp], [.gen [.int .i64 v22, .int .i64 v23, .bslc (BR.root 0) (.i64 v24)] false 0, .row (.i64 v638) 0, .nest [.sl (.i64 v639) v640] false 0, .nest [.sl (.i64 v641) v642] false 0])
def spec_NormalOf_l4_kill : List Nat := KL true [1,1,2,8,66]
def spec_NormalOf_l4_nx : Exit → List Nat
  | .exit 0 => KL true [4,1,73]
  | .exit 1 => KL true [1,1,2,3,71]
  | .exit 2 => KL true [1,1,2,4,70]
  | .exit 3 => KL true [1,1,2,7,67]
  | .exit 4 => KL true [1,1,2,7,67]
  | .ret => KL true [2,2,74]
  | _ => []
noncomputable def spec_NormalOf_l2_T (v22 : Int) (v23 : Int) (v24 : List Int) (v600 : Int) (v601 : Int) (v604 : List Int) (v605 : List (List Int)) (v606 : List Nat) (v607 : List (List Int)) (v608 : List Nat) (s : Int × Int) : Tree ((Int × Int) ⊕ (Int)) :=
  (.br (decide (s.2 < (((v606).length : Nat) : Int))) (
   (.need (some (spec_NormalOf_l4_E v22 v23 v24 v600 v601 s.2 v604 v605 v606 v607 v608 (s.1, (0 : Int))) = some (spec_NormalOf_l4_E v22 v23 v24 v600 v601 s.2 v604 v605 v606 v607 v608 (s.1, (0 : Int)))) <|
   (.call (spec_NormalOf_l4_g v22 v23 v24 v600 v601 s.2 v604 v605 v606 v607 v608 (s.1, (0 : Int))) fun v645 =>
   .leaf (.inl (v645, IntKind.i64.wrap (s.2 + (1 : Int))))))
  ) (
   .leaf (.inr s.1)
  ))

noncomputable def spec_NormalOf_l2_g (v22 : Int) (v23 : Int) (v24 : List Int) (v600 : Int) (v601 : Int) (v604 : List Int) (v605 : List (List Int)) (v606 : List Nat) (v607 : List (List Int)) (v608 : List Nat) (s0 : Int × Int) : Option (Int) := whileM (fun s => (spec_NormalOf_l2_T v22 v23 v24 v600 v601 v604 v605 v606 v607 v608 s).run) s0
def spec_NormalOf_l2_E (v22 : Int) (v23 : Int) (v24 : List Int) (v600 : Int) (v601 : Int) (v604 : List Int) (v605 : List (List Int)) (v606 : List Nat) (v607 : List (List Int)) (v608 : List Nat) (s : Int × Int) : Sd := ([tp,.ptr 0 (0 : Nat) 0 (3 : Nat),tp,tp,.own 1 0 ((v604).length),.int .i64 v600,.int .i64 v601,.int .i64 s.1,.nest 2 0 1 ((v606).length),.nest 3 0 1 ((v608).length),.int .i64 s.2,tp,tp,tp,tp,tp,tp,tp,tp,tp,tp,tp,tp,tp,tp,tp,tp,tp,tp,tp,tp,tp,tp,tp,tp,tp,tp,tp,tp,tp,tp,tp,tp,tp,tp,tp,tp,tp,tp,tp,tp,tp,tp,tp,tp,tp,tp,tp,tp,tp,tp,tp,tp,tp,tp,tp,tp,tp,tp,tp,tp,tp,tp,tp,tp,tp,tp,tp], [.gen [.int .i64 v22, .int .i64 v23, .bslc (BR.root 0) (.i64 v24)] false 0, .row (.i64 v604) 0, .nest [.sl (.i64 v605) v606] false 0, .nest [.sl (.i64 v607) v608] false 0])
def spec_NormalOf_l2_X (v22 : Int) (v23 : Int) (v24 : List Int) (v600 : Int) (v601 : Int) (v604 : List Int) (v605 : List (List Int)) (v606 : List Nat) (v607 : List (List Int)) (v608 : List Nat) (x : Int) : Out := (.normal, [tp,.ptr 0 (0 : Nat) 0 (3 : Nat),tp,tp,.own 1 0 ((v604).length),.int .i64 v600,.int .i64 v601,.int .i64 x,tp,tp,tp,tp,tp,tp,tp,tp,tp,tp,tp,tp,tp,tp,tp,tp,tp,tp,tp,tp,tp,tp,tp,tp,tp,tp,tp,tp,tp,tp,tp,tp,tp,tp,tp,tp,tp,tp,tp,tp,tp,tp,tp,tp,tp,tp,tp,tp,tp,tp,tp,tp,tp,tp,tp,tp,tp,tp,tp,tp,tp,tp,tp,tp,tp,tp,tp,tp,tp,tp], [.gen [.int .i64 v22, .int .i64 v23, .bslc (BR.root 0) (.i64 v24)] false 0, .row (.i64 v604) 0])
def spec_NormalOf_l2_kill : List Nat := KL true [1,1,2,7,67]
def spec_NormalOf_l2_nx : Exit → List Nat
  | .exit 0 => KL true [4,1,73]
  | .exit 1 => KL true [1,1,2,3,71]
  | .exit 2 => KL true [1,1,2,4,70]
  | .ret => KL true [2,2,74]
  | _ => []
noncomputable def spec_NormalOf_l0_T (v22 : Int) (v23 : Int) (v24 : List Int) (s : Int × Int × (List Int)) : Tree ((Int × Int × (List Int)) ⊕ ((List Int))) :=
  (.br (decide (s.2.1 ≤ (spec_l00Min_v v22 v23))) (
   (.call (spec_l06Choices_g v22 s.2.1) fun v506 =>
   (.call (spec_l06Choices_g v23 s.2.1) fun v507 =>
   (.need (some (spec_NormalOf_l2_E v22 v23 v24 s.1 s.2.1 s.2.2 v506.1 v506.2 v507.1 v507.2 ((0 : Int), (0 : Int))) = some (spec_NormalOf_l2_E v22 v23 v24 s.1 s.2.1 s.2.2 v506.1 v506.2 v507.1 v507.2 ((0 : Int), (0 : Int)))) <|
   (.call (spec_NormalOf_l2_g v22 v23 v24 s.1 s.2.1 s.2.2 v506.1 v506.2 v507.1 v507.2 ((0 : Int), (0 : Int))) fun v646 =>
   (.br (decide (v646 = (0 : Int))) (
    (.grd (fits (s.2.2 ++ ([(0 : Int)] : List Int)).length) <|
    .leaf (.inl (s.1, IntKind.i64.wrap (s.2.1 + (1 : Int)), s.2.2 ++ ([(0 : Int)] : List Int))))
   ) (
    (.grd (!decide (s.1 = 0)) <|
    (.grd (fits (s.2.2 ++ ([IntKind.i64.wrap (Int.tdiv v646 s.1)] : List Int)).length) <|
    .leaf (.inl (v646, IntKind.i64.wrap (s.2.1 + (1 : Int)), s.2.2 ++ ([IntKind.i64.wrap (Int.tdiv v646 s.1)] : List Int)))))
   ))))))
  ) (
   .leaf (.inr s.2.2)
  ))

noncomputable def spec_NormalOf_l0_g (v22 : Int) (v23 : Int) (v24 : List Int) (s0 : Int × Int × (List Int)) : Option ((List Int)) := whileM (fun s => (spec_NormalOf_l0_T v22 v23 v24 s).run) s0
def spec_NormalOf_l0_E (v22 : Int) (v23 : Int) (v24 : List Int) (s : Int × Int × (List Int)) : Sd := ([tp,.ptr 0 (0 : Nat) 0 (3 : Nat),tp,tp,.own 1 0 ((s.2.2).length),.int .i64 s.1,.int .i64 s.2.1,tp,tp,tp,tp,tp,tp,tp,tp,tp,tp,tp,tp,tp,tp,tp,tp,tp,tp,tp,tp,tp,tp,tp,tp,tp,tp,tp,tp,tp,tp,tp,tp,tp,tp,tp,tp,tp,tp,tp,tp,tp,tp,tp,tp,tp,tp,tp,tp,tp,tp,tp,tp,tp,tp,tp,tp,tp,tp,tp,tp,tp,tp,tp,tp,tp,tp,tp,tp,tp,tp,tp], [.gen [.int .i64 v22, .int .i64 v23, .bslc (BR.root 0) (.i64 v24)] false 0, .row (.i64 s.2.2) 0])
def spec_NormalOf_l0_X (v22 : Int) (v23 : Int) (v24 : List Int) (x : (List Int)) : Out := (.normal, [tp,tp,tp,tp,.own 0 0 ((x).length),tp,tp,tp,tp,tp,tp,tp,tp,tp,tp,tp,tp,tp,tp,tp,tp,tp,tp,tp,tp,tp,tp,tp,tp,tp,tp,tp,tp,tp,tp,tp,tp,tp,tp,tp,tp,tp,tp,tp,tp,tp,tp,tp,tp,tp,tp,tp,tp,tp,tp,tp,tp,tp,tp,tp,tp,tp,tp,tp,tp,tp,tp,tp,tp,tp,tp,tp,tp,tp,tp,tp,tp,tp], [.row (.i64 x) 0])
def spec_NormalOf_l0_kill : List Nat := KL true [1,1,2,3,71]
def spec_NormalOf_l0_nx : Exit → List Nat
  | .exit 0 => KL true [4,1,73]
  | .ret => KL true [2,2,74]
  | _ => []
noncomputable def spec_NormalOf_LO (v22 : Int) (v23 : Int) (v24 : List Int) : LOr := fun id e L =>
  match id with
  | 4 => .need (normA 0 spec_NormalOf_l4_kill e L = some (spec_NormalOf_l4_E v22 v23 v24 (gI (vAt e 5)) (gI (vAt e 6)) (gI (vAt e 10)) (gRI L (vAt e 4)) (gPI L (vAt e 8) 0) (gX L (vAt e 8) 0) (gPI L (vAt e 9) 0) (gX L (vAt e 9) 0) ((gI (vAt e 7)), (gI (vAt e 11))))) (.call (spec_NormalOf_l4_g v22 v23 v24 (gI (vAt e 5)) (gI (vAt e 6)) (gI (vAt e 10)) (gRI L (vAt e 4)) (gPI L (vAt e 8) 0) (gX L (vAt e 8) 0) (gPI L (vAt e 9) 0) (gX L (vAt e 9) 0) ((gI (vAt e 7)), (gI (vAt e 11)))) fun x => .leaf (spec_NormalOf_l4_X v22 v23 v24 (gI (vAt e 5)) (gI (vAt e 6)) (gI (vAt e 10)) (gRI L (vAt e 4)) (gPI L (vAt e 8) 0) (gX L (vAt e 8) 0) (gPI L (vAt e 9) 0) (gX L (vAt e 9) 0) x))
  | 2 => .need (normA 0 spec_NormalOf_l2_kill e L = some (spec_NormalOf_l2_E v22 v23 v24 (gI (vAt e 5)) (gI (vAt e 6)) (gRI L (vAt e 4)) (gPI L (vAt e 8) 0) (gX L (vAt e 8) 0) (gPI L (vAt e 9) 0) (gX L (vAt e 9) 0) ((gI (vAt e 7)), (gI (vAt e 10))))) (.call (spec_NormalOf_l2_g v22 v23 v24 (gI (vAt e 5)) (gI (vAt e 6)) (gRI L (vAt e 4)) (gPI L (vAt e 8) 0) (gX L (vAt e 8) 0) (gPI L (vAt e 9) 0) (gX L (vAt e 9) 0) ((gI (vAt e 7)), (gI (vAt e 10)))) fun x => .leaf (spec_NormalOf_l2_X v22 v23 v24 (gI (vAt e 5)) (gI (vAt e 6)) (gRI L (vAt e 4)) (gPI L (vAt e 8) 0) (gX L (vAt e 8) 0) (gPI L (vAt e 9) 0) (gX L (vAt e 9) 0) x))
  | 0 => .need (normA 0 spec_NormalOf_l0_kill e L = some (spec_NormalOf_l0_E v22 v23 v24 ((gI (vAt e 5)), (gI (vAt e 6)), (gRI L (vAt e 4))))) (.call (spec_NormalOf_l0_g v22 v23 v24 ((gI (vAt e 5)), (gI (vAt e 6)), (gRI L (vAt e 4)))) fun x => .leaf (spec_NormalOf_l0_X v22 v23 v24 x))
  | _ => .fail
noncomputable def spec_NormalOf_tab : List (FuncId × DFn × Bool) := [(71, spec_l06Low_F, true), (72, spec_l00Min_F, true), (73, spec_l06Choices_F, true), (75, spec_l06Minor_F, true), (74, spec_l06Gcd_F, true)]
theorem spec_NormalOf_hO : OrcOk Try.prog (tabD spec_NormalOf_tab) (tabM spec_NormalOf_tab) := tabD_cons spec_l06Low_Fok (tabD_cons spec_l00Min_Fok (tabD_cons spec_l06Choices_Fok (tabD_cons spec_l06Minor_Fok (tabD_cons spec_l06Gcd_Fok (tabD_nil _)))))
theorem spec_NormalOf_l4_be (v22 : Int) (v23 : Int) (v24 : List Int) (v633 : Int) (v634 : Int) (v636 : Int) (v638 : List Int) (v639 : List (List Int)) (v640 : List Nat) (v641 : List (List Int)) (v642 : List Nat) (s : Int × Int) : bodyT TT (tabD spec_NormalOf_tab) (tabM spec_NormalOf_tab) (spec_NormalOf_LO v22 v23 v24) 0 spec_NormalOf_l4_kill spec_NormalOf_l4_nx (bodyOf Try.f31 4) 4 (spec_NormalOf_l4_E v22 v23 v24 v633 v634 v636 v638 v639 v640 v641 v642 s) = (spec_NormalOf_l4_T v22 v23 v24 v633 v634 v636 v638 v639 v640 v641 v642 s).bind fun y => .leaf (outS (spec_NormalOf_l4_E v22 v23 v24 v633 v634 v636 v638 v639 v640 v641 v642) (spec_NormalOf_l4_X v22 v23 v24 v633 v634 v636 v638 v639 v640 v641 v642) y) := by kernel_rfl
theorem spec_NormalOf_l4_ok (v22 : Int) (v23 : Int) (v24 : List Int) : LSound Try.prog 0 (spec_NormalOf_LO v22 v23 v24) 4 (bodyOf Try.f31 4) := by
  intro e L out h
  exact lo_ok (E := spec_NormalOf_l4_E v22 v23 v24 (gI (vAt e 5)) (gI (vAt e 6)) (gI (vAt e 10)) (gRI L (vAt e 4)) (gPI L (vAt e 8) 0) (gX L (vAt e 8) 0) (gPI L (vAt e 9) 0) (gX L (vAt e 9) 0)) (gT := spec_NormalOf_l4_T v22 v23 v24 (gI (vAt e 5)) (gI (vAt e 6)) (gI (vAt e 10)) (gRI L (vAt e 4)) (gPI L (vAt e 8) 0) (gX L (vAt e 8) 0) (gPI L (vAt e 9) 0) (gX L (vAt e 9) 0)) (X := spec_NormalOf_l4_X v22 v23 v24 (gI (vAt e 5)) (gI (vAt e 6)) (gI (vAt e 10)) (gRI L (vAt e 4)) (gPI L (vAt e 8) 0) (gX L (vAt e 8) 0) (gPI L (vAt e 9) 0) (gX L (vAt e 9) 0)) (s0 := ((gI (vAt e 7)), (gI (vAt e 11)))) tok spec_NormalOf_hO mixed (LoopsOk_eq (l := []) (by kernel_rfl) trivial) (spec_NormalOf_l4_be v22 v23 v24 (gI (vAt e 5)) (gI (vAt e 6)) (gI (vAt e 10)) (gRI L (vAt e 4)) (gPI L (vAt e 8) 0) (gX L (vAt e 8) 0) (gPI L (vAt e 9) 0) (gX L (vAt e 9) 0)) rfl (by intro x; rfl) h
theorem spec_NormalOf_l2_be (v22 : Int) (v23 : Int) (v24 : List Int) (v600 : Int) (v601 : Int) (v604 : List Int) (v605 : List (List Int)) (v606 : List Nat) (v607 : List (List Int)) (v608 : List Nat) (s : Int × Int) : bodyT TT (tabD spec_NormalOf_tab) (tabM spec_NormalOf_tab) (spec_NormalOf_LO v22 v23 v24) 0 spec_NormalOf_l2_kill spec_NormalOf_l2_nx (bodyOf Try.f31 2) 2 (spec_NormalOf_l2_E v22 v23 v24 v600 v601 v604 v605 v606 v607 v608 s) = (spec_NormalOf_l2_T v22 v23 v24 v600 v601 v604 v605 v606 v607 v608 s).bind fun y => .leaf (outS (spec_NormalOf_l2_E v22 v23 v24 v600 v601 v604 v605 v606 v607 v608) (spec_NormalOf_l2_X v22 v23 v24 v600 v601 v604 v605 v606 v607 v608) y) := by kernel_rfl
theorem spec_NormalOf_l2_ok (v22 : Int) (v23 : Int) (v24 : List Int) : LSound Try.prog 0 (spec_NormalOf_LO v22 v23 v24) 2 (bodyOf Try.f31 2) := by
  intro e L out h
  exact lo_ok (E := spec_NormalOf_l2_E v22 v23 v24 (gI (vAt e 5)) (gI (vAt e 6)) (gRI L (vAt e 4)) (gPI L (vAt e 8) 0) (gX L (vAt e 8) 0) (gPI L (vAt e 9) 0) (gX L (vAt e 9) 0)) (gT := spec_NormalOf_l2_T v22 v23 v24 (gI (vAt e 5)) (gI (vAt e 6)) (gRI L (vAt e 4)) (gPI L (vAt e 8) 0) (gX L (vAt e 8) 0) (gPI L (vAt e 9) 0) (gX L (vAt e 9) 0)) (X := spec_NormalOf_l2_X v22 v23 v24 (gI (vAt e 5)) (gI (vAt e 6)) (gRI L (vAt e 4)) (gPI L (vAt e 8) 0) (gX L (vAt e 8) 0) (gPI L (vAt e 9) 0) (gX L (vAt e 9) 0)) (s0 := ((gI (vAt e 7)), (gI (vAt e 10)))) tok spec_NormalOf_hO mixed (LoopsOk_eq (l := [(4, bodyOf Try.f31 4)]) (by kernel_rfl) ⟨spec_NormalOf_l4_ok v22 v23 v24, trivial⟩) (spec_NormalOf_l2_be v22 v23 v24 (gI (vAt e 5)) (gI (vAt e 6)) (gRI L (vAt e 4)) (gPI L (vAt e 8) 0) (gX L (vAt e 8) 0) (gPI L (vAt e 9) 0) (gX L (vAt e 9) 0)) rfl (by intro x; rfl) h
theorem spec_NormalOf_l0_be (v22 : Int) (v23 : Int) (v24 : List Int) (s : Int × Int × (List Int)) : bodyT TT (tabD spec_NormalOf_tab) (tabM spec_NormalOf_tab) (spec_NormalOf_LO v22 v23 v24) 0 spec_NormalOf_l0_kill spec_NormalOf_l0_nx (bodyOf Try.f31 0) 0 (spec_NormalOf_l0_E v22 v23 v24 s) = (spec_NormalOf_l0_T v22 v23 v24 s).bind fun y => .leaf (outS (spec_NormalOf_l0_E v22 v23 v24) (spec_NormalOf_l0_X v22 v23 v24) y) := by kernel_rfl
theorem spec_NormalOf_l0_ok (v22 : Int) (v23 : Int) (v24 : List Int) : LSound Try.prog 0 (spec_NormalOf_LO v22 v23 v24) 0 (bodyOf Try.f31 0) := by
  intro e L out h
  exact lo_ok (E := spec_NormalOf_l0_E v22 v23 v24) (gT := spec_NormalOf_l0_T v22 v23 v24) (X := spec_NormalOf_l0_X v22 v23 v24) (s0 := ((gI (vAt e 5)), (gI (vAt e 6)), (gRI L (vAt e 4)))) tok spec_NormalOf_hO mixed (LoopsOk_eq (l := [(2, bodyOf Try.f31 2)]) (by kernel_rfl) ⟨spec_NormalOf_l2_ok v22 v23 v24, trivial⟩) (spec_NormalOf_l0_be v22 v23 v24) rfl (by intro x; rfl) h
noncomputable def spec_NormalOf_T (v22 : Int) (v23 : Int) (v24 : List Int) : Tree ((Unit) ⊕ ((List Int))) :=
  (.call (spec_l06Low_g v22 v23 v24) fun v45 =>
  (.br (!v45) (
   .leaf (.inl ())
  ) (
   (.br (decide ((4 : Int) < v22)) (
    .leaf (.inl ())
   ) (
    (.br (decide ((4 : Int) < v23)) (
     .leaf (.inl ())
    ) (
     (.need (some (spec_NormalOf_l0_E v22 v23 v24 ((1 : Int), (1 : Int), ([] : List Int))) = some (spec_NormalOf_l0_E v22 v23 v24 ((1 : Int), (1 : Int), ([] : List Int)))) <|
     (.call (spec_NormalOf_l0_g v22 v23 v24 ((1 : Int), (1 : Int), ([] : List Int))) fun v647 =>
     .leaf (.inr v647)))
    ))
   ))
  )))

noncomputable def spec_NormalOf_g (v22 : Int) (v23 : Int) (v24 : List Int) : Option ((Unit) ⊕ ((List Int))) := (spec_NormalOf_T v22 v23 v24).run
def spec_NormalOf_enc (v22 : Int) (v23 : Int) (v24 : List Int) (y : (Unit) ⊕ ((List Int))) : Rs := (match y with | .inl y => (.tup [.nilslc, .lit false], []) | .inr y => (.tup [.own 0 0 ((y).length), .lit true], [.row (.i64 y) 0]))
theorem spec_NormalOf_den (v22 : Int) (v23 : Int) (v24 : List Int) : (den TT (tabD spec_NormalOf_tab) (tabM spec_NormalOf_tab) (spec_NormalOf_LO v22 v23 v24) (codeOf Try.f31) ([.agg [.int .i64 v22, .int .i64 v23, .bslc (BR.root 0) (.i64 v24)]] ++ List.replicate (Try.f31.ntmps - ([.agg [.int .i64 v22, .int .i64 v23, .bslc (BR.root 0) (.i64 v24)]] : List DV).length) .undef) []).bind (retD TT Try.f31.results.toList 0) = (spec_NormalOf_T v22 v23 v24).bind fun y => .leaf (spec_NormalOf_enc v22 v23 v24 y) := by kernel_rfl
theorem spec_NormalOf_fn (v22 : Int) (v23 : Int) (v24 : List Int) (F : Fr) (h0 : St F [] F.H0) (hA : DVs.Ok F [] [.agg [.int .i64 v22, .int .i64 v23, .bslc (BR.root 0) (.i64 v24)]]) {y : (Unit) ⊕ ((List Int))} (hy : spec_NormalOf_g v22 v23 v24 = some y) : ∃ F' H', Fwd 0 F F' [] (spec_NormalOf_enc v22 v23 v24 y).2 ∧ FnOk Try.prog 31 (DVs.av F [.agg [.int .i64 v22, .int .i64 v23, .bslc (BR.root 0) (.i64 v24)]]) F.H0 ((spec_NormalOf_enc v22 v23 v24 y).1.av F') H' ∧ St F' (spec_NormalOf_enc v22 v23 v24 y).2 H' ∧ (spec_NormalOf_enc v22 v23 v24 y).1.Ok F' (spec_NormalOf_enc v22 v23 v24 y).2 :=
  fn_fin tok spec_NormalOf_hO mixed Try.func31 Try.call31 (by kernel_rfl) (LoopsOk_eq (l := [(0, bodyOf Try.f31 0)]) (by kernel_rfl) ⟨spec_NormalOf_l0_ok v22 v23 v24, trivial⟩) (spec_NormalOf_den v22 v23 v24) hy h0 hA
noncomputable def spec_NormalOf_F : DFn := fun args L =>
  match args with
  | [.agg [.int .i64 v22, .int .i64 v23, a1]] =>
    optT (rowI64 L a1) fun v24 =>
    .call (spec_NormalOf_g v22 v23 v24) fun y => .sum y (fun y0 => .leaf (.tup [.nilslc, .lit false], L)) (fun z0 => .leaf (.tup [.own (L.length + 0) 0 ((z0).length), .lit true], L ++ [.row (.i64 z0) 0]))
  | _ => .fail
theorem spec_NormalOf_Fok : COk Try.prog 31 spec_NormalOf_F true := by
  intro F L H args r L' hs ha hr
  unfold spec_NormalOf_F at hr
  split at hr
  · rename_i v22 v23 a1
    obtain ⟨v24, hv24, hr⟩ := optT_run hr
    simp only [Tree.run] at hr
    obtain ⟨y, hy, hr⟩ := Option.bind_eq_some_iff.1 hr
    cases y with
    | inl y =>
      simp only [Tree.run, Option.some.injEq, Prod.mk.injEq] at hr
      obtain ⟨rfl, rfl⟩ := hr
      exact call_ok0 hs (fun k => (([a1.av F] : List AV)[k]?).getD .top) [.agg [.int .i64 v22, .int .i64 v23, a1]] [.agg [.int .i64 v22, .int .i64 v23, .bslc (BR.root 0) (.i64 v24)]] (fun F' h0 hi hρ => ⟨by simp [DVs.av, DV.av, BR.av, hρ], spec_NormalOf_fn v22 v23 v24 F' (st_nil hi) ⟨⟨trivial, trivial, bslc_ok hi (by rw [h0, hρ]; exact rowI64_ok hs (DVs.okAt (DVs.okAt ha 0 rfl) 2 rfl) hv24), trivial⟩, trivial⟩ hy⟩) rfl
    | inr y =>
      simp only [Tree.run, Option.some.injEq, Prod.mk.injEq] at hr
      obtain ⟨rfl, rfl⟩ := hr
      exact call_ok1 hs (fun k => (([a1.av F] : List AV)[k]?).getD .top) [.agg [.int .i64 v22, .int .i64 v23, a1]] [.agg [.int .i64 v22, .int .i64 v23, .bslc (BR.root 0) (.i64 v24)]] (fun F' h0 hi hρ => ⟨by simp [DVs.av, DV.av, BR.av, hρ], spec_NormalOf_fn v22 v23 v24 F' (st_nil hi) ⟨⟨trivial, trivial, bslc_ok hi (by rw [h0, hρ]; exact rowI64_ok hs (DVs.okAt (DVs.okAt ha 0 rfl) 2 rfl) hv24), trivial⟩, trivial⟩ hy⟩) rfl rfl
  · cases hr
/-! impl.inRange -/
noncomputable def impl_inRange_LO (v662 : Int) (v663 : Int) (v664 : Int) : LOr := fun id e L =>
  match id with
  | _ => .fail
noncomputable def impl_inRange_tab : List (FuncId × DFn × Bool) := []
theorem impl_inRange_hO : OrcOk Try.prog (tabD impl_inRange_tab) (tabM impl_inRange_tab) := tabD_nil _
noncomputable def impl_inRange_T (v662 : Int) (v663 : Int) (v664 : Int) : Tree (Bool) :=
  (.br (decide (v663 ≤ v662)) (
   .leaf (decide (v662 ≤ v664))
  ) (
   .leaf false
  ))

noncomputable def impl_inRange_g (v662 : Int) (v663 : Int) (v664 : Int) : Option (Bool) := (impl_inRange_T v662 v663 v664).run
def impl_inRange_enc (v662 : Int) (v663 : Int) (v664 : Int) (y : Bool) : Rs := (.bool y, [])
theorem impl_inRange_den (v662 : Int) (v663 : Int) (v664 : Int) : (den TT (tabD impl_inRange_tab) (tabM impl_inRange_tab) (impl_inRange_LO v662 v663 v664) (codeOf Try.f89) ([.int .i64 v662, .int .i64 v663, .int .i64 v664] ++ List.replicate (Try.f89.ntmps - ([.int .i64 v662, .int .i64 v663, .int .i64 v664] : List DV).length) .undef) []).bind (retD TT Try.f89.results.toList 0) = (impl_inRange_T v662 v663 v664).bind fun y => .leaf (impl_inRange_enc v662 v663 v664 y) := by kernel_rfl
theorem impl_inRange_fn (v662 : Int) (v663 : Int) (v664 : Int) (F : Fr) (h0 : St F [] F.H0) (hA : DVs.Ok F [] [.int .i64 v662, .int .i64 v663, .int .i64 v664]) {y : Bool} (hy : impl_inRange_g v662 v663 v664 = some y) : ∃ F' H', Fwd 0 F F' [] (impl_inRange_enc v662 v663 v664 y).2 ∧ FnOk Try.prog 89 (DVs.av F [.int .i64 v662, .int .i64 v663, .int .i64 v664]) F.H0 ((impl_inRange_enc v662 v663 v664 y).1.av F') H' ∧ St F' (impl_inRange_enc v662 v663 v664 y).2 H' ∧ (impl_inRange_enc v662 v663 v664 y).1.Ok F' (impl_inRange_enc v662 v663 v664 y).2 :=
  fn_fin tok impl_inRange_hO mixed Try.func89 Try.call89 (by kernel_rfl) (LoopsOk_eq (l := []) (by kernel_rfl) trivial) (impl_inRange_den v662 v663 v664) hy h0 hA
def impl_inRange_v (v662 : Int) (v663 : Int) (v664 : Int) : Bool :=
  if (decide (v663 ≤ v662)) = true then (
   decide (v662 ≤ v664)
  ) else (
   false
  )
theorem impl_inRange_tot (v662 : Int) (v663 : Int) (v664 : Int) : impl_inRange_g v662 v663 v664 = some (impl_inRange_v v662 v663 v664) := by
  unfold impl_inRange_g impl_inRange_T impl_inRange_v
  simp only [Tree.run]
  repeat' (first | rfl | split)
noncomputable def impl_inRange_F : DFn := fun args L =>
  match args with
  | [.int .i64 v662, .int .i64 v663, .int .i64 v664] =>
    .leaf (.bool (impl_inRange_v v662 v663 v664), L)
  | _ => .fail
theorem impl_inRange_Fok : COk Try.prog 89 impl_inRange_F true := by
  intro F L H args r L' hs ha hr
  unfold impl_inRange_F at hr
  split at hr
  · rename_i v662 v663 v664
    have hy := impl_inRange_tot v662 v663 v664
    generalize impl_inRange_v v662 v663 v664 = y at hy hr
    simp only [Tree.run, Option.some.injEq, Prod.mk.injEq] at hr
    obtain ⟨rfl, rfl⟩ := hr
    exact call_ok0 hs (fun k => (([] : List AV)[k]?).getD .top) [.int .i64 v662, .int .i64 v663, .int .i64 v664] [.int .i64 v662, .int .i64 v663, .int .i64 v664] (fun F' h0 hi hρ => ⟨by simp [DVs.av, DV.av, BR.av, hρ], impl_inRange_fn v662 v663 v664 F' (st_nil hi) ⟨trivial, trivial, trivial, trivial⟩ hy⟩) rfl
  · cases hr
/-! impl.length[int64] -/
noncomputable def impl_lengthI_LO (v665 : List Int) : LOr := fun id e L =>
  match id with
  | _ => .fail
noncomputable def impl_lengthI_tab : List (FuncId × DFn × Bool) := []
theorem impl_lengthI_hO : OrcOk Try.prog (tabD impl_lengthI_tab) (tabM impl_lengthI_tab) := tabD_nil _
noncomputable def impl_lengthI_T (v665 : List Int) : Tree (Int) :=
  .leaf ((v665.length : Nat) : Int)

noncomputable def impl_lengthI_g (v665 : List Int) : Option (Int) := (impl_lengthI_T v665).run
def impl_lengthI_enc (v665 : List Int) (y : Int) : Rs := (.int .i64 y, [])
theorem impl_lengthI_den (v665 : List Int) : (den TT (tabD impl_lengthI_tab) (tabM impl_lengthI_tab) (impl_lengthI_LO v665) (codeOf Try.f65) ([.bslc (BR.root 0) (.i64 v665)] ++ List.replicate (Try.f65.ntmps - ([.bslc (BR.root 0) (.i64 v665)] : List DV).length) .undef) []).bind (retD TT Try.f65.results.toList 0) = (impl_lengthI_T v665).bind fun y => .leaf (impl_lengthI_enc v665 y) := by kernel_rfl
theorem impl_lengthI_fn (v665 : List Int) (F : Fr) (h0 : St F [] F.H0) (hA : DVs.Ok F [] [.bslc (BR.root 0) (.i64 v665)]) {y : Int} (hy : impl_lengthI_g v665 = some y) : ∃ F' H', Fwd 0 F F' [] (impl_lengthI_enc v665 y).2 ∧ FnOk Try.prog 65 (DVs.av F [.bslc (BR.root 0) (.i64 v665)]) F.H0 ((impl_lengthI_enc v665 y).1.av F') H' ∧ St F' (impl_lengthI_enc v665 y).2 H' ∧ (impl_lengthI_enc v665 y).1.Ok F' (impl_lengthI_enc v665 y).2 :=
  fn_fin tok impl_lengthI_hO mixed Try.func65 Try.call65 (by kernel_rfl) (LoopsOk_eq (l := []) (by kernel_rfl) trivial) (impl_lengthI_den v665) hy h0 hA
def impl_lengthI_v (v665 : List Int) : Int :=
  ((v665.length : Nat) : Int)
theorem impl_lengthI_tot (v665 : List Int) : impl_lengthI_g v665 = some (impl_lengthI_v v665) := by
  unfold impl_lengthI_g impl_lengthI_T impl_lengthI_v
  simp only [Tree.run]
  repeat' (first | rfl | split)
noncomputable def impl_lengthI_F : DFn := fun args L =>
  match args with
  | [a1] =>
    optT (rowI64 L a1) fun v665 =>
    .leaf (.int .i64 (impl_lengthI_v v665), L)
  | _ => .fail
theorem impl_lengthI_Fok : COk Try.prog 65 impl_lengthI_F true := by
  intro F L H args r L' hs ha hr
  unfold impl_lengthI_F at hr
  split at hr
  · rename_i a1
    obtain ⟨v665, hv665, hr⟩ := optT_run hr
    have hy := impl_lengthI_tot v665
    generalize impl_lengthI_v v665 = y at hy hr
    simp only [Tree.run, Option.some.injEq, Prod.mk.injEq] at hr
    obtain ⟨rfl, rfl⟩ := hr
    exact call_ok0 hs (fun k => (([a1.av F] : List AV)[k]?).getD .top) [a1] [.bslc (BR.root 0) (.i64 v665)] (fun F' h0 hi hρ => ⟨by simp [DVs.av, DV.av, BR.av, hρ], impl_lengthI_fn v665 F' (st_nil hi) ⟨bslc_ok hi (by rw [h0, hρ]; exact rowI64_ok hs (DVs.okAt ha 0 rfl) hv665), trivial⟩ hy⟩) rfl
  · cases hr
/-! impl.allIn$1 -/
noncomputable def impl_allIn_1_LO (v676 : Int) (v677 : Int) (v678 : Int) : LOr := fun id e L =>
  match id with
  | _ => .fail
noncomputable def impl_allIn_1_tab : List (FuncId × DFn × Bool) := [(89, impl_inRange_F, true)]
theorem impl_allIn_1_hO : OrcOk Try.prog (tabD impl_allIn_1_tab) (tabM impl_allIn_1_tab) := tabD_cons impl_inRange_Fok (tabD_nil _)
noncomputable def impl_allIn_1_T (v676 : Int) (v677 : Int) (v678 : Int) : Tree (Bool) :=
  .leaf (!(impl_inRange_v v676 v677 v678))

noncomputable def impl_allIn_1_g (v676 : Int) (v677 : Int) (v678 : Int) : Option (Bool) := (impl_allIn_1_T v676 v677 v678).run
def impl_allIn_1_enc (v676 : Int) (v677 : Int) (v678 : Int) (y : Bool) : Rs := (.bool y, [])
theorem impl_allIn_1_den (v676 : Int) (v677 : Int) (v678 : Int) : (den TT (tabD impl_allIn_1_tab) (tabM impl_allIn_1_tab) (impl_allIn_1_LO v676 v677 v678) (codeOf Try.f129) ([.int .i64 v676, .bptr (BR.root 0) [.int .i64 v677], .bptr (BR.root 1) [.int .i64 v678]] ++ List.replicate (Try.f129.ntmps - ([.int .i64 v676, .bptr (BR.root 0) [.int .i64 v677], .bptr (BR.root 1) [.int .i64 v678]] : List DV).length) .undef) []).bind (retD TT Try.f129.results.toList 0) = (impl_allIn_1_T v676 v677 v678).bind fun y => .leaf (impl_allIn_1_enc v676 v677 v678 y) := by kernel_rfl
theorem impl_allIn_1_fn (v676 : Int) (v677 : Int) (v678 : Int) (F : Fr) (h0 : St F [] F.H0) (hA : DVs.Ok F [] [.int .i64 v676, .bptr (BR.root 0) [.int .i64 v677], .bptr (BR.root 1) [.int .i64 v678]]) {y : Bool} (hy : impl_allIn_1_g v676 v677 v678 = some y) : ∃ F' H', Fwd 0 F F' [] (impl_allIn_1_enc v676 v677 v678 y).2 ∧ FnOk Try.prog 129 (DVs.av F [.int .i64 v676, .bptr (BR.root 0) [.int .i64 v677], .bptr (BR.root 1) [.int .i64 v678]]) F.H0 ((impl_allIn_1_enc v676 v677 v678 y).1.av F') H' ∧ St F' (impl_allIn_1_enc v676 v677 v678 y).2 H' ∧ (impl_allIn_1_enc v676 v677 v678 y).1.Ok F' (impl_allIn_1_enc v676 v677 v678 y).2 :=
  fn_fin tok impl_allIn_1_hO mixed Try.func129 Try.call129 (by kernel_rfl) (LoopsOk_eq (l := []) (by kernel_rfl) trivial) (impl_allIn_1_den v676 v677 v678) hy h0 hA
def impl_allIn_1_v (v676 : Int) (v677 : Int) (v678 : Int) : Bool :=
  !(impl_inRange_v v676 v677 v678)
theorem impl_allIn_1_tot (v676 : Int) (v677 : Int) (v678 : Int) : impl_allIn_1_g v676 v677 v678 = some (impl_allIn_1_v v676 v677 v678) := by
  unfold impl_allIn_1_g impl_allIn_1_T impl_allIn_1_v
  simp only [Tree.run]
  repeat' (first | rfl | split)
noncomputable def impl_allIn_1_F : DFn := fun args L =>
  match args with
  | [.int .i64 v676, a1, a2] =>
    optT (cellsOf L 1 a1) fun cs0 =>
    (match cs0 with
    | [.int .i64 v677] =>
    optT (cellsOf L 1 a2) fun cs1 =>
    (match cs1 with
    | [.int .i64 v678] =>
    .leaf (.bool (impl_allIn_1_v v676 v677 v678), L)
    | _ => .fail)
    | _ => .fail)
  | _ => .fail
theorem impl_allIn_1_Fok : COk Try.prog 129 impl_allIn_1_F true := by
  intro F L H args r L' hs ha hr
  unfold impl_allIn_1_F at hr
  split at hr
  · rename_i v676 a1 a2
    obtain ⟨cs0, hcp0, hr⟩ := optT_run hr
    split at hr
    · rename_i v677
      obtain ⟨cs1, hcp1, hr⟩ := optT_run hr
      split at hr
      · rename_i v678
        have hy := impl_allIn_1_tot v676 v677 v678
        generalize impl_allIn_1_v v676 v677 v678 = y at hy hr
        simp only [Tree.run, Option.some.injEq, Prod.mk.injEq] at hr
        obtain ⟨rfl, rfl⟩ := hr
        exact call_ok0 hs (fun k => (([a1.av F, a2.av F] : List AV)[k]?).getD .top) [.int .i64 v676, a1, a2] [.int .i64 v676, .bptr (BR.root 0) [.int .i64 v677], .bptr (BR.root 1) [.int .i64 v678]] (fun F' h0 hi hρ => ⟨by simp [DVs.av, DV.av, BR.av, hρ], impl_allIn_1_fn v676 v677 v678 F' (st_nil hi) ⟨trivial, bptr_ok hi (by rw [h0]; simpa [DVs.av, DV.av, BR.av, hρ] using (cellsOf_ok hs (DVs.okAt ha 1 rfl) hcp0).1) ⟨trivial, trivial⟩, bptr_ok hi (by rw [h0]; simpa [DVs.av, DV.av, BR.av, hρ] using (cellsOf_ok hs (DVs.okAt ha 2 rfl) hcp1).1) ⟨trivial, trivial⟩, trivial⟩ hy⟩) rfl
      · cases hr
    · cases hr
  · cases hr
/-! slices.IndexFunc[list of int64,int64] -/
noncomputable def slices_IndexFuncI_l0_T (v672 : List Int) (v673 : Int) (v674 : Int) (s : Int) : Tree ((Int) ⊕ ((Int) ⊕ (Unit))) :=
  (.br (decide (s < ((v672.length : Nat) : Int))) (
   (.grd (inb s v672.length) <|
   (.br (impl_allIn_1_v (nth v672 (Int.toNat s)) v673 v674) (
    .leaf (.inr (.inl s))
   ) (
    .leaf (.inl (IntKind.i64.wrap (s + (1 : Int))))
   )))
  ) (
   .leaf (.inr (.inr ()))
  ))

noncomputable def slices_IndexFuncI_l0_g (v672 : List Int) (v673 : Int) (v674 : Int) (s0 : Int) : Option ((Int) ⊕ (Unit)) := whileM (fun s => (slices_IndexFuncI_l0_T v672 v673 v674 s).run) s0
def slices_IndexFuncI_l0_E (v672 : List Int) (v673 : Int) (v674 : Int) (s : Int) : Sd := ([.bslc (BR.root 0) (.i64 v672),.fn 129 [.bptr (BR.root 1) [.int .i64 v673], .bptr (BR.root 2) [.int .i64 v674]],tp,tp,tp,tp,tp,.int .i64 ((v672.length : Nat) : Int),.int .i64 s,tp,tp,tp,tp,tp,tp,tp,tp,tp,tp], [])
def slices_IndexFuncI_l0_X (v672 : List Int) (v673 : Int) (v674 : Int) (x : (Int) ⊕ (Unit)) : Out := (match x with | .inl x => (.ret, [tp,tp,tp,tp,.int .i64 x,tp,tp,tp,tp,tp,tp,tp,tp,tp,tp,tp,tp,tp,tp], []) | .inr x => (.normal, [tp,tp,tp,tp,tp,tp,tp,tp,tp,tp,tp,tp,tp,tp,tp,tp,tp,tp,tp], []))
def slices_IndexFuncI_l0_kill : List Nat := KL true [0,2,5,2,10]
def slices_IndexFuncI_l0_nx : Exit → List Nat
  | .exit 0 => KL true [19]
  | .ret => KL true [4,1,14]
  | _ => []
noncomputable def slices_IndexFuncI_LO (v672 : List Int) (v673 : Int) (v674 : Int) : LOr := fun id e L =>
  match id with
  | 0 => .need (normA 0 slices_IndexFuncI_l0_kill e L = some (slices_IndexFuncI_l0_E v672 v673 v674 (gI (vAt e 8)))) (.call (slices_IndexFuncI_l0_g v672 v673 v674 (gI (vAt e 8))) fun x => .sum x (fun b0 => .leaf (slices_IndexFuncI_l0_X v672 v673 v674 (.inl b0))) (fun c0 => .leaf (slices_IndexFuncI_l0_X v672 v673 v674 (.inr c0))))
  | _ => .fail
noncomputable def slices_IndexFuncI_tab : List (FuncId × DFn × Bool) := [(129, impl_allIn_1_F, true)]
theorem slices_IndexFuncI_hO : OrcOk Try.prog (tabD slices_IndexFuncI_tab) (tabM slices_IndexFuncI_tab) := tabD_cons impl_allIn_1_Fok (tabD_nil _)
theorem slices_IndexFuncI_l0_be (v672 : List Int) (v673 : Int) (v674 : Int) (s : Int) : bodyT TT (tabD slices_IndexFuncI_tab) (tabM slices_IndexFuncI_tab) (slices_IndexFuncI_LO v672 v673 v674) 0 slices_IndexFuncI_l0_kill slices_IndexFuncI_l0_nx (bodyOf Try.f157 0) 0 (slices_IndexFuncI_l0_E v672 v673 v674 s) = (slices_IndexFuncI_l0_T v672 v673 v674 s).bind fun y => .leaf (outS (slices_IndexFuncI_l0_E v672 v673 v674) (slices_IndexFuncI_l0_X v672 v673 v674) y) := by kernel_rfl
theorem slices_IndexFuncI_l0_ok (v672 : List Int) (v673 : Int) (v674 : Int) : LSound Try.prog 0 (slices_IndexFuncI_LO v672 v673 v674) 0 (bodyOf Try.f157 0) := by
  intro e L out h
  exact lo_ok (E := slices_IndexFuncI_l0_E v672 v673 v674) (gT := slices_IndexFuncI_l0_T v672 v673 v674) (X := slices_IndexFuncI_l0_X v672 v673 v674) (s0 := (gI (vAt e 8))) tok slices_IndexFuncI_hO mixed (LoopsOk_eq (l := []) (by kernel_rfl) trivial) (slices_IndexFuncI_l0_be v672 v673 v674) rfl (by intro x; (cases x with | inl b => rfl | inr x => exact rfl)) h
noncomputable def slices_IndexFuncI_T (v672 : List Int) (v673 : Int) (v674 : Int) : Tree (Int) :=
  (.need (some (slices_IndexFuncI_l0_E v672 v673 v674 (0 : Int)) = some (slices_IndexFuncI_l0_E v672 v673 v674 (0 : Int))) <|
  (.call (slices_IndexFuncI_l0_g v672 v673 v674 (0 : Int)) fun v681 =>
  (.sum v681 (fun v682 =>
   .leaf v682
  ) (fun v683 =>
   .leaf (-1 : Int)
  ))))

noncomputable def slices_IndexFuncI_g (v672 : List Int) (v673 : Int) (v674 : Int) : Option (Int) := (slices_IndexFuncI_T v672 v673 v674).run
def slices_IndexFuncI_enc (v672 : List Int) (v673 : Int) (v674 : Int) (y : Int) : Rs := (.int .i64 y, [])
theorem slices_IndexFuncI_den (v672 : List Int) (v673 : Int) (v674 : Int) : (den TT (tabD slices_IndexFuncI_tab) (tabM slices_IndexFuncI_tab) (slices_IndexFuncI_LO v672 v673 v674) (codeOf Try.f157) ([.bslc (BR.root 0) (.i64 v672), .fn 129 [.bptr (BR.root 1) [.int .i64 v673], .bptr (BR.root 2) [.int .i64 v674]]] ++ List.replicate (Try.f157.ntmps - ([.bslc (BR.root 0) (.i64 v672), .fn 129 [.bptr (BR.root 1) [.int .i64 v673], .bptr (BR.root 2) [.int .i64 v674]]] : List DV).length) .undef) []).bind (retD TT Try.f157.results.toList 0) = (slices_IndexFuncI_T v672 v673 v674).bind fun y => .leaf (slices_IndexFuncI_enc v672 v673 v674 y) := by kernel_rfl
theorem slices_IndexFuncI_fn (v672 : List Int) (v673 : Int) (v674 : Int) (F : Fr) (h0 : St F [] F.H0) (hA : DVs.Ok F [] [.bslc (BR.root 0) (.i64 v672), .fn 129 [.bptr (BR.root 1) [.int .i64 v673], .bptr (BR.root 2) [.int .i64 v674]]]) {y : Int} (hy : slices_IndexFuncI_g v672 v673 v674 = some y) : ∃ F' H', Fwd 0 F F' [] (slices_IndexFuncI_enc v672 v673 v674 y).2 ∧ FnOk Try.prog 157 (DVs.av F [.bslc (BR.root 0) (.i64 v672), .fn 129 [.bptr (BR.root 1) [.int .i64 v673], .bptr (BR.root 2) [.int .i64 v674]]]) F.H0 ((slices_IndexFuncI_enc v672 v673 v674 y).1.av F') H' ∧ St F' (slices_IndexFuncI_enc v672 v673 v674 y).2 H' ∧ (slices_IndexFuncI_enc v672 v673 v674 y).1.Ok F' (slices_IndexFuncI_enc v672 v673 v674 y).2 :=
  fn_fin tok slices_IndexFuncI_hO mixed Try.func157 Try.call157 (by kernel_rfl) (LoopsOk_eq (l := [(0, bodyOf Try.f157 0)]) (by kernel_rfl) ⟨slices_IndexFuncI_l0_ok v672 v673 v674, trivial⟩) (slices_IndexFuncI_den v672 v673 v674) hy h0 hA
noncomputable def slices_IndexFuncI_F : DFn := fun args L =>
  match args with
  | [a1, .fn 129 [a2, a3]] =>
    optT (rowI64 L a1) fun v672 =>
    optT (cellsOf L 1 a2) fun cs1 =>
    (match cs1 with
    | [.int .i64 v673] =>
    optT (cellsOf L 1 a3) fun cs2 =>
    (match cs2 with
    | [.int .i64 v674] =>
    .call (slices_IndexFuncI_g v672 v673 v674) fun y => .leaf (.int .i64 y, L)
    | _ => .fail)
    | _ => .fail)
  | _ => .fail
theorem slices_IndexFuncI_Fok : COk Try.prog 157 slices_IndexFuncI_F true := by
  intro F L H args r L' hs ha hr
  unfold slices_IndexFuncI_F at hr
  split at hr
  · rename_i a1 a2 a3
    obtain ⟨v672, hv672, hr⟩ := optT_run hr
    obtain ⟨cs1, hcp1, hr⟩ := optT_run hr
    split at hr
    · rename_i v673
      obtain ⟨cs2, hcp2, hr⟩ := optT_run hr
      split at hr
      · rename_i v674
        simp only [Tree.run] at hr
        obtain ⟨y, hy, hr⟩ := Option.bind_eq_some_iff.1 hr
        simp only [Tree.run, Option.some.injEq, Prod.mk.injEq] at hr
        obtain ⟨rfl, rfl⟩ := hr
        exact call_ok0 hs (fun k => (([a1.av F, a2.av F, a3.av F] : List AV)[k]?).getD .top) [a1, .fn 129 [a2, a3]] [.bslc (BR.root 0) (.i64 v672), .fn 129 [.bptr (BR.root 1) [.int .i64 v673], .bptr (BR.root 2) [.int .i64 v674]]] (fun F' h0 hi hρ => ⟨by simp [DVs.av, DV.av, BR.av, hρ], slices_IndexFuncI_fn v672 v673 v674 F' (st_nil hi) ⟨bslc_ok hi (by rw [h0, hρ]; exact rowI64_ok hs (DVs.okAt ha 0 rfl) hv672), ⟨bptr_ok hi (by rw [h0]; simpa [DVs.av, DV.av, BR.av, hρ] using (cellsOf_ok hs (DVs.okAt (DVs.okAt ha 1 rfl) 0 rfl) hcp1).1) ⟨trivial, trivial⟩, bptr_ok hi (by rw [h0]; simpa [DVs.av, DV.av, BR.av, hρ] using (cellsOf_ok hs (DVs.okAt (DVs.okAt ha 1 rfl) 1 rfl) hcp2).1) ⟨trivial, trivial⟩, trivial⟩, trivial⟩ hy⟩) rfl
      · cases hr
    · cases hr
  · cases hr
/-! slices.ContainsFunc[list of int64,int64] -/
noncomputable def slices_ContainsFuncI_LO (v669 : List Int) (v670 : Int) (v671 : Int) : LOr := fun id e L =>
  match id with
  | _ => .fail
noncomputable def slices_ContainsFuncI_tab : List (FuncId × DFn × Bool) := [(157, slices_IndexFuncI_F, true)]
theorem slices_ContainsFuncI_hO : OrcOk Try.prog (tabD slices_ContainsFuncI_tab) (tabM slices_ContainsFuncI_tab) := tabD_cons slices_IndexFuncI_Fok (tabD_nil _)
noncomputable def slices_ContainsFuncI_T (v669 : List Int) (v670 : Int) (v671 : Int) : Tree (Bool) :=
  (.call (slices_IndexFuncI_g v669 v670 v671) fun v684 =>
  .leaf (decide ((0 : Int) ≤ v684)))

noncomputable def slices_ContainsFuncI_g (v669 : List Int) (v670 : Int) (v671 : Int) : Option (Bool) := (slices_ContainsFuncI_T v669 v670 v671).run
def slices_ContainsFuncI_enc (v669 : List Int) (v670 : Int) (v671 : Int) (y : Bool) : Rs := (.bool y, [])
theorem slices_ContainsFuncI_den (v669 : List Int) (v670 : Int) (v671 : Int) : (den TT (tabD slices_ContainsFuncI_tab) (tabM slices_ContainsFuncI_tab) (slices_ContainsFuncI_LO v669 v670 v671) (codeOf Try.f128) ([.bslc (BR.root 0) (.i64 v669), .fn 129 [.bptr (BR.root 1) [.int .i64 v670], .bptr (BR.root 2) [.int .i64 v671]]] ++ List.replicate (Try.f128.ntmps - ([.bslc (BR.root 0) (.i64 v669), .fn 129 [.bptr (BR.root 1) [.int .i64 v670], .bptr (BR.root 2) [.int .i64 v671]]] : List DV).length) .undef) []).bind (retD TT Try.f128.results.toList 0) = (slices_ContainsFuncI_T v669 v670 v671).bind fun y => .leaf (slices_ContainsFuncI_enc v669 v670 v671 y) := by kernel_rfl
theorem slices_ContainsFuncI_fn (v669 : List Int) (v670 : Int) (v671 : Int) (F : Fr) (h0 : St F [] F.H0) (hA : DVs.Ok F [] [.bslc (BR.root 0) (.i64 v669), .fn 129 [.bptr (BR.root 1) [.int .i64 v670], .bptr (BR.root 2) [.int .i64 v671]]]) {y : Bool} (hy : slices_ContainsFuncI_g v669 v670 v671 = some y) : ∃ F' H', Fwd 0 F F' [] (slices_ContainsFuncI_enc v669 v670 v671 y).2 ∧ FnOk Try.prog 128 (DVs.av F [.bslc (BR.root 0) (.i64 v669), .fn 129 [.bptr (BR.root 1) [.int .i64 v670], .bptr (BR.root 2) [.int .i64 v671]]]) F.H0 ((slices_ContainsFuncI_enc v669 v670 v671 y).1.av F') H' ∧ St F' (slices_ContainsFuncI_enc v669 v670 v671 y).2 H' ∧ (slices_ContainsFuncI_enc v669 v670 v671 y).1.Ok F' (slices_ContainsFuncI_enc v669 v670 v671 y).2 :=
  fn_fin tok slices_ContainsFuncI_hO mixed Try.func128 Try.call128 (by kernel_rfl) (LoopsOk_eq (l := []) (by kernel_rfl) trivial) (slices_ContainsFuncI_den v669 v670 v671) hy h0 hA
noncomputable def slices_ContainsFuncI_F : DFn := fun args L =>
  match args with
  | [a1, .fn 129 [a2, a3]] =>
    optT (rowI64 L a1) fun v669 =>
    optT (cellsOf L 1 a2) fun cs1 =>
    (match cs1 with
    | [.int .i64 v670] =>
    optT (cellsOf L 1 a3) fun cs2 =>
    (match cs2 with
    | [.int .i64 v671] =>
    .call (slices_ContainsFuncI_g v669 v670 v671) fun y => .leaf (.bool y, L)
    | _ => .fail)
    | _ => .fail)
  | _ => .fail
theorem slices_ContainsFuncI_Fok : COk Try.prog 128 slices_ContainsFuncI_F true := by
  intro F L H args r L' hs ha hr
  unfold slices_ContainsFuncI_F at hr
  split at hr
  · rename_i a1 a2 a3
    obtain ⟨v669, hv669, hr⟩ := optT_run hr
    obtain ⟨cs1, hcp1, hr⟩ := optT_run hr
    split at hr
    · rename_i v670
      obtain ⟨cs2, hcp2, hr⟩ := optT_run hr
      split at hr
      · rename_i v671
        simp only [Tree.run] at hr
        obtain ⟨y, hy, hr⟩ := Option.bind_eq_some_iff.1 hr
        simp only [Tree.run, Option.some.injEq, Prod.mk.injEq] at hr
        obtain ⟨rfl, rfl⟩ := hr
        exact call_ok0 hs (fun k => (([a1.av F, a2.av F, a3.av F] : List AV)[k]?).getD .top) [a1, .fn 129 [a2, a3]] [.bslc (BR.root 0) (.i64 v669), .fn 129 [.bptr (BR.root 1) [.int .i64 v670], .bptr (BR.root 2) [.int .i64 v671]]] (fun F' h0 hi hρ => ⟨by simp [DVs.av, DV.av, BR.av, hρ], slices_ContainsFuncI_fn v669 v670 v671 F' (st_nil hi) ⟨bslc_ok hi (by rw [h0, hρ]; exact rowI64_ok hs (DVs.okAt ha 0 rfl) hv669), ⟨bptr_ok hi (by rw [h0]; simpa [DVs.av, DV.av, BR.av, hρ] using (cellsOf_ok hs (DVs.okAt (DVs.okAt ha 1 rfl) 0 rfl) hcp1).1) ⟨trivial, trivial⟩, bptr_ok hi (by rw [h0]; simpa [DVs.av, DV.av, BR.av, hρ] using (cellsOf_ok hs (DVs.okAt (DVs.okAt ha 1 rfl) 1 rfl) hcp2).1) ⟨trivial, trivial⟩, trivial⟩, trivial⟩ hy⟩) rfl
      · cases hr
    · cases hr
  · cases hr
/-! impl.allIn -/
noncomputable def impl_allIn_LO (v666 : List Int) (v667 : Int) (v668 : Int) : LOr := fun id e L =>
  match id with
  | _ => .fail
noncomputable def impl_allIn_tab : List (FuncId × DFn × Bool) := [(128, slices_ContainsFuncI_F, true)]
theorem impl_allIn_hO : OrcOk Try.prog (tabD impl_allIn_tab) (tabM impl_allIn_tab) := tabD_cons slices_ContainsFuncI_Fok (tabD_nil _)
noncomputable def impl_allIn_T (v666 : List Int) (v667 : Int) (v668 : Int) : Tree (Bool) :=
  (.call (slices_ContainsFuncI_g v666 v667 v668) fun v685 =>
  .leaf (!v685))

noncomputable def impl_allIn_g (v666 : List Int) (v667 : Int) (v668 : Int) : Option (Bool) := (impl_allIn_T v666 v667 v668).run
def impl_allIn_enc (v666 : List Int) (v667 : Int) (v668 : Int) (y : Bool) : Rs := (.bool y, [])
theorem impl_allIn_den (v666 : List Int) (v667 : Int) (v668 : Int) : (den TT (tabD impl_allIn_tab) (tabM impl_allIn_tab) (impl_allIn_LO v666 v667 v668) (codeOf Try.f67) ([.bslc (BR.root 0) (.i64 v666), .int .i64 v667, .int .i64 v668] ++ List.replicate (Try.f67.ntmps - ([.bslc (BR.root 0) (.i64 v666), .int .i64 v667, .int .i64 v668] : List DV).length) .undef) []).bind (retD TT Try.f67.results.toList 0) = (impl_allIn_T v666 v667 v668).bind fun y => .leaf (impl_allIn_enc v666 v667 v668 y) := by kernel_rfl
theorem impl_allIn_fn (v666 : List Int) (v667 : Int) (v668 : Int) (F : Fr) (h0 : St F [] F.H0) (hA : DVs.Ok F [] [.bslc (BR.root 0) (.i64 v666), .int .i64 v667, .int .i64 v668]) {y : Bool} (hy : impl_allIn_g v666 v667 v668 = some y) : ∃ F' H', Fwd 0 F F' [] (impl_allIn_enc v666 v667 v668 y).2 ∧ FnOk Try.prog 67 (DVs.av F [.bslc (BR.root 0) (.i64 v666), .int .i64 v667, .int .i64 v668]) F.H0 ((impl_allIn_enc v666 v667 v668 y).1.av F') H' ∧ St F' (impl_allIn_enc v666 v667 v668 y).2 H' ∧ (impl_allIn_enc v666 v667 v668 y).1.Ok F' (impl_allIn_enc v666 v667 v668 y).2 :=
  fn_fin tok impl_allIn_hO mixed Try.func67 Try.call67 (by kernel_rfl) (LoopsOk_eq (l := []) (by kernel_rfl) trivial) (impl_allIn_den v666 v667 v668) hy h0 hA
noncomputable def impl_allIn_F : DFn := fun args L =>
  match args with
  | [a1, .int .i64 v667, .int .i64 v668] =>
    optT (rowI64 L a1) fun v666 =>
    .call (impl_allIn_g v666 v667 v668) fun y => .leaf (.bool y, L)
  | _ => .fail
theorem impl_allIn_Fok : COk Try.prog 67 impl_allIn_F true := by
  intro F L H args r L' hs ha hr
  unfold impl_allIn_F at hr
  split at hr
  · rename_i a1 v667 v668
    obtain ⟨v666, hv666, hr⟩ := optT_run hr
    simp only [Tree.run] at hr
    obtain ⟨y, hy, hr⟩ := Option.bind_eq_some_iff.1 hr
    simp only [Tree.run, Option.some.injEq, Prod.mk.injEq] at hr
    obtain ⟨rfl, rfl⟩ := hr
    exact call_ok0 hs (fun k => (([a1.av F] : List AV)[k]?).getD .top) [a1, .int .i64 v667, .int .i64 v668] [.bslc (BR.root 0) (.i64 v666), .int .i64 v667, .int .i64 v668] (fun F' h0 hi hρ => ⟨by simp [DVs.av, DV.av, BR.av, hρ], impl_allIn_fn v666 v667 v668 F' (st_nil hi) ⟨bslc_ok hi (by rw [h0, hρ]; exact rowI64_ok hs (DVs.okAt ha 0 rfl) hv666), trivial, trivial, trivial⟩ hy⟩) rfl
  · cases hr
/-! impl.isWhole -/
noncomputable def impl_isWhole_LO (v658 : Int) (v659 : Int) (v660 : List Int) (v661 : Int) : LOr := fun id e L =>
  match id with
  | _ => .fail
noncomputable def impl_isWhole_tab : List (FuncId × DFn × Bool) := [(89, impl_inRange_F, true), (65, impl_lengthI_F, true), (67, impl_allIn_F, true)]
theorem impl_isWhole_hO : OrcOk Try.prog (tabD impl_isWhole_tab) (tabM impl_isWhole_tab) := tabD_cons impl_inRange_Fok (tabD_cons impl_lengthI_Fok (tabD_cons impl_allIn_Fok (tabD_nil _)))
noncomputable def impl_isWhole_T (v658 : Int) (v659 : Int) (v660 : List Int) (v661 : Int) : Tree (Bool) :=
  (.br (impl_inRange_v v658 (1 : Int) (6 : Int)) (
   (.br (impl_inRange_v v659 (1 : Int) (6 : Int)) (
    (.br (decide ((impl_lengthI_v v660) = IntKind.i64.wrap (v658 * v659))) (
     (.call (impl_allIn_g v660 (IntKind.i64.wrap (0 - v661)) v661) fun v686 =>
     .leaf v686)
    ) (
     .leaf false
    ))
   ) (
    .leaf false
   ))
  ) (
   .leaf false
  ))

noncomputable def impl_isWhole_g (v658 : Int) (v659 : Int) (v660 : List Int) (v661 : Int) : Option (Bool) := (impl_isWhole_T v658 v659 v660 v661).run
def impl_isWhole_enc (v658 : Int) (v659 : Int) (v660 : List Int) (v661 : Int) (y : Bool) : Rs := (.bool y, [])
theorem impl_isWhole_den (v658 : Int) (v659 : Int) (v660 : List Int) (v661 : Int) : (den TT (tabD impl_isWhole_tab) (tabM impl_isWhole_tab) (impl_isWhole_LO v658 v659 v660 v661) (codeOf Try.f126) ([.agg [.int .i64 v658, .int .i64 v659, .bslc (BR.root 0) (.i64 v660)], .int .i64 v661] ++ List.replicate (Try.f126.ntmps - ([.agg [.int .i64 v658, .int .i64 v659, .bslc (BR.root 0) (.i64 v660)], .int .i64 v661] : List DV).length) .undef) []).bind (retD TT Try.f126.results.toList 0) = (impl_isWhole_T v658 v659 v660 v661).bind fun y => .leaf (impl_isWhole_enc v658 v659 v660 v661 y) := by kernel_rfl
theorem impl_isWhole_fn (v658 : Int) (v659 : Int) (v660 : List Int) (v661 : Int) (F : Fr) (h0 : St F [] F.H0) (hA : DVs.Ok F [] [.agg [.int .i64 v658, .int .i64 v659, .bslc (BR.root 0) (.i64 v660)], .int .i64 v661]) {y : Bool} (hy : impl_isWhole_g v658 v659 v660 v661 = some y) : ∃ F' H', Fwd 0 F F' [] (impl_isWhole_enc v658 v659 v660 v661 y).2 ∧ FnOk Try.prog 126 (DVs.av F [.agg [.int .i64 v658, .int .i64 v659, .bslc (BR.root 0) (.i64 v660)], .int .i64 v661]) F.H0 ((impl_isWhole_enc v658 v659 v660 v661 y).1.av F') H' ∧ St F' (impl_isWhole_enc v658 v659 v660 v661 y).2 H' ∧ (impl_isWhole_enc v658 v659 v660 v661 y).1.Ok F' (impl_isWhole_enc v658 v659 v660 v661 y).2 :=
  fn_fin tok impl_isWhole_hO mixed Try.func126 Try.call126 (by kernel_rfl) (LoopsOk_eq (l := []) (by kernel_rfl) trivial) (impl_isWhole_den v658 v659 v660 v661) hy h0 hA
noncomputable def impl_isWhole_F : DFn := fun args L =>
  match args with
  | [.agg [.int .i64 v658, .int .i64 v659, a1], .int .i64 v661] =>
    optT (rowI64 L a1) fun v660 =>
    .call (impl_isWhole_g v658 v659 v660 v661) fun y => .leaf (.bool y, L)
  | _ => .fail
theorem impl_isWhole_Fok : COk Try.prog 126 impl_isWhole_F true := by
  intro F L H args r L' hs ha hr
  unfold impl_isWhole_F at hr
  split at hr
  · rename_i v658 v659 a1 v661
    obtain ⟨v660, hv660, hr⟩ := optT_run hr
    simp only [Tree.run] at hr
    obtain ⟨y, hy, hr⟩ := Option.bind_eq_some_iff.1 hr
    simp only [Tree.run, Option.some.injEq, Prod.mk.injEq] at hr
    obtain ⟨rfl, rfl⟩ := hr
    exact call_ok0 hs (fun k => (([a1.av F] : List AV)[k]?).getD .top) [.agg [.int .i64 v658, .int .i64 v659, a1], .int .i64 v661] [.agg [.int .i64 v658, .int .i64 v659, .bslc (BR.root 0) (.i64 v660)], .int .i64 v661] (fun F' h0 hi hρ => ⟨by simp [DVs.av, DV.av, BR.av, hρ], impl_isWhole_fn v658 v659 v660 v661 F' (st_nil hi) ⟨⟨trivial, trivial, bslc_ok hi (by rw [h0, hρ]; exact rowI64_ok hs (DVs.okAt (DVs.okAt ha 0 rfl) 2 rfl) hv660), trivial⟩, trivial, trivial⟩ hy⟩) rfl
  · cases hr
/-! impl.isLow -/
noncomputable def impl_isLow_LO (v655 : Int) (v656 : Int) (v657 : List Int) : LOr := fun id e L =>
  match id with
  | _ => .fail
noncomputable def impl_isLow_tab : List (FuncId × DFn × Bool) := [(126, impl_isWhole_F, true)]
theorem impl_isLow_hO : OrcOk Try.prog (tabD impl_isLow_tab) (tabM impl_isLow_tab) := tabD_cons impl_isWhole_Fok (tabD_nil _)
noncomputable def impl_isLow_T (v655 : Int) (v656 : Int) (v657 : List Int) : Tree (Bool) :=
  (.call (impl_isWhole_g v655 v656 v657 (100 : Int)) fun v687 =>
  .leaf v687)

noncomputable def impl_isLow_g (v655 : Int) (v656 : Int) (v657 : List Int) : Option (Bool) := (impl_isLow_T v655 v656 v657).run
def impl_isLow_enc (v655 : Int) (v656 : Int) (v657 : List Int) (y : Bool) : Rs := (.bool y, [])
theorem impl_isLow_den (v655 : Int) (v656 : Int) (v657 : List Int) : (den TT (tabD impl_isLow_tab) (tabM impl_isLow_tab) (impl_isLow_LO v655 v656 v657) (codeOf Try.f76) ([.agg [.int .i64 v655, .int .i64 v656, .bslc (BR.root 0) (.i64 v657)]] ++ List.replicate (Try.f76.ntmps - ([.agg [.int .i64 v655, .int .i64 v656, .bslc (BR.root 0) (.i64 v657)]] : List DV).length) .undef) []).bind (retD TT Try.f76.results.toList 0) = (impl_isLow_T v655 v656 v657).bind fun y => .leaf (impl_isLow_enc v655 v656 v657 y) := by kernel_rfl
theorem impl_isLow_fn (v655 : Int) (v656 : Int) (v657 : List Int) (F : Fr) (h0 : St F [] F.H0) (hA : DVs.Ok F [] [.agg [.int .i64 v655, .int .i64 v656, .bslc (BR.root 0) (.i64 v657)]]) {y : Bool} (hy : impl_isLow_g v655 v656 v657 = some y) : ∃ F' H', Fwd 0 F F' [] (impl_isLow_enc v655 v656 v657 y).2 ∧ FnOk Try.prog 76 (DVs.av F [.agg [.int .i64 v655, .int .i64 v656, .bslc (BR.root 0) (.i64 v657)]]) F.H0 ((impl_isLow_enc v655 v656 v657 y).1.av F') H' ∧ St F' (impl_isLow_enc v655 v656 v657 y).2 H' ∧ (impl_isLow_enc v655 v656 v657 y).1.Ok F' (impl_isLow_enc v655 v656 v657 y).2 :=
  fn_fin tok impl_isLow_hO mixed Try.func76 Try.call76 (by kernel_rfl) (LoopsOk_eq (l := []) (by kernel_rfl) trivial) (impl_isLow_den v655 v656 v657) hy h0 hA
noncomputable def impl_isLow_F : DFn := fun args L =>
  match args with
  | [.agg [.int .i64 v655, .int .i64 v656, a1]] =>
    optT (rowI64 L a1) fun v657 =>
    .call (impl_isLow_g v655 v656 v657) fun y => .leaf (.bool y, L)
  | _ => .fail
theorem impl_isLow_Fok : COk Try.prog 76 impl_isLow_F true := by
  intro F L H args r L' hs ha hr
  unfold impl_isLow_F at hr
  split at hr
  · rename_i v655 v656 a1
    obtain ⟨v657, hv657, hr⟩ := optT_run hr
    simp only [Tree.run] at hr
    obtain ⟨y, hy, hr⟩ := Option.bind_eq_some_iff.1 hr
    simp only [Tree.run, Option.some.injEq, Prod.mk.injEq] at hr
    obtain ⟨rfl, rfl⟩ := hr
    exact call_ok0 hs (fun k => (([a1.av F] : List AV)[k]?).getD .top) [.agg [.int .i64 v655, .int .i64 v656, a1]] [.agg [.int .i64 v655, .int .i64 v656, .bslc (BR.root 0) (.i64 v657)]] (fun F' h0 hi hρ => ⟨by simp [DVs.av, DV.av, BR.av, hρ], impl_isLow_fn v655 v656 v657 F' (st_nil hi) ⟨⟨trivial, trivial, bslc_ok hi (by rw [h0, hρ]; exact rowI64_ok hs (DVs.okAt (DVs.okAt ha 0 rfl) 2 rfl) hv657), trivial⟩, trivial⟩ hy⟩) rfl
  · cases hr
/-! impl.list -/
noncomputable def impl_list_l0_T (v695 : Int) (s : Int × (List Int)) : Tree ((Int × (List Int)) ⊕ ((List Int))) :=
  (.br (decide (s.1 < (64 : Int))) (
   (.grd (decide (0 ≤ s.1)) <|
   (.br (decide (iand .u64 (ishr .u64 v695 s.1) (1 : Int) = (1 : Int))) (
    (.grd (fits (s.2 ++ ([s.1] : List Int)).length) <|
    .leaf (.inl (IntKind.i64.wrap (s.1 + (1 : Int)), s.2 ++ ([s.1] : List Int))))
   ) (
    .leaf (.inl (IntKind.i64.wrap (s.1 + (1 : Int)), s.2))
   )))
  ) (
   .leaf (.inr s.2)
  ))

noncomputable def impl_list_l0_g (v695 : Int) (s0 : Int × (List Int)) : Option ((List Int)) := whileM (fun s => (impl_list_l0_T v695 s).run) s0
def impl_list_l0_E (v695 : Int) (s : Int × (List Int)) : Sd := ([.int .u64 v695,tp,tp,.own 0 0 ((s.2).length),tp,tp,.int .i64 s.1,tp,tp,tp,tp,tp,tp,tp,tp,tp,tp,tp,tp,tp], [.row (.i64 s.2) 0])
def impl_list_l0_X (v695 : Int) (x : (List Int)) : Out := (.normal, [tp,tp,tp,.own 0 0 ((x).length),tp,tp,tp,tp,tp,tp,tp,tp,tp,tp,tp,tp,tp,tp,tp,tp], [.row (.i64 x) 0])
def impl_list_l0_kill : List Nat := KL true [0,1,2,1,2,1,13]
def impl_list_l0_nx : Exit → List Nat
  | .exit 0 => KL true [3,1,16]
  | .ret => KL true [2,1,17]
  | _ => []
noncomputable def impl_list_LO (v695 : Int) : LOr := fun id e L =>
  match id with
  | 0 => .need (normA 0 impl_list_l0_kill e L = some (impl_list_l0_E v695 ((gI (vAt e 6)), (gRI L (vAt e 3))))) (.call (impl_list_l0_g v695 ((gI (vAt e 6)), (gRI L (vAt e 3)))) fun x => .leaf (impl_list_l0_X v695 x))
  | _ => .fail
noncomputable def impl_list_tab : List (FuncId × DFn × Bool) := []
theorem impl_list_hO : OrcOk Try.prog (tabD impl_list_tab) (tabM impl_list_tab) := tabD_nil _
theorem impl_list_l0_be (v695 : Int) (s : Int × (List Int)) : bodyT TT (tabD impl_list_tab) (tabM impl_list_tab) (impl_list_LO v695) 0 impl_list_l0_kill impl_list_l0_nx (bodyOf Try.f133 0) 0 (impl_list_l0_E v695 s) = (impl_list_l0_T v695 s).bind fun y => .leaf (outS (impl_list_l0_E v695) (impl_list_l0_X v695) y) := by kernel_rfl
theorem impl_list_l0_ok (v695 : Int) : LSound Try.prog 0 (impl_list_LO v695) 0 (bodyOf Try.f133 0) := by
  intro e L out h
  exact lo_ok (E := impl_list_l0_E v695) (gT := impl_list_l0_T v695) (X := impl_list_l0_X v695) (s0 := ((gI (vAt e 6)), (gRI L (vAt e 3)))) tok impl_list_hO mixed (LoopsOk_eq (l := []) (by kernel_rfl) trivial) (impl_list_l0_be v695) rfl (by intro x; rfl) h
noncomputable def impl_list_T (v695 : Int) : Tree ((List Int)) :=
  (.need (some (impl_list_l0_E v695 ((0 : Int), ([] : List Int))) = some (impl_list_l0_E v695 ((0 : Int), ([] : List Int)))) <|
  (.call (impl_list_l0_g v695 ((0 : Int), ([] : List Int))) fun v701 =>
  .leaf v701))

noncomputable def impl_list_g (v695 : Int) : Option ((List Int)) := (impl_list_T v695).run
def impl_list_enc (v695 : Int) (y : (List Int)) : Rs := (.own 0 0 ((y).length), [.row (.i64 y) 0])
theorem impl_list_den (v695 : Int) : (den TT (tabD impl_list_tab) (tabM impl_list_tab) (impl_list_LO v695) (codeOf Try.f133) ([.int .u64 v695] ++ List.replicate (Try.f133.ntmps - ([.int .u64 v695] : List DV).length) .undef) []).bind (retD TT Try.f133.results.toList 0) = (impl_list_T v695).bind fun y => .leaf (impl_list_enc v695 y) := by kernel_rfl
theorem impl_list_fn (v695 : Int) (F : Fr) (h0 : St F [] F.H0) (hA : DVs.Ok F [] [.int .u64 v695]) {y : (List Int)} (hy : impl_list_g v695 = some y) : ∃ F' H', Fwd 0 F F' [] (impl_list_enc v695 y).2 ∧ FnOk Try.prog 133 (DVs.av F [.int .u64 v695]) F.H0 ((impl_list_enc v695 y).1.av F') H' ∧ St F' (impl_list_enc v695 y).2 H' ∧ (impl_list_enc v695 y).1.Ok F' (impl_list_enc v695 y).2 :=
  fn_fin tok impl_list_hO mixed Try.func133 Try.call133 (by kernel_rfl) (LoopsOk_eq (l := [(0, bodyOf Try.f133 0)]) (by kernel_rfl) ⟨impl_list_l0_ok v695, trivial⟩) (impl_list_den v695) hy h0 hA
noncomputable def impl_list_F : DFn := fun args L =>
  match args with
  | [.int .u64 v695] =>
    .call (impl_list_g v695) fun y => .leaf (.own (L.length + 0) 0 ((y).length), L ++ [.row (.i64 y) 0])
  | _ => .fail
theorem impl_list_Fok : COk Try.prog 133 impl_list_F true := by
  intro F L H args r L' hs ha hr
  unfold impl_list_F at hr
  split at hr
  · rename_i v695
    simp only [Tree.run] at hr
    obtain ⟨y, hy, hr⟩ := Option.bind_eq_some_iff.1 hr
    simp only [Tree.run, Option.some.injEq, Prod.mk.injEq] at hr
    obtain ⟨rfl, rfl⟩ := hr
    exact call_ok1 hs (fun k => (([] : List AV)[k]?).getD .top) [.int .u64 v695] [.int .u64 v695] (fun F' h0 hi hρ => ⟨by simp [DVs.av, DV.av, BR.av, hρ], impl_list_fn v695 F' (st_nil hi) ⟨trivial, trivial⟩ hy⟩) rfl rfl
  · cases hr
/-! impl.degree -/
noncomputable def impl_degree_LO (v694 : Int) : LOr := fun id e L =>
  match id with
  | _ => .fail
noncomputable def impl_degree_tab : List (FuncId × DFn × Bool) := [(133, impl_list_F, true), (65, impl_lengthI_F, true)]
theorem impl_degree_hO : OrcOk Try.prog (tabD impl_degree_tab) (tabM impl_degree_tab) := tabD_cons impl_list_Fok (tabD_cons impl_lengthI_Fok (tabD_nil _))
noncomputable def impl_degree_T (v694 : Int) : Tree (Int) :=
  (.call (impl_list_g v694) fun v702 =>
  .leaf (impl_lengthI_v v702))

noncomputable def impl_degree_g (v694 : Int) : Option (Int) := (impl_degree_T v694).run
def impl_degree_enc (v694 : Int) (y : Int) : Rs := (.int .i64 y, [])
theorem impl_degree_den (v694 : Int) : (den TT (tabD impl_degree_tab) (tabM impl_degree_tab) (impl_degree_LO v694) (codeOf Try.f132) ([.int .u64 v694] ++ List.replicate (Try.f132.ntmps - ([.int .u64 v694] : List DV).length) .undef) []).bind (retD TT Try.f132.results.toList 0) = (impl_degree_T v694).bind fun y => .leaf (impl_degree_enc v694 y) := by kernel_rfl
theorem impl_degree_fn (v694 : Int) (F : Fr) (h0 : St F [] F.H0) (hA : DVs.Ok F [] [.int .u64 v694]) {y : Int} (hy : impl_degree_g v694 = some y) : ∃ F' H', Fwd 0 F F' [] (impl_degree_enc v694 y).2 ∧ FnOk Try.prog 132 (DVs.av F [.int .u64 v694]) F.H0 ((impl_degree_enc v694 y).1.av F') H' ∧ St F' (impl_degree_enc v694 y).2 H' ∧ (impl_degree_enc v694 y).1.Ok F' (impl_degree_enc v694 y).2 :=
  fn_fin tok impl_degree_hO mixed Try.func132 Try.call132 (by kernel_rfl) (LoopsOk_eq (l := []) (by kernel_rfl) trivial) (impl_degree_den v694) hy h0 hA
noncomputable def impl_degree_F : DFn := fun args L =>
  match args with
  | [.int .u64 v694] =>
    .call (impl_degree_g v694) fun y => .leaf (.int .i64 y, L)
  | _ => .fail
theorem impl_degree_Fok : COk Try.prog 132 impl_degree_F true := by
  intro F L H args r L' hs ha hr
  unfold impl_degree_F at hr
  split at hr
  · rename_i v694
    simp only [Tree.run] at hr
    obtain ⟨y, hy, hr⟩ := Option.bind_eq_some_iff.1 hr
    simp only [Tree.run, Option.some.injEq, Prod.mk.injEq] at hr
    obtain ⟨rfl, rfl⟩ := hr
    exact call_ok0 hs (fun k => (([] : List AV)[k]?).getD .top) [.int .u64 v694] [.int .u64 v694] (fun F' h0 hi hρ => ⟨by simp [DVs.av, DV.av, BR.av, hρ], impl_degree_fn v694 F' (st_nil hi) ⟨trivial, trivial⟩ hy⟩) rfl
  · cases hr
/-! impl.choices -/
noncomputable def impl_choices_l0_T (v691 : Int) (v692 : Int) (s : Int × (List (List Int)) × (List Nat)) : Tree ((Int × (List (List Int)) × (List Nat)) ⊕ ((List (List Int)) × (List Nat))) :=
  (.br (decide (s.1 < ishl .u64 (1 : Int) v691)) (
   (.call (impl_degree_g s.1) fun v713 =>
   (.br (decide (v713 = v692)) (
    (.call (impl_list_g s.1) fun v714 =>
    (.grd (fits (((s.2.2).length) + (1 : Nat))) <|
    .leaf (.inl (IntKind.u64.wrap (s.1 + (1 : Int)), s.2.1 ++ ([v714] : List (List Int)), s.2.2 ++ [s.2.1.length + 1]))))
   ) (
    .leaf (.inl (IntKind.u64.wrap (s.1 + (1 : Int)), s.2.1, s.2.2))
   )))
  ) (
   .leaf (.inr (s.2.1, s.2.2))
  ))

noncomputable def impl_choices_l0_g (v691 : Int) (v692 : Int) (s0 : Int × (List (List Int)) × (List Nat)) : Option ((List (List Int)) × (List Nat)) := whileM (fun s => (impl_choices_l0_T v691 v692 s).run) s0
def impl_choices_l0_E (v691 : Int) (v692 : Int) (s : Int × (List (List Int)) × (List Nat)) : Sd := ([tp,.int .i64 v692,tp,tp,tp,.nest 0 0 1 ((s.2.2).length),tp,tp,tp,.int .u64 (ishl .u64 (1 : Int) v691),.int .u64 s.1,tp,tp,tp,tp,tp,tp,tp,tp,tp,tp,tp,tp,tp], [.nest [.sl (.i64 s.2.1) s.2.2] false 0])
def impl_choices_l0_X (v691 : Int) (v692 : Int) (x : (List (List Int)) × (List Nat)) : Out := (.normal, [tp,tp,tp,tp,tp,.nest 0 0 1 ((x.2).length),tp,tp,tp,tp,tp,tp,tp,tp,tp,tp,tp,tp,tp,tp,tp,tp,tp,tp], [.nest [.sl (.i64 x.1) x.2] false 0])
def impl_choices_l0_kill : List Nat := KL true [1,1,3,1,3,2,13]
def impl_choices_l0_nx : Exit → List Nat
  | .exit 0 => KL true [5,1,18]
  | .ret => KL true [4,1,19]
  | _ => []
noncomputable def impl_choices_LO (v691 : Int) (v692 : Int) : LOr := fun id e L =>
  match id with
  | 0 => .need (normA 0 impl_choices_l0_kill e L = some (impl_choices_l0_E v691 v692 ((gI (vAt e 10)), (gPI L (vAt e 5) 0), (gX L (vAt e 5) 0)))) (.call (impl_choices_l0_g v691 v692 ((gI (vAt e 10)), (gPI L (vAt e 5) 0), (gX L (vAt e 5) 0))) fun x => .leaf (impl_choices_l0_X v691 v692 x))
  | _ => .fail
noncomputable def impl_choices_tab : List (FuncId × DFn × Bool) := [(132, impl_degree_F, true), (133, impl_list_F, true)]
theorem impl_choices_hO : OrcOk Try.prog (tabD impl_choices_tab) (tabM impl_choices_tab) := tabD_cons impl_degree_Fok (tabD_cons impl_list_Fok (tabD_nil _))
theorem impl_choices_l0_be (v691 : Int) (v692 : Int) (s : Int × (List (List Int)) × (List Nat)) : bodyT TT (tabD impl_choices_tab) (tabM impl_choices_tab) (impl_choices_LO v691 v692) 0 impl_choices_l0_kill impl_choices_l0_nx (bodyOf Try.f77 0) 0 (impl_choices_l0_E v691 v692 s) = (impl_choices_l0_T v691 v692 s).bind fun y => .leaf (outS (impl_choices_l0_E v691 v692) (impl_choices_l0_X v691 v692) y) := by kernel_rfl
theorem impl_choices_l0_ok (v691 : Int) (v692 : Int) : LSound Try.prog 0 (impl_choices_LO v691 v692) 0 (bodyOf Try.f77 0) := by
  intro e L out h
  exact lo_ok (E := impl_choices_l0_E v691 v692) (gT := impl_choices_l0_T v691 v692) (X := impl_choices_l0_X v691 v692) (s0 := ((gI (vAt e 10)), (gPI L (vAt e 5) 0), (gX L (vAt e 5) 0))) tok impl_choices_hO mixed (LoopsOk_eq (l := []) (by kernel_rfl) trivial) (impl_choices_l0_be v691 v692) rfl (by intro x; rfl) h
noncomputable def impl_choices_T (v691 : Int) (v692 : Int) : Tree ((List (List Int)) × (List Nat)) :=
  (.grd (decide (0 ≤ v691)) <|
  (.need (some (impl_choices_l0_E v691 v692 ((0 : Int), ([] : List (List Int)), ([] : List Nat))) = some (impl_choices_l0_E v691 v692 ((0 : Int), ([] : List (List Int)), ([] : List Nat)))) <|
  (.call (impl_choices_l0_g v691 v692 ((0 : Int), ([] : List (List Int)), ([] : List Nat))) fun v715 =>
  .leaf (v715.1, v715.2))))

noncomputable def impl_choices_g (v691 : Int) (v692 : Int) : Option ((List (List Int)) × (List Nat)) := (impl_choices_T v691 v692).run
def impl_choices_enc (v691 : Int) (v692 : Int) (y : (List (List Int)) × (List Nat)) : Rs := (.nest 0 0 1 ((y.2).length), [.nest [.sl (.i64 y.1) y.2] false 0])
theorem impl_choices_den (v691 : Int) (v692 : Int) : (den TT (tabD impl_choices_tab) (tabM impl_choices_tab) (impl_choices_LO v691 v692) (codeOf Try.f77) ([.int .i64 v691, .int .i64 v692] ++ List.replicate (Try.f77.ntmps - ([.int .i64 v691, .int .i64 v692] : List DV).length) .undef) []).bind (retD TT Try.f77.results.toList 0) = (impl_choices_T v691 v692).bind fun y => .leaf (impl_choices_enc v691 v692 y) := by kernel_rfl
theorem impl_choices_fn (v691 : Int) (v692 : Int) (F : Fr) (h0 : St F [] F.H0) (hA : DVs.Ok F [] [.int .i64 v691, .int .i64 v692]) {y : (List (List Int)) × (List Nat)} (hy : impl_choices_g v691 v692 = some y) : ∃ F' H', Fwd 0 F F' [] (impl_choices_enc v691 v692 y).2 ∧ FnOk Try.prog 77 (DVs.av F [.int .i64 v691, .int .i64 v692]) F.H0 ((impl_choices_enc v691 v692 y).1.av F') H' ∧ St F' (impl_choices_enc v691 v692 y).2 H' ∧ (impl_choices_enc v691 v692 y).1.Ok F' (impl_choices_enc v691 v692 y).2 :=
  fn_fin tok impl_choices_hO mixed Try.func77 Try.call77 (by kernel_rfl) (LoopsOk_eq (l := [(0, bodyOf Try.f77 0)]) (by kernel_rfl) ⟨impl_choices_l0_ok v691 v692, trivial⟩) (impl_choices_den v691 v692) hy h0 hA
noncomputable def impl_choices_F : DFn := fun args L =>
  match args with
  | [.int .i64 v691, .int .i64 v692] =>
    .call (impl_choices_g v691 v692) fun y => .leaf (.nest (L.length + 0) 0 1 ((y.2).length), L ++ [.nest [.sl (.i64 y.1) y.2] false 0])
  | _ => .fail
theorem impl_choices_Fok : COk Try.prog 77 impl_choices_F true := by
  intro F L H args r L' hs ha hr
  unfold impl_choices_F at hr
  split at hr
  · rename_i v691 v692
    simp only [Tree.run] at hr
    obtain ⟨y, hy, hr⟩ := Option.bind_eq_some_iff.1 hr
    simp only [Tree.run, Option.some.injEq, Prod.mk.injEq] at hr
    obtain ⟨rfl, rfl⟩ := hr
    exact call_ok1 hs (fun k => (([] : List AV)[k]?).getD .top) [.int .i64 v691, .int .i64 v692] [.int .i64 v691, .int .i64 v692] (fun F' h0 hi hρ => ⟨by simp [DVs.av, DV.av, BR.av, hρ], impl_choices_fn v691 v692 F' (st_nil hi) ⟨trivial, trivial, trivial⟩ hy⟩) rfl rfl
  · cases hr
/-! (impl.Whole).at -/
noncomputable def impl_Whole_at_LO (v745 : Int) (v746 : Int) (v747 : List Int) (v748 : Int) (v749 : Int) : LOr := fun id e L =>
  match id with
  | _ => .fail
noncomputable def impl_Whole_at_tab : List (FuncId × DFn × Bool) := []
theorem impl_Whole_at_hO : OrcOk Try.prog (tabD impl_Whole_at_tab) (tabM impl_Whole_at_tab) := tabD_nil _
noncomputable def impl_Whole_at_T (v746 : Int) (v747 : List Int) (v748 : Int) (v749 : Int) : Tree (Int) :=
  (.grd (inb (IntKind.i64.wrap ((IntKind.i64.wrap (v748 * v746)) + v749)) v747.length) <|
  .leaf (nth v747 (Int.toNat (IntKind.i64.wrap ((IntKind.i64.wrap (v748 * v746)) + v749)))))

noncomputable def impl_Whole_at_g (v746 : Int) (v747 : List Int) (v748 : Int) (v749 : Int) : Option (Int) := (impl_Whole_at_T v746 v747 v748 v749).run
def impl_Whole_at_enc (v745 : Int) (v746 : Int) (v747 : List Int) (v748 : Int) (v749 : Int) (y : Int) : Rs := (.int .i64 y, [])
theorem impl_Whole_at_den (v745 : Int) (v746 : Int) (v747 : List Int) (v748 : Int) (v749 : Int) : (den TT (tabD impl_Whole_at_tab) (tabM impl_Whole_at_tab) (impl_Whole_at_LO v745 v746 v747 v748 v749) (codeOf Try.f134) ([.agg [.int .i64 v745, .int .i64 v746, .bslc (BR.root 0) (.i64 v747)], .int .i64 v748, .int .i64 v749] ++ List.replicate (Try.f134.ntmps - ([.agg [.int .i64 v745, .int .i64 v746, .bslc (BR.root 0) (.i64 v747)], .int .i64 v748, .int .i64 v749] : List DV).length) .undef) []).bind (retD TT Try.f134.results.toList 0) = (impl_Whole_at_T v746 v747 v748 v749).bind fun y => .leaf (impl_Whole_at_enc v745 v746 v747 v748 v749 y) := by kernel_rfl
theorem impl_Whole_at_fn (v745 : Int) (v746 : Int) (v747 : List Int) (v748 : Int) (v749 : Int) (F : Fr) (h0 : St F [] F.H0) (hA : DVs.Ok F [] [.agg [.int .i64 v745, .int .i64 v746, .bslc (BR.root 0) (.i64 v747)], .int .i64 v748, .int .i64 v749]) {y : Int} (hy : impl_Whole_at_g v746 v747 v748 v749 = some y) : ∃ F' H', Fwd 0 F F' [] (impl_Whole_at_enc v745 v746 v747 v748 v749 y).2 ∧ FnOk Try.prog 134 (DVs.av F [.agg [.int .i64 v745, .int .i64 v746, .bslc (BR.root 0) (.i64 v747)], .int .i64 v748, .int .i64 v749]) F.H0 ((impl_Whole_at_enc v745 v746 v747 v748 v749 y).1.av F') H' ∧ St F' (impl_Whole_at_enc v745 v746 v747 v748 v749 y).2 H' ∧ (impl_Whole_at_enc v745 v746 v747 v748 v749 y).1.Ok F' (impl_Whole_at_enc v745 v746 v747 v748 v749 y).2 :=
  fn_fin tok impl_Whole_at_hO mixed Try.func134 Try.call134 (by kernel_rfl) (LoopsOk_eq (l := []) (by kernel_rfl) trivial) (impl_Whole_at_den v745 v746 v747 v748 v749) hy h0 hA
noncomputable def impl_Whole_at_F : DFn := fun args L =>
  match args with
  | [.agg [.int .i64 v745, .int .i64 v746, a1], .int .i64 v748, .int .i64 v749] =>
    optT (rowI64 L a1) fun v747 =>
    .call (impl_Whole_at_g v746 v747 v748 v749) fun y => .leaf (.int .i64 y, L)
  | _ => .fail
theorem impl_Whole_at_Fok : COk Try.prog 134 impl_Whole_at_F true := by
  intro F L H args r L' hs ha hr
  unfold impl_Whole_at_F at hr
  split at hr
  · rename_i v745 v746 a1 v748 v749
    obtain ⟨v747, hv747, hr⟩ := optT_run hr
    simp only [Tree.run] at hr
    obtain ⟨y, hy, hr⟩ := Option.bind_eq_some_iff.1 hr
    simp only [Tree.run, Option.some.injEq, Prod.mk.injEq] at hr
    obtain ⟨rfl, rfl⟩ := hr
    exact call_ok0 hs (fun k => (([a1.av F] : List AV)[k]?).getD .top) [.agg [.int .i64 v745, .int .i64 v746, a1], .int .i64 v748, .int .i64 v749] [.agg [.int .i64 v745, .int .i64 v746, .bslc (BR.root 0) (.i64 v747)], .int .i64 v748, .int .i64 v749] (fun F' h0 hi hρ => ⟨by simp [DVs.av, DV.av, BR.av, hρ], impl_Whole_at_fn v745 v746 v747 v748 v749 F' (st_nil hi) ⟨⟨trivial, trivial, bslc_ok hi (by rw [h0, hρ]; exact rowI64_ok hs (DVs.okAt (DVs.okAt ha 0 rfl) 2 rfl) hv747), trivial⟩, trivial, trivial, trivial⟩ hy⟩) rfl
  · cases hr
/-! slices.Clone[list of int64,int64] -/
noncomputable def slices_CloneI_LO (v751 : List Int) : LOr := fun id e L =>
  match id with
  | _ => .fail
noncomputable def slices_CloneI_tab : List (FuncId × DFn × Bool) := []
theorem slices_CloneI_hO : OrcOk Try.prog (tabD slices_CloneI_tab) (tabM slices_CloneI_tab) := tabD_nil _
noncomputable def slices_CloneI_T (v751 : List Int) : Tree (Unit) :=
  (.grd (decide (0 < v751.length)) <|
  (.grd (fits (([] : List Int) ++ v751).length) <|
  .leaf ()))

noncomputable def slices_CloneI_g (v751 : List Int) : Option (Unit) := (slices_CloneI_T v751).run
def slices_CloneI_enc (v751 : List Int) (y : Unit) : Rs := (.own 0 0 ((([] : List Int) ++ v751).length), [.row (.i64 (([] : List Int) ++ v751)) 0])
theorem slices_CloneI_den (v751 : List Int) : (den TT (tabD slices_CloneI_tab) (tabM slices_CloneI_tab) (slices_CloneI_LO v751) (codeOf Try.f90) ([.bslc (BR.root 0) (.i64 v751)] ++ List.replicate (Try.f90.ntmps - ([.bslc (BR.root 0) (.i64 v751)] : List DV).length) .undef) []).bind (retD TT Try.f90.results.toList 0) = (slices_CloneI_T v751).bind fun y => .leaf (slices_CloneI_enc v751 y) := by kernel_rfl
theorem slices_CloneI_fn (v751 : List Int) (F : Fr) (h0 : St F [] F.H0) (hA : DVs.Ok F [] [.bslc (BR.root 0) (.i64 v751)]) {y : Unit} (hy : slices_CloneI_g v751 = some y) : ∃ F' H', Fwd 0 F F' [] (slices_CloneI_enc v751 y).2 ∧ FnOk Try.prog 90 (DVs.av F [.bslc (BR.root 0) (.i64 v751)]) F.H0 ((slices_CloneI_enc v751 y).1.av F') H' ∧ St F' (slices_CloneI_enc v751 y).2 H' ∧ (slices_CloneI_enc v751 y).1.Ok F' (slices_CloneI_enc v751 y).2 :=
  fn_fin tok slices_CloneI_hO mixed Try.func90 Try.call90 (by kernel_rfl) (LoopsOk_eq (l := []) (by kernel_rfl) trivial) (slices_CloneI_den v751) hy h0 hA
noncomputable def slices_CloneI_F : DFn := fun args L =>
  match args with
  | [a1] =>
    optT (rowI64 L a1) fun v751 =>
    .call (slices_CloneI_g v751) fun y => .leaf (.own (L.length + 0) 0 ((([] : List Int) ++ v751).length), L ++ [.row (.i64 (([] : List Int) ++ v751)) 0])
  | _ => .fail
theorem slices_CloneI_Fok : COk Try.prog 90 slices_CloneI_F true := by
  intro F L H args r L' hs ha hr
  unfold slices_CloneI_F at hr
  split at hr
  · rename_i a1
    obtain ⟨v751, hv751, hr⟩ := optT_run hr
    simp only [Tree.run] at hr
    obtain ⟨y, hy, hr⟩ := Option.bind_eq_some_iff.1 hr
    simp only [Tree.run, Option.some.injEq, Prod.mk.injEq] at hr
    obtain ⟨rfl, rfl⟩ := hr
    exact call_ok1 hs (fun k => (([a1.av F] : List AV)[k]?).getD .top) [a1] [.bslc (BR.root 0) (.i64 v751)] (fun F' h0 hi hρ => ⟨by simp [DVs.av, DV.av, BR.av, hρ], slices_CloneI_fn v751 F' (st_nil hi) ⟨bslc_ok hi (by rw [h0, hρ]; exact rowI64_ok hs (DVs.okAt ha 0 rfl) hv751), trivial⟩ hy⟩) rfl rfl
  · cases hr
/-! slices.Delete[list of int64,int64] -/
noncomputable def slices_DeleteI_LO (v756 : List Int) (v757 : Int) (v758 : Int) : LOr := fun id e L =>
  match id with
  | _ => .fail
noncomputable def slices_DeleteI_tab : List (FuncId × DFn × Bool) := []
theorem slices_DeleteI_hO : OrcOk Try.prog (tabD slices_DeleteI_tab) (tabM slices_DeleteI_tab) := tabD_nil _
noncomputable def slices_DeleteI_T (v756 : List Int) (v757 : Int) (v758 : Int) : Tree ((Unit) ⊕ (Nat × Nat)) :=
  (.grd (sok v757 v758 v756.length) <|
  (.grd (decide (v758 ≤ ((v756.length : Nat) : Int)) && decide (((v756.length : Nat) : Int) ≤ ((v756.length : Nat) : Int))) <|
  (.br (decide (v757 = v758)) (
   .leaf (.inl ())
  ) (
   (.grd (sok (0 : Int) v757 v756.length) <|
   (.grd (sok v758 ((v756.length : Nat) : Int) v756.length) <|
   (.grd (decide ((Int.toNat (0 : Int)) + (Int.toNat v757 - Int.toNat (0 : Int)) + (AM.sub v756 ((Int.toNat v758 : Nat) : Int) (((Int.toNat v758) + (Int.toNat ((v756.length : Nat) : Int) - Int.toNat v758) : Nat) : Int)).length ≤ v756.length)) <|
   (.grd (sok (((Int.toNat v757 - Int.toNat (0 : Int)) + (AM.sub v756 ((Int.toNat v758 : Nat) : Int) (((Int.toNat v758) + (Int.toNat ((v756.length : Nat) : Int) - Int.toNat v758) : Nat) : Int)).length : Nat) : Int) ((v756.length : Nat) : Int) (v756.length - (Int.toNat (0 : Int)))) <|
   (.grd (decide (((Int.toNat (0 : Int)) + Int.toNat (((Int.toNat v757 - Int.toNat (0 : Int)) + (AM.sub v756 ((Int.toNat v758 : Nat) : Int) (((Int.toNat v758) + (Int.toNat ((v756.length : Nat) : Int) - Int.toNat v758) : Nat) : Int)).length : Nat) : Int)) + (Int.toNat ((v756.length : Nat) : Int) - Int.toNat (((Int.toNat v757 - Int.toNat (0 : Int)) + (AM.sub v756 ((Int.toNat v758 : Nat) : Int) (((Int.toNat v758) + (Int.toNat ((v756.length : Nat) : Int) - Int.toNat v758) : Nat) : Int)).length : Nat) : Int)) ≤ (overL v756 ((Int.toNat (0 : Int)) + (Int.toNat v757 - Int.toNat (0 : Int))) (AM.sub v756 ((Int.toNat v758 : Nat) : Int) (((Int.toNat v758) + (Int.toNat ((v756.length : Nat) : Int) - Int.toNat v758) : Nat) : Int))).length)) <|
   .leaf (.inr (Int.toNat (0 : Int), (Int.toNat v757 - Int.toNat (0 : Int)) + (AM.sub v756 ((Int.toNat v758 : Nat) : Int) (((Int.toNat v758) + (Int.toNat ((v756.length : Nat) : Int) - Int.toNat v758) : Nat) : Int)).length)))))))
  ))))

noncomputable def slices_DeleteI_g (v756 : List Int) (v757 : Int) (v758 : Int) : Option ((Unit) ⊕ (Nat × Nat)) := (slices_DeleteI_T v756 v757 v758).run
def slices_DeleteI_enc (v756 : List Int) (v757 : Int) (v758 : Int) (y : (Unit) ⊕ (Nat × Nat)) : Rs := (match y with | .inl y => (.own 0 0 ((v756).length), [.row (.i64 v756) 0]) | .inr y => (.slc 0 y.1 0 ((overL (overL v756 ((Int.toNat (0 : Int)) + (Int.toNat v757 - Int.toNat (0 : Int))) (AM.sub v756 ((Int.toNat v758 : Nat) : Int) (((Int.toNat v758) + (Int.toNat ((v756.length : Nat) : Int) - Int.toNat v758) : Nat) : Int))) ((Int.toNat (0 : Int)) + Int.toNat (((Int.toNat v757 - Int.toNat (0 : Int)) + (AM.sub v756 ((Int.toNat v758 : Nat) : Int) (((Int.toNat v758) + (Int.toNat ((v756.length : Nat) : Int) - Int.toNat v758) : Nat) : Int)).length : Nat) : Int)) (List.replicate (Int.toNat ((v756.length : Nat) : Int) - Int.toNat (((Int.toNat v757 - Int.toNat (0 : Int)) + (AM.sub v756 ((Int.toNat v758 : Nat) : Int) (((Int.toNat v758) + (Int.toNat ((v756.length : Nat) : Int) - Int.toNat v758) : Nat) : Int)).length : Nat) : Int)) (0 : Int))).length) y.2, [.row (.i64 (overL (overL v756 ((Int.toNat (0 : Int)) + (Int.toNat v757 - Int.toNat (0 : Int))) (AM.sub v756 ((Int.toNat v758 : Nat) : Int) (((Int.toNat v758) + (Int.toNat ((v756.length : Nat) : Int) - Int.toNat v758) : Nat) : Int))) ((Int.toNat (0 : Int)) + Int.toNat (((Int.toNat v757 - Int.toNat (0 : Int)) + (AM.sub v756 ((Int.toNat v758 : Nat) : Int) (((Int.toNat v758) + (Int.toNat ((v756.length : Nat) : Int) - Int.toNat v758) : Nat) : Int)).length : Nat) : Int)) (List.replicate (Int.toNat ((v756.length : Nat) : Int) - Int.toNat (((Int.toNat v757 - Int.toNat (0 : Int)) + (AM.sub v756 ((Int.toNat v758 : Nat) : Int) (((Int.toNat v758) + (Int.toNat ((v756.length : Nat) : Int) - Int.toNat v758) : Nat) : Int)).length : Nat) : Int)) (0 : Int)))) 0]))
theorem slices_DeleteI_den (v756 : List Int) (v757 : Int) (v758 : Int) : (den TT (tabD slices_DeleteI_tab) (tabM slices_DeleteI_tab) (slices_DeleteI_LO v756 v757 v758) (codeOf Try.f135) ([.own 0 0 v756.length, .int .i64 v757, .int .i64 v758] ++ List.replicate (Try.f135.ntmps - ([.own 0 0 v756.length, .int .i64 v757, .int .i64 v758] : List DV).length) .undef) [.row (.i64 v756) 0]).bind (retD TT Try.f135.results.toList 1) = (slices_DeleteI_T v756 v757 v758).bind fun y => .leaf (slices_DeleteI_enc v756 v757 v758 y) := by kernel_rfl
theorem slices_DeleteI_fn (v756 : List Int) (v757 : Int) (v758 : Int) (F : Fr) (h0 : St F [.row (.i64 v756) 0] F.H0) (hA : DVs.Ok F [.row (.i64 v756) 0] [.own 0 0 v756.length, .int .i64 v757, .int .i64 v758]) {y : (Unit) ⊕ (Nat × Nat)} (hy : slices_DeleteI_g v756 v757 v758 = some y) : ∃ F' H', Fwd 1 F F' [.row (.i64 v756) 0] (slices_DeleteI_enc v756 v757 v758 y).2 ∧ FnOk Try.prog 135 (DVs.av F [.own 0 0 v756.length, .int .i64 v757, .int .i64 v758]) F.H0 ((slices_DeleteI_enc v756 v757 v758 y).1.av F') H' ∧ St F' (slices_DeleteI_enc v756 v757 v758 y).2 H' ∧ (slices_DeleteI_enc v756 v757 v758 y).1.Ok F' (slices_DeleteI_enc v756 v757 v758 y).2 :=
  fn_fin tok slices_DeleteI_hO mixed Try.func135 Try.call135 (by kernel_rfl) (LoopsOk_eq (l := []) (by kernel_rfl) trivial) (slices_DeleteI_den v756 v757 v758) hy h0 hA
noncomputable def slices_DeleteI_F : DFn := fun args L =>
  match args with
  | [a1, .int .i64 v757, .int .i64 v758] =>
    optT (ownI64 L a1) fun qv756 =>
    (match sepB [qv756.1] [] with
    | true =>
    .call (slices_DeleteI_g qv756.2 v757 v758) fun y => .sum y (fun y0 => .grd (decide (qv756.2.length = qv756.2.length)) (.leaf (.own qv756.1 (verAt L qv756.1) ((qv756.2).length), setB L [(qv756.1, .row (.i64 qv756.2) (verAt L qv756.1))] ++ []))) (fun z0 => .grd (decide ((overL (overL qv756.2 ((Int.toNat (0 : Int)) + (Int.toNat v757 - Int.toNat (0 : Int))) (AM.sub qv756.2 ((Int.toNat v758 : Nat) : Int) (((Int.toNat v758) + (Int.toNat ((qv756.2.length : Nat) : Int) - Int.toNat v758) : Nat) : Int))) ((Int.toNat (0 : Int)) + Int.toNat (((Int.toNat v757 - Int.toNat (0 : Int)) + (AM.sub qv756.2 ((Int.toNat v758 : Nat) : Int) (((Int.toNat v758) + (Int.toNat ((qv756.2.length : Nat) : Int) - Int.toNat v758) : Nat) : Int)).length : Nat) : Int)) (List.replicate (Int.toNat ((qv756.2.length : Nat) : Int) - Int.toNat (((Int.toNat v757 - Int.toNat (0 : Int)) + (AM.sub qv756.2 ((Int.toNat v758 : Nat) : Int) (((Int.toNat v758) + (Int.toNat ((qv756.2.length : Nat) : Int) - Int.toNat v758) : Nat) : Int)).length : Nat) : Int)) (0 : Int))).length = qv756.2.length)) (.leaf (.slc qv756.1 z0.1 (verAt L qv756.1) ((overL (overL qv756.2 ((Int.toNat (0 : Int)) + (Int.toNat v757 - Int.toNat (0 : Int))) (AM.sub qv756.2 ((Int.toNat v758 : Nat) : Int) (((Int.toNat v758) + (Int.toNat ((qv756.2.length : Nat) : Int) - Int.toNat v758) : Nat) : Int))) ((Int.toNat (0 : Int)) + Int.toNat (((Int.toNat v757 - Int.toNat (0 : Int)) + (AM.sub qv756.2 ((Int.toNat v758 : Nat) : Int) (((Int.toNat v758) + (Int.toNat ((qv756.2.length : Nat) : Int) - Int.toNat v758) : Nat) : Int)).length : Nat) : Int)) (List.replicate (Int.toNat ((qv756.2.length : Nat) : Int) - Int.toNat (((Int.toNat v757 - Int.toNat (0 : Int)) + (AM.sub qv756.2 ((Int.toNat v758 : Nat) : Int) (((Int.toNat v758) + (Int.toNat ((qv756.2.length : Nat) : Int) - Int.toNat v758) : Nat) : Int)).length : Nat) : Int)) (0 : Int))).length) z0.2, setB L [(qv756.1, .row (.i64 (overL (overL qv756.2 ((Int.toNat (0 : Int)) + (Int.toNat v757 - Int.toNat (0 : Int))) (AM.sub qv756.2 ((Int.toNat v758 : Nat) : Int) (((Int.toNat v758) + (Int.toNat ((qv756.2.length : Nat) : Int) - Int.toNat v758) : Nat) : Int))) ((Int.toNat (0 : Int)) + Int.toNat (((Int.toNat v757 - Int.toNat (0 : Int)) + (AM.sub qv756.2 ((Int.toNat v758 : Nat) : Int) (((Int.toNat v758) + (Int.toNat ((qv756.2.length : Nat) : Int) - Int.toNat v758) : Nat) : Int)).length : Nat) : Int)) (List.replicate (Int.toNat ((qv756.2.length : Nat) : Int) - Int.toNat (((Int.toNat v757 - Int.toNat (0 : Int)) + (AM.sub qv756.2 ((Int.toNat v758 : Nat) : Int) (((Int.toNat v758) + (Int.toNat ((qv756.2.length : Nat) : Int) - Int.toNat v758) : Nat) : Int)).length : Nat) : Int)) (0 : Int)))) (verAt L qv756.1))] ++ [])))
    | false => .fail)
  | _ => .fail
theorem slices_DeleteI_Fok : COk Try.prog 135 slices_DeleteI_F false := by
  intro F L H args r L' hs ha hr
  unfold slices_DeleteI_F at hr
  split at hr
  · rename_i a1 v757 v758
    obtain ⟨⟨jv756, v756⟩, hqv756, hr⟩ := optT_run hr
    simp only at hr
    split at hr
    · rename_i hsep
      obtain ⟨hnd, hsepv⟩ := sepB_spec hsep
      simp only [Tree.run] at hr
      obtain ⟨y, hy, hr⟩ := Option.bind_eq_some_iff.1 hr
      cases y with
      | inl y =>
        try simp only [Tree.run] at hr
        obtain ⟨hl0, hr⟩ := ite_run hr
        simp only [Option.some.injEq, Prod.mk.injEq] at hr
        obtain ⟨rfl, rfl⟩ := hr
        obtain ⟨hr0, hu0, ha0, hb0⟩ := (ownR_spec (DVs.okAt ha 0 rfl) (ownI64_or hqv756))
        exact mutG_ok hs [a1] ⟨(DVs.okAt ha 0 rfl), trivial⟩ [a1, .int .i64 v757, .int .i64 v758] [.own 0 0 v756.length, .int .i64 v757, .int .i64 v758] [jv756] [verAt L jv756] [.row (.i64 v756) 0] [.row (.i64 v756) 0] [.row (.i64 v756) (verAt L jv756)] [] hnd rfl rfl (fun j hj => by
            simp at hj
            subst hj; exact ex_row hr0) (fun j hj => by
            simp at hj
            subst hj; exact reach_refs (by simp [DVs.refs, DV.refs, hu0])) (fun F' h0 hρ ab hpl hS => by
            have ab0 := ab 0 _ rfl;
            refine ⟨fun i j b' h1 h2 => ?_, by simp [DBlk.blk, DVs.av, DV.av, BR.av, hρ, Row.len, ha0, ab0], fun hst => slices_DeleteI_fn v756 v757 v758 F' hst ⟨⟨_, rfl, Nat.le_refl _, Nat.le_refl _, fun _ => rfl, (ownR_spec (DVs.okAt ha 0 rfl) (ownI64_or hqv756)).2.2.2⟩, trivial, trivial, trivial⟩ hy⟩
            rcases i with _ | i
            · simp at h1 h2; subst h1; subst h2; obtain ⟨ver_, hv_⟩ := hr0; exact ⟨_, hv_, .row _ _ _, rfl, hb0⟩
            · simp at h1) rfl rfl (fun i j b b' h1 h2 h3 => by
            rcases i with _ | i
            · simp at h1; subst h1; cases h3; exact growK hr0 (by first | exact of_decide_eq_true hl0 | rfl) h2
            · simp at h1)
      | inr y =>
        try simp only [Tree.run] at hr
        obtain ⟨hl0, hr⟩ := ite_run hr
        simp only [Option.some.injEq, Prod.mk.injEq] at hr
        obtain ⟨rfl, rfl⟩ := hr
        obtain ⟨hr0, hu0, ha0, hb0⟩ := (ownR_spec (DVs.okAt ha 0 rfl) (ownI64_or hqv756))
        exact mutG_ok hs [a1] ⟨(DVs.okAt ha 0 rfl), trivial⟩ [a1, .int .i64 v757, .int .i64 v758] [.own 0 0 v756.length, .int .i64 v757, .int .i64 v758] [jv756] [verAt L jv756] [.row (.i64 v756) 0] [.row (.i64 (overL (overL v756 ((Int.toNat (0 : Int)) + (Int.toNat v757 - Int.toNat (0 : Int))) (AM.sub v756 ((Int.toNat v758 : Nat) : Int) (((Int.toNat v758) + (Int.toNat ((v756.length : Nat) : Int) - Int.toNat v758) : Nat) : Int))) ((Int.toNat (0 : Int)) + Int.toNat (((Int.toNat v757 - Int.toNat (0 : Int)) + (AM.sub v756 ((Int.toNat v758 : Nat) : Int) (((Int.toNat v758) + (Int.toNat ((v756.length : Nat) : Int) - Int.toNat v758) : Nat) : Int)).length : Nat) : Int)) (List.replicate (Int.toNat ((v756.length : Nat) : Int) - Int.toNat (((Int.toNat v757 - Int.toNat (0 : Int)) + (AM.sub v756 ((Int.toNat v758 : Nat) : Int) (((Int.toNat v758) + (Int.toNat ((v756.length : Nat) : Int) - Int.toNat v758) : Nat) : Int)).length : Nat) : Int)) (0 : Int)))) 0] [.row (.i64 (overL (overL v756 ((Int.toNat (0 : Int)) + (Int.toNat v757 - Int.toNat (0 : Int))) (AM.sub v756 ((Int.toNat v758 : Nat) : Int) (((Int.toNat v758) + (Int.toNat ((v756.length : Nat) : Int) - Int.toNat v758) : Nat) : Int))) ((Int.toNat (0 : Int)) + Int.toNat (((Int.toNat v757 - Int.toNat (0 : Int)) + (AM.sub v756 ((Int.toNat v758 : Nat) : Int) (((Int.toNat v758) + (Int.toNat ((v756.length : Nat) : Int) - Int.toNat v758) : Nat) : Int)).length : Nat) : Int)) (List.replicate (Int.toNat ((v756.length : Nat) : Int) - Int.toNat (((Int.toNat v757 - Int.toNat (0 : Int)) + (AM.sub v756 ((Int.toNat v758 : Nat) : Int) (((Int.toNat v758) + (Int.toNat ((v756.length : Nat) : Int) - Int.toNat v758) : Nat) : Int)).length : Nat) : Int)) (0 : Int)))) (verAt L jv756)] [] hnd rfl rfl (fun j hj => by
            simp at hj
            subst hj; exact ex_row hr0) (fun j hj => by
            simp at hj
            subst hj; exact reach_refs (by simp [DVs.refs, DV.refs, hu0])) (fun F' h0 hρ ab hpl hS => by
            have ab0 := ab 0 _ rfl;
            refine ⟨fun i j b' h1 h2 => ?_, by simp [DBlk.blk, DVs.av, DV.av, BR.av, hρ, Row.len, ha0, ab0], fun hst => slices_DeleteI_fn v756 v757 v758 F' hst ⟨⟨_, rfl, Nat.le_refl _, Nat.le_refl _, fun _ => rfl, (ownR_spec (DVs.okAt ha 0 rfl) (ownI64_or hqv756)).2.2.2⟩, trivial, trivial, trivial⟩ hy⟩
            rcases i with _ | i
            · simp at h1 h2; subst h1; subst h2; obtain ⟨ver_, hv_⟩ := hr0; exact ⟨_, hv_, .row _ _ _, rfl, hb0⟩
            · simp at h1) rfl rfl (fun i j b b' h1 h2 h3 => by
            rcases i with _ | i
            · simp at h1; subst h1; cases h3; exact growK hr0 (by first | exact of_decide_eq_true hl0 | rfl) h2
            · simp at h1)
    · cases hr
  · cases hr
/-! (impl.Whole).minor -/
noncomputable def impl_Whole_minor_i4_l0_T (v802 : Int) (v803 : List Int) (v804 : List Int) (v805 : List Int) (s : Int × Int) : Tree ((Int × Int) ⊕ (Unit)) :=
  (.br (decide (s.2 < ((v805.length : Nat) : Int))) (
   (.grd (inb s.2 v805.length) <|
   (.grd (inb (0 : Int) v804.length) <|
   (.call (impl_Whole_at_g v802 v803 (nth v804 (Int.toNat (0 : Int))) (nth v805 (Int.toNat s.2))) fun v823 =>
   (.br (!decide (v823 = (0 : Int))) (
    (.grd (sok (1 : Int) ((v804.length : Nat) : Int) v804.length) <|
    (.call (slices_CloneI_g v805) fun v824 =>
    (.call (slices_DeleteI_g (([] : List Int) ++ v805) s.2 (IntKind.i64.wrap (s.2 + (1 : Int)))) fun v825 =>
    (.sum v825 (fun v826 =>
     (.grd (decide ((([] : List Int) ++ v805).length = (([] : List Int) ++ v805).length)) <|
     .fail)
    ) (fun v827 =>
     (.grd (decide ((overL (overL (([] : List Int) ++ v805) ((Int.toNat (0 : Int)) + (Int.toNat s.2 - Int.toNat (0 : Int))) (AM.sub (([] : List Int) ++ v805) ((Int.toNat (IntKind.i64.wrap (s.2 + (1 : Int))) : Nat) : Int) (((Int.toNat (IntKind.i64.wrap (s.2 + (1 : Int)))) + (Int.toNat (((([] : List Int) ++ v805).length : Nat) : Int) - Int.toNat (IntKind.i64.wrap (s.2 + (1 : Int)))) : Nat) : Int))) ((Int.toNat (0 : Int)) + Int.toNat (((Int.toNat s.2 - Int.toNat (0 : Int)) + (AM.sub (([] : List Int) ++ v805) ((Int.toNat (IntKind.i64.wrap (s.2 + (1 : Int))) : Nat) : Int) (((Int.toNat (IntKind.i64.wrap (s.2 + (1 : Int)))) + (Int.toNat (((([] : List Int) ++ v805).length : Nat) : Int) - Int.toNat (IntKind.i64.wrap (s.2 + (1 : Int)))) : Nat) : Int)).length : Nat) : Int)) (List.replicate (Int.toNat (((([] : List Int) ++ v805).length : Nat) : Int) - Int.toNat (((Int.toNat s.2 - Int.toNat (0 : Int)) + (AM.sub (([] : List Int) ++ v805) ((Int.toNat (IntKind.i64.wrap (s.2 + (1 : Int))) : Nat) : Int) (((Int.toNat (IntKind.i64.wrap (s.2 + (1 : Int)))) + (Int.toNat (((([] : List Int) ++ v805).length : Nat) : Int) - Int.toNat (IntKind.i64.wrap (s.2 + (1 : Int)))) : Nat) : Int)).length : Nat) : Int)) (0 : Int))).length = (([] : List Int) ++ v805).length)) <|
     .fail)
    )))))
   ) (
    .leaf (.inl (IntKind.i64.wrap (0 - s.1), IntKind.i64.wrap (s.2 + (1 : Int))))
   )))))
  ) (
   .leaf (.inr ())
  ))

noncomputable def impl_Whole_minor_i4_l0_g (v802 : Int) (v803 : List Int) (v804 : List Int) (v805 : List Int) (s0 : Int × Int) : Option (Unit) := whileM (fun s => (impl_Whole_minor_i4_l0_T v802 v803 v804 v805 s).run) s0
def impl_Whole_minor_i4_l0_E (v801 : Int) (v802 : Int) (v803 : List Int) (v804 : List Int) (v805 : List Int) (s : Int × Int) : Sd := ([tp,.bslc (BR.root 1) (.i64 v804),.bslc (BR.root 2) (.i64 v805),.ptr 0 (0 : Nat) 0 (3 : Nat),tp,tp,tp,.int .i64 (0 : Int),.int .i64 s.1,tp,tp,tp,tp,tp,tp,.bslc (BR.root 2) (.i64 v805),.int .i64 ((v805.length : Nat) : Int),.int .i64 s.2,tp,tp,tp,tp,tp,tp,tp,tp,tp,tp,tp,tp,tp,tp,tp,tp,tp,tp,tp,tp,tp,tp,tp,tp,tp,tp,tp,tp,tp,tp,tp,tp], [.gen [.int .i64 v801, .int .i64 v802, .bslc (BR.root 0) (.i64 v803)] false 0])
def impl_Whole_minor_i4_l0_X (v801 : Int) (v802 : Int) (v803 : List Int) (v804 : List Int) (v805 : List Int) (x : Unit) : Out := (.normal, [tp,tp,tp,tp,tp,tp,tp,.int .i64 (0 : Int),tp,tp,tp,tp,tp,tp,tp,tp,tp,tp,tp,tp,tp,tp,tp,tp,tp,tp,tp,tp,tp,tp,tp,tp,tp,tp,tp,tp,tp,tp,tp,tp,tp,tp,tp,tp,tp,tp,tp,tp,tp,tp], [])
def impl_Whole_minor_i4_l0_kill : List Nat := KL true [1,3,3,2,6,3,32]
def impl_Whole_minor_i4_l0_nx : Exit → List Nat
  | .exit 0 => KL true [7,1,42]
  | .ret => KL true [6,1,43]
  | _ => []
noncomputable def impl_Whole_minor_i4_LO (v801 : Int) (v802 : Int) (v803 : List Int) (v804 : List Int) (v805 : List Int) : LOr := fun id e L =>
  match id with
  | 0 => .need (normA 0 impl_Whole_minor_i4_l0_kill e L = some (impl_Whole_minor_i4_l0_E v801 v802 v803 v804 v805 ((gI (vAt e 8)), (gI (vAt e 17))))) (.call (impl_Whole_minor_i4_l0_g v802 v803 v804 v805 ((gI (vAt e 8)), (gI (vAt e 17)))) fun x => .leaf (impl_Whole_minor_i4_l0_X v801 v802 v803 v804 v805 x))
  | _ => .fail
noncomputable def impl_Whole_minor_i4_tab : List (FuncId × DFn × Bool) := [(134, impl_Whole_at_F, true), (90, slices_CloneI_F, true), (135, slices_DeleteI_F, false)]
theorem impl_Whole_minor_i4_hO : OrcOk Try.prog (tabD impl_Whole_minor_i4_tab) (tabM impl_Whole_minor_i4_tab) := tabD_cons impl_Whole_at_Fok (tabD_cons slices_CloneI_Fok (tabD_cons slices_DeleteI_Fok (tabD_nil _)))
theorem impl_Whole_minor_i4_l0_be (v801 : Int) (v802 : Int) (v803 : List Int) (v804 : List Int) (v805 : List Int) (s : Int × Int) : bodyT TT (tabD impl_Whole_minor_i4_tab) (tabM impl_Whole_minor_i4_tab) (impl_Whole_minor_i4_LO v801 v802 v803 v804 v805) 0 impl_Whole_minor_i4_l0_kill impl_Whole_minor_i4_l0_nx (bodyOf Try.f79 0) 0 (impl_Whole_minor_i4_l0_E v801 v802 v803 v804 v805 s) = (impl_Whole_minor_i4_l0_T v802 v803 v804 v805 s).bind fun y => .leaf (outS (impl_Whole_minor_i4_l0_E v801 v802 v803 v804 v805) (impl_Whole_minor_i4_l0_X v801 v802 v803 v804 v805) y) := by kernel_rfl
theorem impl_Whole_minor_i4_l0_ok (v801 : Int) (v802 : Int) (v803 : List Int) (v804 : List Int) (v805 : List Int) : LSound Try.prog 0 (impl_Whole_minor_i4_LO v801 v802 v803 v804 v805) 0 (bodyOf Try.f79 0) := by
  intro e L out h
  exact lo_ok (E := impl_Whole_minor_i4_l0_E v801 v802 v803 v804 v805) (gT := impl_Whole_minor_i4_l0_T v802 v803 v804 v805) (X := impl_Whole_minor_i4_l0_X v801 v802 v803 v804 v805) (s0 := ((gI (vAt e 8)), (gI (vAt e 17)))) tok impl_Whole_minor_i4_hO mixed (LoopsOk_eq (l := []) (by kernel_rfl) trivial) (impl_Whole_minor_i4_l0_be v801 v802 v803 v804 v805) rfl (by intro x; rfl) h
noncomputable def impl_Whole_minor_i4_T (v801 : Int) (v802 : Int) (v803 : List Int) (v804 : List Int) (v805 : List Int) : Tree (Int) :=
  (.br (decide (((v804.length : Nat) : Int) = (0 : Int))) (
   .leaf (1 : Int)
  ) (
   (.need (some (impl_Whole_minor_i4_l0_E v801 v802 v803 v804 v805 ((1 : Int), (0 : Int))) = some (impl_Whole_minor_i4_l0_E v801 v802 v803 v804 v805 ((1 : Int), (0 : Int)))) <|
   (.call (impl_Whole_minor_i4_l0_g v802 v803 v804 v805 ((1 : Int), (0 : Int))) fun v828 =>
   .leaf (0 : Int)))
  ))

noncomputable def impl_Whole_minor_i4_g (v801 : Int) (v802 : Int) (v803 : List Int) (v804 : List Int) (v805 : List Int) : Option (Int) := (impl_Whole_minor_i4_T v801 v802 v803 v804 v805).run
def impl_Whole_minor_i4_enc (v801 : Int) (v802 : Int) (v803 : List Int) (v804 : List Int) (v805 : List Int) (y : Int) : Rs := (.int .i64 y, [])
theorem impl_Whole_minor_i4_den (v801 : Int) (v802 : Int) (v803 : List Int) (v804 : List Int) (v805 : List Int) : (den TT (tabD impl_Whole_minor_i4_tab) (tabM impl_Whole_minor_i4_tab) (impl_Whole_minor_i4_LO v801 v802 v803 v804 v805) (codeOf Try.f79) ([.agg [.int .i64 v801, .int .i64 v802, .bslc (BR.root 0) (.i64 v803)], .bslc (BR.root 1) (.i64 v804), .bslc (BR.root 2) (.i64 v805)] ++ List.replicate (Try.f79.ntmps - ([.agg [.int .i64 v801, .int .i64 v802, .bslc (BR.root 0) (.i64 v803)], .bslc (BR.root 1) (.i64 v804), .bslc (BR.root 2) (.i64 v805)] : List DV).length) .undef) []).bind (retD TT Try.f79.results.toList 0) = (impl_Whole_minor_i4_T v801 v802 v803 v804 v805).bind fun y => .leaf (impl_Whole_minor_i4_enc v801 v802 v803 v804 v805 y) := by kernel_rfl
theorem impl_Whole_minor_i4_fn (v801 : Int) (v802 : Int) (v803 : List Int) (v804 : List Int) (v805 : List Int) (F : Fr) (h0 : St F [] F.H0) (hA : DVs.Ok F [] [.agg [.int .i64 v801, .int .i64 v802, .bslc (BR.root 0) (.i64 v803)], .bslc (BR.root 1) (.i64 v804), .bslc (BR.root 2) (.i64 v805)]) {y : Int} (hy : impl_Whole_minor_i4_g v801 v802 v803 v804 v805 = some y) : ∃ F' H', Fwd 0 F F' [] (impl_Whole_minor_i4_enc v801 v802 v803 v804 v805 y).2 ∧ FnOk Try.prog 79 (DVs.av F [.agg [.int .i64 v801, .int .i64 v802, .bslc (BR.root 0) (.i64 v803)], .bslc (BR.root 1) (.i64 v804), .bslc (BR.root 2) (.i64 v805)]) F.H0 ((impl_Whole_minor_i4_enc v801 v802 v803 v804 v805 y).1.av F') H' ∧ St F' (impl_Whole_minor_i4_enc v801 v802 v803 v804 v805 y).2 H' ∧ (impl_Whole_minor_i4_enc v801 v802 v803 v804 v805 y).1.Ok F' (impl_Whole_minor_i4_enc v801 v802 v803 v804 v805 y).2 :=
  fn_fin tok impl_Whole_minor_i4_hO mixed Try.func79 Try.call79 (by kernel_rfl) (LoopsOk_eq (l := [(0, bodyOf Try.f79 0)]) (by kernel_rfl) ⟨impl_Whole_minor_i4_l0_ok v801 v802 v803 v804 v805, trivial⟩) (impl_Whole_minor_i4_den v801 v802 v803 v804 v805) hy h0 hA
noncomputable def impl_Whole_minor_i4_F : DFn := fun args L =>
  match args with
  | [.agg [.int .i64 v801, .int .i64 v802, a1], a2, a3] =>
    optT (rowI64 L a1) fun v803 =>
    optT (rowI64 L a2) fun v804 =>
    optT (rowI64 L a3) fun v805 =>
    .call (impl_Whole_minor_i4_g v801 v802 v803 v804 v805) fun y => .leaf (.int .i64 y, L)
  | _ => .fail
theorem impl_Whole_minor_i4_Fok : COk Try.prog 79 impl_Whole_minor_i4_F true := by
  intro F L H args r L' hs ha hr
  unfold impl_Whole_minor_i4_F at hr
  split at hr
  · rename_i v801 v802 a1 a2 a3
    obtain ⟨v803, hv803, hr⟩ := optT_run hr
    obtain ⟨v804, hv804, hr⟩ := optT_run hr
    obtain ⟨v805, hv805, hr⟩ := optT_run hr
    simp only [Tree.run] at hr
    obtain ⟨y, hy, hr⟩ := Option.bind_eq_some_iff.1 hr
    simp only [Tree.run, Option.some.injEq, Prod.mk.injEq] at hr
    obtain ⟨rfl, rfl⟩ := hr
    exact call_ok0 hs (fun k => (([a1.av F, a2.av F, a3.av F] : List AV)[k]?).getD .top) [.agg [.int .i64 v801, .int .i64 v802, a1], a2, a3] [.agg [.int .i64 v801, .int .i64 v802, .bslc (BR.root 0) (.i64 v803)], .bslc (BR.root 1) (.i64 v804), .bslc (BR.root 2) (.i64 v805)] (fun F' h0 hi hρ => ⟨by simp [DVs.av, DV.av, BR.av, hρ], impl_Whole_minor_i4_fn v801 v802 v803 v804 v805 F' (st_nil hi) ⟨⟨trivial, trivial, bslc_ok hi (by rw [h0, hρ]; exact rowI64_ok hs (DVs.okAt (DVs.okAt ha 0 rfl) 2 rfl) hv803), trivial⟩, bslc_ok hi (by rw [h0, hρ]; exact rowI64_ok hs (DVs.okAt ha 1 rfl) hv804), bslc_ok hi (by rw [h0, hρ]; exact rowI64_ok hs (DVs.okAt ha 2 rfl) hv805), trivial⟩ hy⟩) rfl
  · cases hr
/-! (impl.Whole).minor -/
noncomputable def impl_Whole_minor_i3_l0_T (v788 : Int) (v789 : Int) (v790 : List Int) (v791 : List Int) (v792 : List Int) (s : Int × Int × Int) : Tree ((Int × Int × Int) ⊕ (Int)) :=
  (.br (decide (s.2.2 < ((v792.length : Nat) : Int))) (
   (.grd (inb s.2.2 v792.length) <|
   (.grd (inb (0 : Int) v791.length) <|
   (.call (impl_Whole_at_g v789 v790 (nth v791 (Int.toNat (0 : Int))) (nth v792 (Int.toNat s.2.2))) fun v844 =>
   (.br (!decide (v844 = (0 : Int))) (
    (.grd (sok (1 : Int) ((v791.length : Nat) : Int) v791.length) <|
    (.call (slices_CloneI_g v792) fun v845 =>
    (.call (slices_DeleteI_g (([] : List Int) ++ v792) s.2.2 (IntKind.i64.wrap (s.2.2 + (1 : Int)))) fun v846 =>
    (.sum v846 (fun v847 =>
     (.grd (decide ((([] : List Int) ++ v792).length = (([] : List Int) ++ v792).length)) <|
     (.call (impl_Whole_minor_i4_g v788 v789 v790 (AM.sub v791 (1 : Int) ((v791.length : Nat) : Int)) (([] : List Int) ++ v792)) fun v849 =>
     .leaf (.inl (IntKind.i64.wrap (s.1 + (IntKind.i64.wrap ((IntKind.i64.wrap (s.2.1 * v844)) * v849))), IntKind.i64.wrap (0 - s.2.1), IntKind.i64.wrap (s.2.2 + (1 : Int))))))
    ) (fun v848 =>
     (.grd (decide ((overL (overL (([] : List Int) ++ v792) ((Int.toNat (0 : Int)) + (Int.toNat s.2.2 - Int.toNat (0 : Int))) (AM.sub (([] : List Int) ++ v792) ((Int.toNat (IntKind.i64.wrap (s.2.2 + (1 : Int))) : Nat) : Int) (((Int.toNat (IntKind.i64.wrap (s.2.2 + (1 : Int)))) + (Int.toNat (((([] : List Int) ++ v792).length : Nat) : Int) - Int.toNat (IntKind.i64.wrap (s.2.2 + (1 : Int)))) : Nat) : Int))) ((Int.toNat (0 : Int)) + Int.toNat (((Int.toNat s.2.2 - Int.toNat (0 : Int)) + (AM.sub (([] : List Int) ++ v792) ((Int.toNat (IntKind.i64.wrap (s.2.2 + (1 : Int))) : Nat) : Int) (((Int.toNat (IntKind.i64.wrap (s.2.2 + (1 : Int)))) + (Int.toNat (((([] : List Int) ++ v792).length : Nat) : Int) - Int.toNat (IntKind.i64.wrap (s.2.2 + (1 : Int)))) : Nat) : Int)).length : Nat) : Int)) (List.replicate (Int.toNat (((([] : List Int) ++ v792).length : Nat) : Int) - Int.toNat (((Int.toNat s.2.2 - Int.toNat (0 : Int)) + (AM.sub (([] : List Int) ++ v792) ((Int.toNat (IntKind.i64.wrap (s.2.2 + (1 : Int))) : Nat) : Int) (((Int.toNat (IntKind.i64.wrap (s.2.2 + (1 : Int)))) + (Int.toNat (((([] : List Int) ++ v792).length : Nat) : Int) - Int.toNat (IntKind.i64.wrap (s.2.2 + (1 : Int)))) : Nat) : Int)).length : Nat) : Int)) (0 : Int))).length = (([] : List Int) ++ v792).length)) <|
     (.call (impl_Whole_minor_i4_g v788 v789 v790 (AM.sub v791 (1 : Int) ((v791.length : Nat) : Int)) (AM.sub (overL (overL (([] : List Int) ++ v792) ((Int.toNat (0 : Int)) + (Int.toNat s.2.2 - Int.toNat (0 : Int))) (AM.sub (([] : List Int) ++ v792) ((Int.toNat (IntKind.i64.wrap (s.2.2 + (1 : Int))) : Nat) : Int) (((Int.toNat (IntKind.i64.wrap (s.2.2 + (1 : Int)))) + (Int.toNat (((([] : List Int) ++ v792).length : Nat) : Int) - Int.toNat (IntKind.i64.wrap (s.2.2 + (1 : Int)))) : Nat) : Int))) ((Int.toNat (0 : Int)) + Int.toNat (((Int.toNat s.2.2 - Int.toNat (0 : Int)) + (AM.sub (([] : List Int) ++ v792) ((Int.toNat (IntKind.i64.wrap (s.2.2 + (1 : Int))) : Nat) : Int) (((Int.toNat (IntKind.i64.wrap (s.2.2 + (1 : Int)))) + (Int.toNat (((([] : List Int) ++ v792).length : Nat) : Int) - Int.toNat (IntKind.i64.wrap (s.2.2 + (1 : Int)))) : Nat) : Int)).length : Nat) : Int)) (List.replicate (Int.toNat (((([] : List Int) ++ v792).length : Nat) : Int) - Int.toNat (((Int.toNat s.2.2 - Int.toNat (0 : Int)) + (AM.sub (([] : List Int) ++ v792) ((Int.toNat (IntKind.i64.wrap (s.2.2 + (1 : Int))) : Nat) : Int) (((Int.toNat (IntKind.i64.wrap (s.2.2 + (1 : Int)))) + (Int.toNat (((([] : List Int) ++ v792).length : Nat) : Int) - Int.toNat (IntKind.i64.wrap (s.2.2 + (1 : Int)))) : Nat) : Int)).length : Nat) : Int)) (0 : Int))) ((v848.1 : Nat) : Int) ((v848.1 + v848.2 : Nat) : Int))) fun v850 =>
     .leaf (.inl (IntKind.i64.wrap (s.1 + (IntKind.i64.wrap ((IntKind.i64.wrap (s.2.1 * v844)) * v850))), IntKind.i64.wrap (0 - s.2.1), IntKind.i64.wrap (s.2.2 + (1 : Int))))))
    )))))
   ) (
    .leaf (.inl (s.1, IntKind.i64.wrap (0 - s.2.1), IntKind.i64.wrap (s.2.2 + (1 : Int))))
   )))))
  ) (
   .leaf (.inr s.1)
  ))

noncomputable def impl_Whole_minor_i3_l0_g (v788 : Int) (v789 : Int) (v790 : List Int) (v791 : List Int) (v792 : List Int) (s0 : Int × Int × Int) : Option (Int) := whileM (fun s => (impl_Whole_minor_i3_l0_T v788 v789 v790 v791 v792 s).run) s0
def impl_Whole_minor_i3_l0_E (v788 : Int) (v789 : Int) (v790 : List Int) (v791 : List Int) (v792 : List Int) (s : Int × Int × Int) : Sd := ([tp,.bslc (BR.root 1) (.i64 v791),.bslc (BR.root 2) (.i64 v792),.ptr 0 (0 : Nat) 0 (3 : Nat),tp,tp,tp,.int .i64 s.1,.int .i64 s.2.1,tp,tp,tp,tp,tp,tp,.bslc (BR.root 2) (.i64 v792),.int .i64 ((v792.length : Nat) : Int),.int .i64 s.2.2,tp,tp,tp,tp,tp,tp,tp,tp,tp,tp,tp,tp,tp,tp,tp,tp,tp,tp,tp,tp,tp,tp,tp,tp,tp,tp,tp,tp,tp,tp,tp,tp], [.gen [.int .i64 v788, .int .i64 v789, .bslc (BR.root 0) (.i64 v790)] false 0])
def impl_Whole_minor_i3_l0_X (v788 : Int) (v789 : Int) (v790 : List Int) (v791 : List Int) (v792 : List Int) (x : Int) : Out := (.normal, [tp,tp,tp,tp,tp,tp,tp,.int .i64 x,tp,tp,tp,tp,tp,tp,tp,tp,tp,tp,tp,tp,tp,tp,tp,tp,tp,tp,tp,tp,tp,tp,tp,tp,tp,tp,tp,tp,tp,tp,tp,tp,tp,tp,tp,tp,tp,tp,tp,tp,tp,tp], [])
def impl_Whole_minor_i3_l0_kill : List Nat := KL true [1,3,3,2,6,3,32]
def impl_Whole_minor_i3_l0_nx : Exit → List Nat
  | .exit 0 => KL true [7,1,42]
  | .ret => KL true [6,1,43]
  | _ => []
noncomputable def impl_Whole_minor_i3_LO (v788 : Int) (v789 : Int) (v790 : List Int) (v791 : List Int) (v792 : List Int) : LOr := fun id e L =>
  match id with
  | 0 => .need (normA 0 impl_Whole_minor_i3_l0_kill e L = some (impl_Whole_minor_i3_l0_E v788 v789 v790 v791 v792 ((gI (vAt e 7)), (gI (vAt e 8)), (gI (vAt e 17))))) (.call (impl_Whole_minor_i3_l0_g v788 v789 v790 v791 v792 ((gI (vAt e 7)), (gI (vAt e 8)), (gI (vAt e 17)))) fun x => .leaf (impl_Whole_minor_i3_l0_X v788 v789 v790 v791 v792 x))
  | _ => .fail
noncomputable def impl_Whole_minor_i3_tab : List (FuncId × DFn × Bool) := [(134, impl_Whole_at_F, true), (90, slices_CloneI_F, true), (135, slices_DeleteI_F, false), (79, impl_Whole_minor_i4_F, true)]
theorem impl_Whole_minor_i3_hO : OrcOk Try.prog (tabD impl_Whole_minor_i3_tab) (tabM impl_Whole_minor_i3_tab) := tabD_cons impl_Whole_at_Fok (tabD_cons slices_CloneI_Fok (tabD_cons slices_DeleteI_Fok (tabD_cons impl_Whole_minor_i4_Fok (tabD_nil _))))
theorem impl_Whole_minor_i3_l0_be (v788 : Int) (v789 : Int) (v790 : List Int) (v791 : List Int) (v792 : List Int) (s : Int × Int × Int) : bodyT TT (tabD impl_Whole_minor_i3_tab) (tabM impl_Whole_minor_i3_tab) (impl_Whole_minor_i3_LO v788 v789 v790 v791 v792) 0 impl_Whole_minor_i3_l0_kill impl_Whole_minor_i3_l0_nx (bodyOf Try.f79 0) 0 (impl_Whole_minor_i3_l0_E v788 v789 v790 v791 v792 s) = (impl_Whole_minor_i3_l0_T v788 v789 v790 v791 v792 s).bind fun y => .leaf (outS (impl_Whole_minor_i3_l0_E v788 v789 v790 v791 v792) (impl_Whole_minor_i3_l0_X v788 v789 v790 v791 v792) y) := by kernel_rfl
theorem impl_Whole_minor_i3_l0_ok (v788 : Int) (v789 : Int) (v790 : List Int) (v791 : List Int) (v792 : List Int) : LSound Try.prog 0 (impl_Whole_minor_i3_LO v788 v789 v790 v791 v792) 0 (bodyOf Try.f79 0) := by
  intro e L out h
  exact lo_ok (E := impl_Whole_minor_i3_l0_E v788 v789 v790 v791 v792) (gT := impl_Whole_minor_i3_l0_T v788 v789 v790 v791 v792) (X := impl_Whole_minor_i3_l0_X v788 v789 v790 v791 v792) (s0 := ((gI (vAt e 7)), (gI (vAt e 8)), (gI (vAt e 17)))) tok impl_Whole_minor_i3_hO mixed (LoopsOk_eq (l := []) (by kernel_rfl) trivial) (impl_Whole_minor_i3_l0_be v788 v789 v790 v791 v792) rfl (by intro x; rfl) h
noncomputable def impl_Whole_minor_i3_T (v788 : Int) (v789 : Int) (v790 : List Int) (v791 : List Int) (v792 : List Int) : Tree (Int) :=
  (.br (decide (((v791.length : Nat) : Int) = (0 : Int))) (
   .leaf (1 : Int)
  ) (
   (.need (some (impl_Whole_minor_i3_l0_E v788 v789 v790 v791 v792 ((0 : Int), (1 : Int), (0 : Int))) = some (impl_Whole_minor_i3_l0_E v788 v789 v790 v791 v792 ((0 : Int), (1 : Int), (0 : Int)))) <|
   (.call (impl_Whole_minor_i3_l0_g v788 v789 v790 v791 v792 ((0 : Int), (1 : Int), (0 : Int))) fun v851 =>
   .leaf v851))
  ))

noncomputable def impl_Whole_minor_i3_g (v788 : Int) (v789 : Int) (v790 : List Int) (v791 : List Int) (v792 : List Int) : Option (Int) := (impl_Whole_minor_i3_T v788 v789 v790 v791 v792).run
def impl_Whole_minor_i3_enc (v788 : Int) (v789 : Int) (v790 : List Int) (v791 : List Int) (v792 : List Int) (y : Int) : Rs := (.int .i64 y, [])
theorem impl_Whole_minor_i3_den (v788 : Int) (v789 : Int) (v790 : List Int) (v791 : List Int) (v792 : List Int) : (den TT (tabD impl_Whole_minor_i3_tab) (tabM impl_Whole_minor_i3_tab) (impl_Whole_minor_i3_LO v788 v789 v790 v791 v792) (codeOf Try.f79) ([.agg [.int .i64 v788, .int .i64 v789, .bslc (BR.root 0) (.i64 v790)], .bslc (BR.root 1) (.i64 v791), .bslc (BR.root 2) (.i64 v792)] ++ List.replicate (Try.f79.ntmps - ([.agg [.int .i64 v788, .int .i64 v789, .bslc (BR.root 0) (.i64 v790)], .bslc (BR.root 1) (.i64 v791), .bslc (BR.root 2) (.i64 v792)] : List DV).length) .undef) []).bind (retD TT Try.f79.results.toList 0) = (impl_Whole_minor_i3_T v788 v789 v790 v791 v792).bind fun y => .leaf (impl_Whole_minor_i3_enc v788 v789 v790 v791 v792 y) := by kernel_rfl
theorem impl_Whole_minor_i3_fn (v788 : Int) (v789 : Int) (v790 : List Int) (v791 : List Int) (v792 : List Int) (F : Fr) (h0 : St F [] F.H0) (hA : DVs.Ok F [] [.agg [.int .i64 v788, .int .i64 v789, .bslc (BR.root 0) (.i64 v790)], .bslc (BR.root 1) (.i64 v791), .bslc (BR.root 2) (.i64 v792)]) {y : Int} (hy : impl_Whole_minor_i3_g v788 v789 v790 v791 v792 = some y) : ∃ F' H', Fwd 0 F F' [] (impl_Whole_minor_i3_enc v788 v789 v790 v791 v792 y).2 ∧ FnOk Try.prog 79 (DVs.av F [.agg [.int .i64 v788, .int .i64 v789, .bslc (BR.root 0) (.i64 v790)], .bslc (BR.root 1) (.i64 v791), .bslc (BR.root 2) (.i64 v792)]) F.H0 ((impl_Whole_minor_i3_enc v788 v789 v790 v791 v792 y).1.av F') H' ∧ St F' (impl_Whole_minor_i3_enc v788 v789 v790 v791 v792 y).2 H' ∧ (impl_Whole_minor_i3_enc v788 v789 v790 v791 v792 y).1.Ok F' (impl_Whole_minor_i3_enc v788 v789 v790 v791 v792 y).2 :=
  fn_fin tok impl_Whole_minor_i3_hO mixed Try.func79 Try.call79 (by kernel_rfl) (LoopsOk_eq (l := [(0, bodyOf Try.f79 0)]) (by kernel_rfl) ⟨impl_Whole_minor_i3_l0_ok v788 v789 v790 v791 v792, trivial⟩) (impl_Whole_minor_i3_den v788 v789 v790 v791 v792) hy h0 hA
noncomputable def impl_Whole_minor_i3_F : DFn := fun args L =>
  match args with
  | [.agg [.int .i64 v788, .int .i64 v789, a1], a2, a3] =>
    optT (rowI64 L a1) fun v790 =>
    optT (rowI64 L a2) fun v791 =>
    optT (rowI64 L a3) fun v792 =>
    .call (impl_Whole_minor_i3_g v788 v789 v790 v791 v792) fun y => .leaf (.int .i64 y, L)
  | _ => .fail
theorem impl_Whole_minor_i3_Fok : COk Try.prog 79 impl_Whole_minor_i3_F true := by
  intro F L H args r L' hs ha hr
  unfold impl_Whole_minor_i3_F at hr
  split at hr
  · rename_i v788 v789 a1 a2 a3
    obtain ⟨v790, hv790, hr⟩ := optT_run hr
    obtain ⟨v791, hv791, hr⟩ := optT_run hr
    obtain ⟨v792, hv792, hr⟩ := optT_run hr
    simp only [Tree.run] at hr
    obtain ⟨y, hy, hr⟩ := Option.bind_eq_some_iff.1 hr
    simp only [Tree.run, Option.some.injEq, Prod.mk.injEq] at hr
    obtain ⟨rfl, rfl⟩ := hr
    exact call_ok0 hs (fun k => (([a1.av F, a2.av F, a3.av F] : List AV)[k]?).getD .top) [.agg [.int .i64 v788, .int .i64 v789, a1], a2, a3] [.agg [.int .i64 v788, .int .i64 v789, .bslc (BR.root 0) (.i64 v790)], .bslc (BR.root 1) (.i64 v791), .bslc (BR.root 2) (.i64 v792)] (fun F' h0 hi hρ => ⟨by simp [DVs.av, DV.av, BR.av, hρ], impl_Whole_minor_i3_fn v788 v789 v790 v791 v792 F' (st_nil hi) ⟨⟨trivial, trivial, bslc_ok hi (by rw [h0, hρ]; exact rowI64_ok hs (DVs.okAt (DVs.okAt ha 0 rfl) 2 rfl) hv790), trivial⟩, bslc_ok hi (by rw [h0, hρ]; exact rowI64_ok hs (DVs.okAt ha 1 rfl) hv791), bslc_ok hi (by rw [h0, hρ]; exact rowI64_ok hs (DVs.okAt ha 2 rfl) hv792), trivial⟩ hy⟩) rfl
  · cases hr
/-! (impl.Whole).minor -/
noncomputable def impl_Whole_minor_i2_l0_T (v775 : Int) (v776 : Int) (v777 : List Int) (v778 : List Int) (v779 : List Int) (s : Int × Int × Int) : Tree ((Int × Int × Int) ⊕ (Int)) :=
  (.br (decide (s.2.2 < ((v779.length : Nat) : Int))) (
   (.grd (inb s.2.2 v779.length) <|
   (.grd (inb (0 : Int) v778.length) <|
   (.call (impl_Whole_at_g v776 v777 (nth v778 (Int.toNat (0 : Int))) (nth v779 (Int.toNat s.2.2))) fun v867 =>
   (.br (!decide (v867 = (0 : Int))) (
    (.grd (sok (1 : Int) ((v778.length : Nat) : Int) v778.length) <|
    (.call (slices_CloneI_g v779) fun v868 =>
    (.call (slices_DeleteI_g (([] : List Int) ++ v779) s.2.2 (IntKind.i64.wrap (s.2.2 + (1 : Int)))) fun v869 =>
    (.sum v869 (fun v870 =>
     (.grd (decide ((([] : List Int) ++ v779).length = (([] : List Int) ++ v779).length)) <|
     (.call (impl_Whole_minor_i3_g v775 v776 v777 (AM.sub v778 (1 : Int) ((v778.length : Nat) : Int)) (([] : List Int) ++ v779)) fun v872 =>
     .leaf (.inl (IntKind.i64.wrap (s.1 + (IntKind.i64.wrap ((IntKind.i64.wrap (s.2.1 * v867)) * v872))), IntKind.i64.wrap (0 - s.2.1), IntKind.i64.wrap (s.2.2 + (1 : Int))))))
    ) (fun v871 =>
     (.grd (decide ((overL (overL (([] : List Int) ++ v779) ((Int.toNat (0 : Int)) + (Int.toNat s.2.2 - Int.toNat (0 : Int))) (AM.sub (([] : List Int) ++ v779) ((Int.toNat (IntKind.i64.wrap (s.2.2 + (1 : Int))) : Nat) : Int) (((Int.toNat (IntKind.i64.wrap (s.2.2 + (1 : Int)))) + (Int.toNat (((([] : List Int) ++ v779).length : Nat) : Int) - Int.toNat (IntKind.i64.wrap (s.2.2 + (1 : Int)))) : Nat) : Int))) ((Int.toNat (0 : Int)) + Int.toNat (((Int.toNat s.2.2 - Int.toNat (0 : Int)) + (AM.sub (([] : List Int) ++ v779) ((Int.toNat (IntKind.i64.wrap (s.2.2 + (1 : Int))) : Nat) : Int) (((Int.toNat (IntKind.i64.wrap (s.2.2 + (1 : Int)))) + (Int.toNat (((([] : List Int) ++ v779).length : Nat) : Int) - Int.toNat (IntKind.i64.wrap (s.2.2 + (1 : Int)))) : Nat) : Int)).length : Nat) : Int)) (List.replicate (Int.toNat (((([] : List Int) ++ v779).length : Nat) : Int) - Int.toNat (((Int.toNat s.2.2 - Int.toNat (0 : Int)) + (AM.sub (([] : List Int) ++ v779) ((Int.toNat (IntKind.i64.wrap (s.2.2 + (1 : Int))) : Nat) : Int) (((Int.toNat (IntKind.i64.wrap (s.2.2 + (1 : Int)))) + (Int.toNat (((([] : List Int) ++ v779).length : Nat) : Int) - Int.toNat (IntKind.i64.wrap (s.2.2 + (1 : Int)))) : Nat) : Int)).length : Nat) : Int)) (0 : Int))).length = (([] : List Int) ++ v779).length)) <|
     (.call (impl_Whole_minor_i3_g v775 v776 v777 (AM.sub v778 (1 : Int) ((v778.length : Nat) : Int)) (AM.sub (overL (overL (([] : List Int) ++ v779) ((Int.toNat (0 : Int)) + (Int.toNat s.2.2 - Int.toNat (0 : Int))) (AM.sub (([] : List Int) ++ v779) ((Int.toNat (IntKind.i64.wrap (s.2.2 + (1 : Int))) : Nat) : Int) (((Int.toNat (IntKind.i64.wrap (s.2.2 + (1 : Int)))) + (Int.toNat (((([] : List Int) ++ v779).length : Nat) : Int) - Int.toNat (IntKind.i64.wrap (s.2.2 + (1 : Int)))) : Nat) : Int))) ((Int.toNat (0 : Int)) + Int.toNat (((Int.toNat s.2.2 - Int.toNat (0 : Int)) + (AM.sub (([] : List Int) ++ v779) ((Int.toNat (IntKind.i64.wrap (s.2.2 + (1 : Int))) : Nat) : Int) (((Int.toNat (IntKind.i64.wrap (s.2.2 + (1 : Int)))) + (Int.toNat (((([] : List Int) ++ v779).length : Nat) : Int) - Int.toNat (IntKind.i64.wrap (s.2.2 + (1 : Int)))) : Nat) : Int)).length : Nat) : Int)) (List.replicate (Int.toNat (((([] : List Int) ++ v779).length : Nat) : Int) - Int.toNat (((Int.toNat s.2.2 - Int.toNat (0 : Int)) + (AM.sub (([] : List Int) ++ v779) ((Int.toNat (IntKind.i64.wrap (s.2.2 + (1 : Int))) : Nat) : Int) (((Int.toNat (IntKind.i64.wrap (s.2.2 + (1 : Int)))) + (Int.toNat (((([] : List Int) ++ v779).length : Nat) : Int) - Int.toNat (IntKind.i64.wrap (s.2.2 + (1 : Int)))) : Nat) : Int)).length : Nat) : Int)) (0 : Int))) ((v871.1 : Nat) : Int) ((v871.1 + v871.2 : Nat) : Int))) fun v873 =>
     .leaf (.inl (IntKind.i64.wrap (s.1 + (IntKind.i64.wrap ((IntKind.i64.wrap (s.2.1 * v867)) * v873))), IntKind.i64.wrap (0 - s.2.1), IntKind.i64.wrap (s.2.2 + (1 : Int))))))
    )))))
   ) (
    .leaf (.inl (s.1, IntKind.i64.wrap (0 - s.2.1), IntKind.i64.wrap (s.2.2 + (1 : Int))))
   )))))
  ) (
   .leaf (.inr s.1)
  ))

noncomputable def impl_Whole_minor_i2_l0_g (v775 : Int) (v776 : Int) (v777 : List Int) (v778 : List Int) (v779 : List Int) (s0 : Int × Int × Int) : Option (Int) := whileM (fun s => (impl_Whole_minor_i2_l0_T v775 v776 v777 v778 v779 s).run) s0
def impl_Whole_minor_i2_l0_E (v775 : Int) (v776 : Int) (v777 : List Int) (v778 : List Int) (v779 : List Int) (s : Int × Int × Int) : Sd := ([tp,.bslc (BR.root 1) (.i64 v778),.bslc (BR.root 2) (.i64 v779),.ptr 0 (0 : Nat) 0 (3 : Nat),tp,tp,tp,.int .i64 s.1,.int .i64 s.2.1,tp,tp,tp,tp,tp,tp,.bslc (BR.root 2) (.i64 v779),.int .i64 ((v779.length : Nat) : Int),.int .i64 s.2.2,tp,tp,tp,tp,tp,tp,tp,tp,tp,tp,tp,tp,tp,tp,tp,tp,tp,tp,tp,tp,tp,tp,tp,tp,tp,tp,tp,tp,tp,tp,tp,tp], [.gen [.int .i64 v775, .int .i64 v776, .bslc (BR.root 0) (.i64 v777)] false 0])
def impl_Whole_minor_i2_l0_X (v775 : Int) (v776 : Int) (v777 : List Int) (v778 : List Int) (v779 : List Int) (x : Int) : Out := (.normal, [tp,tp,tp,tp,tp,tp,tp,.int .i64 x,tp,tp,tp,tp,tp,tp,tp,tp,tp,tp,tp,tp,tp,tp,tp,tp,tp,tp,tp,tp,tp,tp,tp,tp,tp,tp,tp,tp,tp,tp,tp,tp,tp,tp,tp,tp,tp,tp,tp,tp,tp,tp], [])
def impl_Whole_minor_i2_l0_kill : List Nat := KL true [1,3,3,2,6,3,32]
def impl_Whole_minor_i2_l0_nx : Exit → List Nat
  | .exit 0 => KL true [7,1,42]
  | .ret => KL true [6,1,43]
  | _ => []
noncomputable def impl_Whole_minor_i2_LO (v775 : Int) (v776 : Int) (v777 : List Int) (v778 : List Int) (v779 : List Int) : LOr := fun id e L =>
  match id with
  | 0 => .need (normA 0 impl_Whole_minor_i2_l0_kill e L = some (impl_Whole_minor_i2_l0_E v775 v776 v777 v778 v779 ((gI (vAt e 7)), (gI (vAt e 8)), (gI (vAt e 17))))) (.call (impl_Whole_minor_i2_l0_g v775 v776 v777 v778 v779 ((gI (vAt e 7)), (gI (vAt e 8)), (gI (vAt e 17)))) fun x => .leaf (impl_Whole_minor_i2_l0_X v775 v776 v777 v778 v779 x))
  | _ => .fail
noncomputable def impl_Whole_minor_i2_tab : List (FuncId × DFn × Bool) := [(134, impl_Whole_at_F, true), (90, slices_CloneI_F, true), (135, slices_DeleteI_F, false), (79, impl_Whole_minor_i3_F, true)]
theorem impl_Whole_minor_i2_hO : OrcOk Try.prog (tabD impl_Whole_minor_i2_tab) (tabM impl_Whole_minor_i2_tab) := tabD_cons impl_Whole_at_Fok (tabD_cons slices_CloneI_Fok (tabD_cons slices_DeleteI_Fok (tabD_cons impl_Whole_minor_i3_Fok (tabD_nil _))))
theorem impl_Whole_minor_i2_l0_be (v775 : Int) (v776 : Int) (v777 : List Int) (v778 : List Int) (v779 : List Int) (s : Int × Int × Int) : bodyT TT (tabD impl_Whole_minor_i2_tab) (tabM impl_Whole_minor_i2_tab) (impl_Whole_minor_i2_LO v775 v776 v777 v778 v779) 0 impl_Whole_minor_i2_l0_kill impl_Whole_minor_i2_l0_nx (bodyOf Try.f79 0) 0 (impl_Whole_minor_i2_l0_E v775 v776 v777 v778 v779 s) = (impl_Whole_minor_i2_l0_T v775 v776 v777 v778 v779 s).bind fun y => .leaf (outS (impl_Whole_minor_i2_l0_E v775 v776 v777 v778 v779) (impl_Whole_minor_i2_l0_X v775 v776 v777 v778 v779) y) := by kernel_rfl
theorem impl_Whole_minor_i2_l0_ok (v775 : Int) (v776 : Int) (v777 : List Int) (v778 : List Int) (v779 : List Int) : LSound Try.prog 0 (impl_Whole_minor_i2_LO v775 v776 v777 v778 v779) 0 (bodyOf Try.f79 0) := by
  intro e L out h
  exact lo_ok (E := impl_Whole_minor_i2_l0_E v775 v776 v777 v778 v779) (gT := impl_Whole_minor_i2_l0_T v775 v776 v777 v778 v779) (X := impl_Whole_minor_i2_l0_X v775 v776 v777 v778 v779) (s0 := ((gI (vAt e 7)), (gI (vAt e 8)), (gI (vAt e 17)))) tok impl_Whole_minor_i2_hO mixed (LoopsOk_eq (l := []) (by kernel_rfl) trivial) (impl_Whole_minor_i2_l0_be v775 v776 v777 v778 v779) rfl (by intro x; rfl) h
noncomputable def impl_Whole_minor_i2_T (v775 : Int) (v776 : Int) (v777 : List Int) (v778 : List Int) (v779 : List Int) : Tree (Int) :=
  (.br (decide (((v778.length : Nat) : Int) = (0 : Int))) (
   .leaf (1 : Int)
  ) (
   (.need (some (impl_Whole_minor_i2_l0_E v775 v776 v777 v778 v779 ((0 : Int), (1 : Int), (0 : Int))) = some (impl_Whole_minor_i2_l0_E v775 v776 v777 v778 v779 ((0 : Int), (1 : Int), (0 : Int)))) <|
   (.call (impl_Whole_minor_i2_l0_g v775 v776 v777 v778 v779 ((0 : Int), (1 : Int), (0 : Int))) fun v874 =>
   .leaf v874))
  ))

noncomputable def impl_Whole_minor_i2_g (v775 : Int) (v776 : Int) (v777 : List Int) (v778 : List Int) (v779 : List Int) : Option (Int) := (impl_Whole_minor_i2_T v775 v776 v777 v778 v779).run
def impl_Whole_minor_i2_enc (v775 : Int) (v776 : Int) (v777 : List Int) (v778 : List Int) (v779 : List Int) (y : Int) : Rs := (.int .i64 y, [])
theorem impl_Whole_minor_i2_den (v775 : Int) (v776 : Int) (v777 : List Int) (v778 : List Int) (v779 : List Int) : (den TT (tabD impl_Whole_minor_i2_tab) (tabM impl_Whole_minor_i2_tab) (impl_Whole_minor_i2_LO v775 v776 v777 v778 v779) (codeOf Try.f79) ([.agg [.int .i64 v775, .int .i64 v776, .bslc (BR.root 0) (.i64 v777)], .bslc (BR.root 1) (.i64 v778), .bslc (BR.root 2) (.i64 v779)] ++ List.replicate (Try.f79.ntmps - ([.agg [.int .i64 v775, .int .i64 v776, .bslc (BR.root 0) (.i64 v777)], .bslc (BR.root 1) (.i64 v778), .bslc (BR.root 2) (.i64 v779)] : List DV).length) .undef) []).bind (retD TT Try.f79.results.toList 0) = (impl_Whole_minor_i2_T v775 v776 v777 v778 v779).bind fun y => .leaf (impl_Whole_minor_i2_enc v775 v776 v777 v778 v779 y) := by kernel_rfl
theorem impl_Whole_minor_i2_fn (v775 : Int) (v776 : Int) (v777 : List Int) (v778 : List Int) (v779 : List Int) (F : Fr) (h0 : St F [] F.H0) (hA : DVs.Ok F [] [.agg [.int .i64 v775, .int .i64 v776, .bslc (BR.root 0) (.i64 v777)], .bslc (BR.root 1) (.i64 v778), .bslc (BR.root 2) (.i64 v779)]) {y : Int} (hy : impl_Whole_minor_i2_g v775 v776 v777 v778 v779 = some y) : ∃ F' H', Fwd 0 F F' [] (impl_Whole_minor_i2_enc v775 v776 v777 v778 v779 y).2 ∧ FnOk Try.prog 79 (DVs.av F [.agg [.int .i64 v775, .int .i64 v776, .bslc (BR.root 0) (.i64 v777)], .bslc (BR.root 1) (.i64 v778), .bslc (BR.root 2) (.i64 v779)]) F.H0 ((impl_Whole_minor_i2_enc v775 v776 v777 v778 v779 y).1.av F') H' ∧ St F' (impl_Whole_minor_i2_enc v775 v776 v777 v778 v779 y).2 H' ∧ (impl_Whole_minor_i2_enc v775 v776 v777 v778 v779 y).1.Ok F' (impl_Whole_minor_i2_enc v775 v776 v777 v778 v779 y).2 :=
  fn_fin tok impl_Whole_minor_i2_hO mixed Try.func79 Try.call79 (by kernel_rfl) (LoopsOk_eq (l := [(0, bodyOf Try.f79 0)]) (by kernel_rfl) ⟨impl_Whole_minor_i2_l0_ok v775 v776 v777 v778 v779, trivial⟩) (impl_Whole_minor_i2_den v775 v776 v777 v778 v779) hy h0 hA
noncomputable def impl_Whole_minor_i2_F : DFn := fun args L =>
  match args with
  | [.agg [.int .i64 v775, .int .i64 v776, a1], a2, a3] =>
    optT (rowI64 L a1) fun v777 =>
    optT (rowI64 L a2) fun v778 =>
    optT (rowI64 L a3) fun v779 =>
    .call (impl_Whole_minor_i2_g v775 v776 v777 v778 v779) fun y => .leaf (.int .i64 y, L)
  | _ => .fail
theorem impl_Whole_minor_i2_Fok : COk Try.prog 79 impl_Whole_minor_i2_F true := by
  intro F L H args r L' hs ha hr
  unfold impl_Whole_minor_i2_F at hr
  split at hr
  · rename_i v775 v776 a1 a2 a3
    obtain ⟨v777, hv777, hr⟩ := optT_run hr
    obtain ⟨v778, hv778, hr⟩ := optT_run hr
    obtain ⟨v779, hv779, hr⟩ := optT_run hr
    simp only [Tree.run] at hr
    obtain ⟨y, hy, hr⟩ := Option.bind_eq_some_iff.1 hr
    simp only [Tree.run, Option.some.injEq, Prod.mk.injEq] at hr
    obtain ⟨rfl, rfl⟩ := hr
    exact call_ok0 hs (fun k => (([a1.av F, a2.av F, a3.av F] : List AV)[k]?).getD .top) [.agg [.int .i64 v775, .int .i64 v776, a1], a2, a3] [.agg [.int .i64 v775, .int .i64 v776, .bslc (BR.root 0) (.i64 v777)], .bslc (BR.root 1) (.i64 v778), .bslc (BR.root 2) (.i64 v779)] (fun F' h0 hi hρ => ⟨by simp [DVs.av, DV.av, BR.av, hρ], impl_Whole_minor_i2_fn v775 v776 v777 v778 v779 F' (st_nil hi) ⟨⟨trivial, trivial, bslc_ok hi (by rw [h0, hρ]; exact rowI64_ok hs (DVs.okAt (DVs.okAt ha 0 rfl) 2 rfl) hv777), trivial⟩, bslc_ok hi (by rw [h0, hρ]; exact rowI64_ok hs (DVs.okAt ha 1 rfl) hv778), bslc_ok hi (by rw [h0, hρ]; exact rowI64_ok hs (DVs.okAt ha 2 rfl) hv779), trivial⟩ hy⟩) rfl
  · cases hr
/-! (impl.Whole).minor -/
noncomputable def impl_Whole_minor_i1_l0_T (v762 : Int) (v763 : Int) (v764 : List Int) (v765 : List Int) (v766 : List Int) (s : Int × Int × Int) : Tree ((Int × Int × Int) ⊕ (Int)) :=
  (.br (decide (s.2.2 < ((v766.length : Nat) : Int))) (
   (.grd (inb s.2.2 v766.length) <|
   (.grd (inb (0 : Int) v765.length) <|
   (.call (impl_Whole_at_g v763 v764 (nth v765 (Int.toNat (0 : Int))) (nth v766 (Int.toNat s.2.2))) fun v890 =>
   (.br (!decide (v890 = (0 : Int))) (
    (.grd (sok (1 : Int) ((v765.length : Nat) : Int) v765.length) <|
    (.call (slices_CloneI_g v766) fun v891 =>
    (.call (slices_DeleteI_g (([] : List Int) ++ v766) s.2.2 (IntKind.i64.wrap (s.2.2 + (1 : Int)))) fun v892 =>
    (.sum v892 (fun v893 =>
     (.grd (decide ((([] : List Int) ++ v766).length = (([] : List Int) ++ v766).length)) <|
     (.call (impl_Whole_minor_i2_g v762 v763 v764 (AM.sub v765 (1 : Int) ((v765.length : Nat) : Int)) (([] : List Int) ++ v766)) fun v895 =>
     .leaf (.inl (IntKind.i64.wrap (s.1 + (IntKind.i64.wrap ((IntKind.i64.wrap (s.2.1 * v890)) * v895))), IntKind.i64.wrap (0 - s.2.1), IntKind.i64.wrap (s.2.2 + (1 : Int))))))
    ) (fun v894 =>
     (.grd (decide ((overL (overL (([] : List Int) ++ v766) ((Int.toNat (0 : Int)) + (Int.toNat s.2.2 - Int.toNat (0 : Int))) (AM.sub (([] : List Int) ++ v766) ((Int.toNat (IntKind.i64.wrap (s.2.2 + (1 : Int))) : Nat) : Int) (((Int.toNat (IntKind.i64.wrap (s.2.2 + (1 : Int)))) + (Int.toNat (((([] : List Int) ++ v766).length : Nat) : Int) - Int.toNat (IntKind.i64.wrap (s.2.2 + (1 : Int)))) : Nat) : Int))) ((Int.toNat (0 : Int)) + Int.toNat (((Int.toNat s.2.2 - Int.toNat (0 : Int)) + (AM.sub (([] : List Int) ++ v766) ((Int.toNat (IntKind.i64.wrap (s.2.2 + (1 : Int))) : Nat) : Int) (((Int.toNat (IntKind.i64.wrap (s.2.2 + (1 : Int)))) + (Int.toNat (((([] : List Int) ++ v766).length : Nat) : Int) - Int.toNat (IntKind.i64.wrap (s.2.2 + (1 : Int)))) : Nat) : Int)).length : Nat) : Int)) (List.replicate (Int.toNat (((([] : List Int) ++ v766).length : Nat) : Int) - Int.toNat (((Int.toNat s.2.2 - Int.toNat (0 : Int)) + (AM.sub (([] : List Int) ++ v766) ((Int.toNat (IntKind.i64.wrap (s.2.2 + (1 : Int))) : Nat) : Int) (((Int.toNat (IntKind.i64.wrap (s.2.2 + (1 : Int)))) + (Int.toNat (((([] : List Int) ++ v766).length : Nat) : Int) - Int.toNat (IntKind.i64.wrap (s.2.2 + (1 : Int)))) : Nat) : Int)).length : Nat) : Int)) (0 : Int))).length = (([] : List Int) ++ v766).length)) <|
     (.call (impl_Whole_minor_i2_g v762 v763 v764 (AM.sub v765 (1 : Int) ((v765.length : Nat) : Int)) (AM.sub (overL (overL (([] : List Int) ++ v766) ((Int.toNat (0 : Int)) + (Int.toNat s.2.2 - Int.toNat (0 : Int))) (AM.sub (([] : List Int) ++ v766) ((Int.toNat (IntKind.i64.wrap (s.2.2 + (1 : Int))) : Nat) : Int) (((Int.toNat (IntKind.i64.wrap (s.2.2 + (1 : Int)))) + (Int.toNat (((([] : List Int) ++ v766).length : Nat) : Int) - Int.toNat (IntKind.i64.wrap (s.2.2 + (1 : Int)))) : Nat) : Int))) ((Int.toNat (0 : Int)) + Int.toNat (((Int.toNat s.2.2 - Int.toNat (0 : Int)) + (AM.sub (([] : List Int) ++ v766) ((Int.toNat (IntKind.i64.wrap (s.2.2 + (1 : Int))) : Nat) : Int) (((Int.toNat (IntKind.i64.wrap (s.2.2 + (1 : Int)))) + (Int.toNat (((([] : List Int) ++ v766).length : Nat) : Int) - Int.toNat (IntKind.i64.wrap (s.2.2 + (1 : Int)))) : Nat) : Int)).length : Nat) : Int)) (List.replicate (Int.toNat (((([] : List Int) ++ v766).length : Nat) : Int) - Int.toNat (((Int.toNat s.2.2 - Int.toNat (0 : Int)) + (AM.sub (([] : List Int) ++ v766) ((Int.toNat (IntKind.i64.wrap (s.2.2 + (1 : Int))) : Nat) : Int) (((Int.toNat (IntKind.i64.wrap (s.2.2 + (1 : Int)))) + (Int.toNat (((([] : List Int) ++ v766).length : Nat) : Int) - Int.toNat (IntKind.i64.wrap (s.2.2 + (1 : Int)))) : Nat) : Int)).length : Nat) : Int)) (0 : Int))) ((v894.1 : Nat) : Int) ((v894.1 + v894.2 : Nat) : Int))) fun v896 =>
     .leaf (.inl (IntKind.i64.wrap (s.1 + (IntKind.i64.wrap ((IntKind.i64.wrap (s.2.1 * v890)) * v896))), IntKind.i64.wrap (0 - s.2.1), IntKind.i64.wrap (s.2.2 + (1 : Int))))))
    )))))
   ) (
    .leaf (.inl (s.1, IntKind.i64.wrap (0 - s.2.1), IntKind.i64.wrap (s.2.2 + (1 : Int))))
   )))))
  ) (
   .leaf (.inr s.1)
  ))

noncomputable def impl_Whole_minor_i1_l0_g (v762 : Int) (v763 : Int) (v764 : List Int) (v765 : List Int) (v766 : List Int) (s0 : Int × Int × Int) : Option (Int) := whileM (fun s => (impl_Whole_minor_i1_l0_T v762 v763 v764 v765 v766 s).run) s0
def impl_Whole_minor_i1_l0_E (v762 : Int) (v763 : Int) (v764 : List Int) (v765 : List Int) (v766 : List Int) (s : Int × Int × Int) : Sd := ([tp,.bslc (BR.root 1) (.i64 v765),.bslc (BR.root 2) (.i64 v766),.ptr 0 (0 : Nat) 0 (3 : Nat),tp,tp,tp,.int .i64 s.1,.int .i64 s.2.1,tp,tp,tp,tp,tp,tp,.bslc (BR.root 2) (.i64 v766),.int .i64 ((v766.length : Nat) : Int),.int .i64 s.2.2,tp,tp,tp,tp,tp,tp,tp,tp,tp,tp,tp,tp,tp,tp,tp,tp,tp,tp,tp,tp,tp,tp,tp,tp,tp,tp,tp,tp,tp,tp,tp,tp], [.gen [.int .i64 v762, .int .i64 v763, .bslc (BR.root 0) (.i64 v764)] false 0])
def impl_Whole_minor_i1_l0_X (v762 : Int) (v763 : Int) (v764 : List Int) (v765 : List Int) (v766 : List Int) (x : Int) : Out := (.normal, [tp,tp,tp,tp,tp,tp,tp,.int .i64 x,tp,tp,tp,tp,tp,tp,tp,tp,tp,tp,tp,tp,tp,tp,tp,tp,tp,tp,tp,tp,tp,tp,tp,tp,tp,tp,tp,tp,tp,tp,tp,tp,tp,tp,tp,tp,tp,tp,tp,tp,tp,tp], [])
def impl_Whole_minor_i1_l0_kill : List Nat := KL true [1,3,3,2,6,3,32]
def impl_Whole_minor_i1_l0_nx : Exit → List Nat
  | .exit 0 => KL true [7,1,42]
  | .ret => KL true [6,1,43]
  | _ => []
noncomputable def impl_Whole_minor_i1_LO (v762 : Int) (v763 : Int) (v764 : List Int) (v765 : List Int) (v766 : List Int) : LOr := fun id e L =>
  match id with
  | 0 => .need (normA 0 impl_Whole_minor_i1_l0_kill e L = some (impl_Whole_minor_i1_l0_E v762 v763 v764 v765 v766 ((gI (vAt e 7)), (gI (vAt e 8)), (gI (vAt e 17))))) (.call (impl_Whole_minor_i1_l0_g v762 v763 v764 v765 v766 ((gI (vAt e 7)), (gI (vAt e 8)), (gI (vAt e 17)))) fun x => .leaf (impl_Whole_minor_i1_l0_X v762 v763 v764 v765 v766 x))
  | _ => .fail
noncomputable def impl_Whole_minor_i1_tab : List (FuncId × DFn × Bool) := [(134, impl_Whole_at_F, true), (90, slices_CloneI_F, true), (135, slices_DeleteI_F, false), (79, impl_Whole_minor_i2_F, true)]
theorem impl_Whole_minor_i1_hO : OrcOk Try.prog (tabD impl_Whole_minor_i1_tab) (tabM impl_Whole_minor_i1_tab) := tabD_cons impl_Whole_at_Fok (tabD_cons slices_CloneI_Fok (tabD_cons slices_DeleteI_Fok (tabD_cons impl_Whole_minor_i2_Fok (tabD_nil _))))
theorem impl_Whole_minor_i1_l0_be (v762 : Int) (v763 : Int) (v764 : List Int) (v765 : List Int) (v766 : List Int) (s : Int × Int × Int) : bodyT TT (tabD impl_Whole_minor_i1_tab) (tabM impl_Whole_minor_i1_tab) (impl_Whole_minor_i1_LO v762 v763 v764 v765 v766) 0 impl_Whole_minor_i1_l0_kill impl_Whole_minor_i1_l0_nx (bodyOf Try.f79 0) 0 (impl_Whole_minor_i1_l0_E v762 v763 v764 v765 v766 s) = (impl_Whole_minor_i1_l0_T v762 v763 v764 v765 v766 s).bind fun y => .leaf (outS (impl_Whole_minor_i1_l0_E v762 v763 v764 v765 v766) (impl_Whole_minor_i1_l0_X v762 v763 v764 v765 v766) y) := by kernel_rfl
theorem impl_Whole_minor_i1_l0_ok (v762 : Int) (v763 : Int) (v764 : List Int) (v765 : List Int) (v766 : List Int) : LSound Try.prog 0 (impl_Whole_minor_i1_LO v762 v763 v764 v765 v766) 0 (bodyOf Try.f79 0) := by
  intro e L out h
  exact lo_ok (E := impl_Whole_minor_i1_l0_E v762 v763 v764 v765 v766) (gT := impl_Whole_minor_i1_l0_T v762 v763 v764 v765 v766) (X := impl_Whole_minor_i1_l0_X v762 v763 v764 v765 v766) (s0 := ((gI (vAt e 7)), (gI (vAt e 8)), (gI (vAt e 17)))) tok impl_Whole_minor_i1_hO mixed (LoopsOk_eq (l := []) (by kernel_rfl) trivial) (impl_Whole_minor_i1_l0_be v762 v763 v764 v765 v766) rfl (by intro x; rfl) h
noncomputable def impl_Whole_minor_i1_T (v762 : Int) (v763 : Int) (v764 : List Int) (v765 : List Int) (v766 : List Int) : Tree (Int) :=
  (.br (decide (((v765.length : Nat) : Int) = (0 : Int))) (
   .leaf (1 : Int)
  ) (
   (.need (some (impl_Whole_minor_i1_l0_E v762 v763 v764 v765 v766 ((0 : Int), (1 : Int), (0 : Int))) = some (impl_Whole_minor_i1_l0_E v762 v763 v764 v765 v766 ((0 : Int), (1 : Int), (0 : Int)))) <|
   (.call (impl_Whole_minor_i1_l0_g v762 v763 v764 v765 v766 ((0 : Int), (1 : Int), (0 : Int))) fun v897 =>
   .leaf v897))
  ))

noncomputable def impl_Whole_minor_i1_g (v762 : Int) (v763 : Int) (v764 : List Int) (v765 : List Int) (v766 : List Int) : Option (Int) := (impl_Whole_minor_i1_T v762 v763 v764 v765 v766).run
def impl_Whole_minor_i1_enc (v762 : Int) (v763 : Int) (v764 : List Int) (v765 : List Int) (v766 : List Int) (y : Int) : Rs := (.int .i64 y, [])
theorem impl_Whole_minor_i1_den (v762 : Int) (v763 : Int) (v764 : List Int) (v765 : List Int) (v766 : List Int) : (den TT (tabD impl_Whole_minor_i1_tab) (tabM impl_Whole_minor_i1_tab) (impl_Whole_minor_i1_LO v762 v763 v764 v765 v766) (codeOf Try.f79) ([.agg [.int .i64 v762, .int .i64 v763, .bslc (BR.root 0) (.i64 v764)], .bslc (BR.root 1) (.i64 v765), .bslc (BR.root 2) (.i64 v766)] ++ List.replicate (Try.f79.ntmps - ([.agg [.int .i64 v762, .int .i64 v763, .bslc (BR.root 0) (.i64 v764)], .bslc (BR.root 1) (.i64 v765), .bslc (BR.root 2) (.i64 v766)] : List DV).length) .undef) []).bind (retD TT Try.f79.results.toList 0) = (impl_Whole_minor_i1_T v762 v763 v764 v765 v766).bind fun y => .leaf (impl_Whole_minor_i1_enc v762 v763 v764 v765 v766 y) := by kernel_rfl
theorem impl_Whole_minor_i1_fn (v762 : Int) (v763 : Int) (v764 : List Int) (v765 : List Int) (v766 : List Int) (F : Fr) (h0 : St F [] F.H0) (hA : DVs.Ok F [] [.agg [.int .i64 v762, .int .i64 v763, .bslc (BR.root 0) (.i64 v764)], .bslc (BR.root 1) (.i64 v765), .bslc (BR.root 2) (.i64 v766)]) {y : Int} (hy : impl_Whole_minor_i1_g v762 v763 v764 v765 v766 = some y) : ∃ F' H', Fwd 0 F F' [] (impl_Whole_minor_i1_enc v762 v763 v764 v765 v766 y).2 ∧ FnOk Try.prog 79 (DVs.av F [.agg [.int .i64 v762, .int .i64 v763, .bslc (BR.root 0) (.i64 v764)], .bslc (BR.root 1) (.i64 v765), .bslc (BR.root 2) (.i64 v766)]) F.H0 ((impl_Whole_minor_i1_enc v762 v763 v764 v765 v766 y).1.av F') H' ∧ St F' (impl_Whole_minor_i1_enc v762 v763 v764 v765 v766 y).2 H' ∧ (impl_Whole_minor_i1_enc v762 v763 v764 v765 v766 y).1.Ok F' (impl_Whole_minor_i1_enc v762 v763 v764 v765 v766 y).2 :=
  fn_fin tok impl_Whole_minor_i1_hO mixed Try.func79 Try.call79 (by kernel_rfl) (LoopsOk_eq (l := [(0, bodyOf Try.f79 0)]) (by kernel_rfl) ⟨impl_Whole_minor_i1_l0_ok v762 v763 v764 v765 v766, trivial⟩) (impl_Whole_minor_i1_den v762 v763 v764 v765 v766) hy h0 hA
noncomputable def impl_Whole_minor_i1_F : DFn := fun args L =>
  match args with
  | [.agg [.int .i64 v762, .int .i64 v763, a1], a2, a3] =>
    optT (rowI64 L a1) fun v764 =>
    optT (rowI64 L a2) fun v765 =>
    optT (rowI64 L a3) fun v766 =>
    .call (impl_Whole_minor_i1_g v762 v763 v764 v765 v766) fun y => .leaf (.int .i64 y, L)
  | _ => .fail
theorem impl_Whole_minor_i1_Fok : COk Try.prog 79 impl_Whole_minor_i1_F true := by
  intro F L H args r L' hs ha hr
  unfold impl_Whole_minor_i1_F at hr
  split at hr
  · rename_i v762 v763 a1 a2 a3
    obtain ⟨v764, hv764, hr⟩ := optT_run hr
    obtain ⟨v765, hv765, hr⟩ := optT_run hr
    obtain ⟨v766, hv766, hr⟩ := optT_run hr
    simp only [Tree.run] at hr
    obtain ⟨y, hy, hr⟩ := Option.bind_eq_some_iff.1 hr
    simp only [Tree.run, Option.some.injEq, Prod.mk.injEq] at hr
    obtain ⟨rfl, rfl⟩ := hr
    exact call_ok0 hs (fun k => (([a1.av F, a2.av F, a3.av F] : List AV)[k]?).getD .top) [.agg [.int .i64 v762, .int .i64 v763, a1], a2, a3] [.agg [.int .i64 v762, .int .i64 v763, .bslc (BR.root 0) (.i64 v764)], .bslc (BR.root 1) (.i64 v765), .bslc (BR.root 2) (.i64 v766)] (fun F' h0 hi hρ => ⟨by simp [DVs.av, DV.av, BR.av, hρ], impl_Whole_minor_i1_fn v762 v763 v764 v765 v766 F' (st_nil hi) ⟨⟨trivial, trivial, bslc_ok hi (by rw [h0, hρ]; exact rowI64_ok hs (DVs.okAt (DVs.okAt ha 0 rfl) 2 rfl) hv764), trivial⟩, bslc_ok hi (by rw [h0, hρ]; exact rowI64_ok hs (DVs.okAt ha 1 rfl) hv765), bslc_ok hi (by rw [h0, hρ]; exact rowI64_ok hs (DVs.okAt ha 2 rfl) hv766), trivial⟩ hy⟩) rfl
  · cases hr
/-! (impl.Whole).minor -/
noncomputable def impl_Whole_minor_l0_T (v737 : Int) (v738 : Int) (v739 : List Int) (v740 : List Int) (v741 : List Int) (s : Int × Int × Int) : Tree ((Int × Int × Int) ⊕ (Int)) :=
  (.br (decide (s.2.2 < ((v741.length : Nat) : Int))) (
   (.grd (inb s.2.2 v741.length) <|
   (.grd (inb (0 : Int) v740.length) <|
   (.call (impl_Whole_at_g v738 v739 (nth v740 (Int.toNat (0 : Int))) (nth v741 (Int.toNat s.2.2))) fun v913 =>
   (.br (!decide (v913 = (0 : Int))) (
    (.grd (sok (1 : Int) ((v740.length : Nat) : Int) v740.length) <|
    (.call (slices_CloneI_g v741) fun v914 =>
    (.call (slices_DeleteI_g (([] : List Int) ++ v741) s.2.2 (IntKind.i64.wrap (s.2.2 + (1 : Int)))) fun v915 =>
    (.sum v915 (fun v916 =>
     (.grd (decide ((([] : List Int) ++ v741).length = (([] : List Int) ++ v741).length)) <|
     (.call (impl_Whole_minor_i1_g v737 v738 v739 (AM.sub v740 (1 : Int) ((v740.length : Nat) : Int)) (([] : List Int) ++ v741)) fun v918 =>
     .leaf (.inl (IntKind.i64.wrap (s.1 + (IntKind.i64.wrap ((IntKind.i64.wrap (s.2.1 * v913)) * v918))), IntKind.i64.wrap (0 - s.2.1), IntKind.i64.wrap (s.2.2 + (1 : Int))))))
    ) (fun v917 =>
     (.grd (decide ((overL (overL (([] : List Int) ++ v741) ((Int.toNat (0 : Int)) + (Int.toNat s.2.2 - Int.toNat (0 : Int))) (AM.sub (([] : List Int) ++ v741) ((Int.toNat (IntKind.i64.wrap (s.2.2 + (1 : Int))) : Nat) : Int) (((Int.toNat (IntKind.i64.wrap (s.2.2 + (1 : Int)))) + (Int.toNat (((([] : List Int) ++ v741).length : Nat) : Int) - Int.toNat (IntKind.i64.wrap (s.2.2 + (1 : Int)))) : Nat) : Int))) ((Int.toNat (0 : Int)) + Int.toNat (((Int.toNat s.2.2 - Int.toNat (0 : Int)) + (AM.sub (([] : List Int) ++ v741) ((Int.toNat (IntKind.i64.wrap (s.2.2 + (1 : Int))) : Nat) : Int) (((Int.toNat (IntKind.i64.wrap (s.2.2 + (1 : Int)))) + (Int.toNat (((([] : List Int) ++ v741).length : Nat) : Int) - Int.toNat (IntKind.i64.wrap (s.2.2 + (1 : Int)))) : Nat) : Int)).length : Nat) : Int)) (List.replicate (Int.toNat (((([] : List Int) ++ v741).length : Nat) : Int) - Int.toNat (((Int.toNat s.2.2 - Int.toNat (0 : Int)) + (AM.sub (([] : List Int) ++ v741) ((Int.toNat (IntKind.i64.wrap (s.2.2 + (1 : Int))) : Nat) : Int) (((Int.toNat (IntKind.i64.wrap (s.2.2 + (1 : Int)))) + (Int.toNat (((([] : List Int) ++ v741).length : Nat) : Int) - Int.toNat (IntKind.i64.wrap (s.2.2 + (1 : Int)))) : Nat) : Int)).length : Nat) : Int)) (0 : Int))).length = (([] : List Int) ++ v741).length)) <|
     (.call (impl_Whole_minor_i1_g v737 v738 v739 (AM.sub v740 (1 : Int) ((v740.length : Nat) : Int)) (AM.sub (overL (overL (([] : List Int) ++ v741) ((Int.toNat (0 : Int)) + (Int.toNat s.2.2 - Int.toNat (0 : Int))) (AM.sub (([] : List Int) ++ v741) ((Int.toNat (IntKind.i64.wrap (s.2.2 + (1 : Int))) : Nat) : Int) (((Int.toNat (IntKind.i64.wrap (s.2.2 + (1 : Int)))) + (Int.toNat (((([] : List Int) ++ v741).length : Nat) : Int) - Int.toNat (IntKind.i64.wrap (s.2.2 + (1 : Int)))) : Nat) : Int))) ((Int.toNat (0 : Int)) + Int.toNat (((Int.toNat s.2.2 - Int.toNat (0 : Int)) + (AM.sub (([] : List Int) ++ v741) ((Int.toNat (IntKind.i64.wrap (s.2.2 + (1 : Int))) : Nat) : Int) (((Int.toNat (IntKind.i64.wrap (s.2.2 + (1 : Int)))) + (Int.toNat (((([] : List Int) ++ v741).length : Nat) : Int) - Int.toNat (IntKind.i64.wrap (s.2.2 + (1 : Int)))) : Nat) : Int)).length : Nat) : Int)) (List.replicate (Int.toNat (((([] : List Int) ++ v741).length : Nat) : Int) - Int.toNat (((Int.toNat s.2.2 - Int.toNat (0 : Int)) + (AM.sub (([] : List Int) ++ v741) ((Int.toNat (IntKind.i64.wrap (s.2.2 + (1 : Int))) : Nat) : Int) (((Int.toNat (IntKind.i64.wrap (s.2.2 + (1 : Int)))) + (Int.toNat (((([] : List Int) ++ v741).length : Nat) : Int) - Int.toNat (IntKind.i64.wrap (s.2.2 + (1 : Int)))) : Nat) : Int)).length : Nat) : Int)) (0 : Int))) ((v917.1 : Nat) : Int) ((v917.1 + v917.2 : Nat) : Int))) fun v919 =>
     .leaf (.inl (IntKind.i64.wrap (s.1 + (IntKind.i64.wrap ((IntKind.i64.wrap (s.2.1 * v913)) * v919))), IntKind.i64.wrap (0 - s.2.1), IntKind.i64.wrap (s.2.2 + (1 : Int))))))
    )))))
   ) (
    .leaf (.inl (s.1, IntKind.i64.wrap (0 - s.2.1), IntKind.i64.wrap (s.2.2 + (1 : Int))))
   )))))
  ) (
   .leaf (.inr s.1)
  ))

noncomputable def impl_Whole_minor_l0_g (v737 : Int) (v738 : Int) (v739 : List Int) (v740 : List Int) (v741 : List Int) (s0 : Int × Int × Int) : Option (Int) := whileM (fun s => (impl_Whole_minor_l0_T v737 v738 v739 v740 v741 s).run) s0
def impl_Whole_minor_l0_E (v737 : Int) (v738 : Int) (v739 : List Int) (v740 : List Int) (v741 : List Int) (s : Int × Int × Int) : Sd := ([tp,.bslc (BR.root 1) (.i64 v740),.bslc (BR.root 2) (.i64 v741),.ptr 0 (0 : Nat) 0 (3 : Nat),tp,tp,tp,.int .i64 s.1,.int .i64 s.2.1,tp,tp,tp,tp,tp,tp,.bslc (BR.root 2) (.i64 v741),.int .i64 ((v741.length : Nat) : Int),.int .i64 s.2.2,tp,tp,tp,tp,tp,tp,tp,tp,tp,tp,tp,tp,tp,tp,tp,tp,tp,tp,tp,tp,tp,tp,tp,tp,tp,tp,tp,tp,tp,tp,tp,tp], [.gen [.int .i64 v737, .int .i64 v738, .bslc (BR.root 0) (.i64 v739)] false 0])
def impl_Whole_minor_l0_X (v737 : Int) (v738 : Int) (v739 : List Int) (v740 : List Int) (v741 : List Int) (x : Int) : Out := (.normal, [tp,tp,tp,tp,tp,tp,tp,.int .i64 x,tp,tp,tp,tp,tp,tp,tp,tp,tp,tp,tp,tp,tp,tp,tp,tp,tp,tp,tp,tp,tp,tp,tp,tp,tp,tp,tp,tp,tp,tp,tp,tp,tp,tp,tp,tp,tp,tp,tp,tp,tp,tp], [])
def impl_Whole_minor_l0_kill : List Nat := KL true [1,3,3,2,6,3,32]
def impl_Whole_minor_l0_nx : Exit → List Nat
  | .exit 0 => KL true [7,1,42]
  | .ret => KL true [6,1,43]
  | _ => []
noncomputable def impl_Whole_minor_LO (v737 : Int) (v738 : Int) (v739 : List Int) (v740 : List Int) (v741 : List Int) : LOr := fun id e L =>
  match id with
  | 0 => .need (normA 0 impl_Whole_minor_l0_kill e L = some (impl_Whole_minor_l0_E v737 v738 v739 v740 v741 ((gI (vAt e 7)), (gI (vAt e 8)), (gI (vAt e 17))))) (.call (impl_Whole_minor_l0_g v737 v738 v739 v740 v741 ((gI (vAt e 7)), (gI (vAt e 8)), (gI (vAt e 17)))) fun x => .leaf (impl_Whole_minor_l0_X v737 v738 v739 v740 v741 x))
  | _ => .fail
noncomputable def impl_Whole_minor_tab : List (FuncId × DFn × Bool) := [(134, impl_Whole_at_F, true), (90, slices_CloneI_F, true), (135, slices_DeleteI_F, false), (79, impl_Whole_minor_i1_F, true)]
theorem impl_Whole_minor_hO : OrcOk Try.prog (tabD impl_Whole_minor_tab) (tabM impl_Whole_minor_tab) := tabD_cons impl_Whole_at_Fok (tabD_cons slices_CloneI_Fok (tabD_cons slices_DeleteI_Fok (tabD_cons impl_Whole_minor_i1_Fok (tabD_nil _))))
theorem impl_Whole_minor_l0_be (v737 : Int) (v738 : Int) (v739 : List Int) (v740 : List Int) (v741 : List Int) (s : Int × Int × Int) : bodyT TT (tabD impl_Whole_minor_tab) (tabM impl_Whole_minor_tab) (impl_Whole_minor_LO v737 v738 v739 v740 v741) 0 impl_Whole_minor_l0_kill impl_Whole_minor_l0_nx (bodyOf Try.f79 0) 0 (impl_Whole_minor_l0_E v737 v738 v739 v740 v741 s) = (impl_Whole_minor_l0_T v737 v738 v739 v740 v741 s).bind fun y => .leaf (outS (impl_Whole_minor_l0_E v737 v738 v739 v740 v741) (impl_Whole_minor_l0_X v737 v738 v739 v740 v741) y) := by kernel_rfl
theorem impl_Whole_minor_l0_ok (v737 : Int) (v738 : Int) (v739 : List Int) (v740 : List Int) (v741 : List Int) : LSound Try.prog 0 (impl_Whole_minor_LO v737 v738 v739 v740 v741) 0 (bodyOf Try.f79 0) := by
  intro e L out h
  exact lo_ok (E := impl_Whole_minor_l0_E v737 v738 v739 v740 v741) (gT := impl_Whole_minor_l0_T v737 v738 v739 v740 v741) (X := impl_Whole_minor_l0_X v737 v738 v739 v740 v741) (s0 := ((gI (vAt e 7)), (gI (vAt e 8)), (gI (vAt e 17)))) tok impl_Whole_minor_hO mixed (LoopsOk_eq (l := []) (by kernel_rfl) trivial) (impl_Whole_minor_l0_be v737 v738 v739 v740 v741) rfl (by intro x; rfl) h
noncomputable def impl_Whole_minor_T (v737 : Int) (v738 : Int) (v739 : List Int) (v740 : List Int) (v741 : List Int) : Tree (Int) :=
  (.br (decide (((v740.length : Nat) : Int) = (0 : Int))) (
   .leaf (1 : Int)
  ) (
   (.need (some (impl_Whole_minor_l0_E v737 v738 v739 v740 v741 ((0 : Int), (1 : Int), (0 : Int))) = some (impl_Whole_minor_l0_E v737 v738 v739 v740 v741 ((0 : Int), (1 : Int), (0 : Int)))) <|
   (.call (impl_Whole_minor_l0_g v737 v738 v739 v740 v741 ((0 : Int), (1 : Int), (0 : Int))) fun v920 =>
   .leaf v920))
  ))

noncomputable def impl_Whole_minor_g (v737 : Int) (v738 : Int) (v739 : List Int) (v740 : List Int) (v741 : List Int) : Option (Int) := (impl_Whole_minor_T v737 v738 v739 v740 v741).run
def impl_Whole_minor_enc (v737 : Int) (v738 : Int) (v739 : List Int) (v740 : List Int) (v741 : List Int) (y : Int) : Rs := (.int .i64 y, [])
theorem impl_Whole_minor_den (v737 : Int) (v738 : Int) (v739 : List Int) (v740 : List Int) (v741 : List Int) : (den TT (tabD impl_Whole_minor_tab) (tabM impl_Whole_minor_tab) (impl_Whole_minor_LO v737 v738 v739 v740 v741) (codeOf Try.f79) ([.agg [.int .i64 v737, .int .i64 v738, .bslc (BR.root 0) (.i64 v739)], .bslc (BR.root 1) (.i64 v740), .bslc (BR.root 2) (.i64 v741)] ++ List.replicate (Try.f79.ntmps - ([.agg [.int .i64 v737, .int .i64 v738, .bslc (BR.root 0) (.i64 v739)], .bslc (BR.root 1) (.i64 v740), .bslc (BR.root 2) (.i64 v741)] : List DV).length) .undef) []).bind (retD TT Try.f79.results.toList 0) = (impl_Whole_minor_T v737 v738 v739 v740 v741).bind fun y => .leaf (impl_Whole_minor_enc v737 v738 v739 v740 v741 y) := by kernel_rfl
theorem impl_Whole_minor_fn (v737 : Int) (v738 : Int) (v739 : List Int) (v740 : List Int) (v741 : List Int) (F : Fr) (h0 : St F [] F.H0) (hA : DVs.Ok F [] [.agg [.int .i64 v737, .int .i64 v738, .bslc (BR.root 0) (.i64 v739)], .bslc (BR.root 1) (.i64 v740), .bslc (BR.root 2) (.i64 v741)]) {y : Int} (hy : impl_Whole_minor_g v737 v738 v739 v740 v741 = some y) : ∃ F' H', Fwd 0 F F' [] (impl_Whole_minor_enc v737 v738 v739 v740 v741 y).2 ∧ FnOk Try.prog 79 (DVs.av F [.agg [.int .i64 v737, .int .i64 v738, .bslc (BR.root 0) (.i64 v739)], .bslc (BR.root 1) (.i64 v740), .bslc (BR.root 2) (.i64 v741)]) F.H0 ((impl_Whole_minor_enc v737 v738 v739 v740 v741 y).1.av F') H' ∧ St F' (impl_Whole_minor_enc v737 v738 v739 v740 v741 y).2 H' ∧ (impl_Whole_minor_enc v737 v738 v739 v740 v741 y).1.Ok F' (impl_Whole_minor_enc v737 v738 v739 v740 v741 y).2 :=
  fn_fin tok impl_Whole_minor_hO mixed Try.func79 Try.call79 (by kernel_rfl) (LoopsOk_eq (l := [(0, bodyOf Try.f79 0)]) (by kernel_rfl) ⟨impl_Whole_minor_l0_ok v737 v738 v739 v740 v741, trivial⟩) (impl_Whole_minor_den v737 v738 v739 v740 v741) hy h0 hA
noncomputable def impl_Whole_minor_F : DFn := fun args L =>
  match args with
  | [.agg [.int .i64 v737, .int .i64 v738, a1], a2, a3] =>
    optT (rowI64 L a1) fun v739 =>
    optT (rowI64 L a2) fun v740 =>
    optT (rowI64 L a3) fun v741 =>
    .call (impl_Whole_minor_g v737 v738 v739 v740 v741) fun y => .leaf (.int .i64 y, L)
  | _ => .fail
theorem impl_Whole_minor_Fok : COk Try.prog 79 impl_Whole_minor_F true := by
  intro F L H args r L' hs ha hr
  unfold impl_Whole_minor_F at hr
  split at hr
  · rename_i v737 v738 a1 a2 a3
    obtain ⟨v739, hv739, hr⟩ := optT_run hr
    obtain ⟨v740, hv740, hr⟩ := optT_run hr
    obtain ⟨v741, hv741, hr⟩ := optT_run hr
    simp only [Tree.run] at hr
    obtain ⟨y, hy, hr⟩ := Option.bind_eq_some_iff.1 hr
    simp only [Tree.run, Option.some.injEq, Prod.mk.injEq] at hr
    obtain ⟨rfl, rfl⟩ := hr
    exact call_ok0 hs (fun k => (([a1.av F, a2.av F, a3.av F] : List AV)[k]?).getD .top) [.agg [.int .i64 v737, .int .i64 v738, a1], a2, a3] [.agg [.int .i64 v737, .int .i64 v738, .bslc (BR.root 0) (.i64 v739)], .bslc (BR.root 1) (.i64 v740), .bslc (BR.root 2) (.i64 v741)] (fun F' h0 hi hρ => ⟨by simp [DVs.av, DV.av, BR.av, hρ], impl_Whole_minor_fn v737 v738 v739 v740 v741 F' (st_nil hi) ⟨⟨trivial, trivial, bslc_ok hi (by rw [h0, hρ]; exact rowI64_ok hs (DVs.okAt (DVs.okAt ha 0 rfl) 2 rfl) hv739), trivial⟩, bslc_ok hi (by rw [h0, hρ]; exact rowI64_ok hs (DVs.okAt ha 1 rfl) hv740), bslc_ok hi (by rw [h0, hρ]; exact rowI64_ok hs (DVs.okAt ha 2 rfl) hv741), trivial⟩ hy⟩) rfl
  · cases hr
/-! impl.gcd -/
noncomputable def impl_gcd_l0_T (s : Int × Int) : Tree ((Int × Int) ⊕ (Int)) :=
  (.br (!decide (s.2 = (0 : Int))) (
   (.grd (!decide (s.2 = 0)) <|
   .leaf (.inl (s.2, Int.tmod s.1 s.2)))
  ) (
   .leaf (.inr s.1)
  ))

noncomputable def impl_gcd_l0_g (s0 : Int × Int) : Option (Int) := whileM (fun s => (impl_gcd_l0_T s).run) s0
def impl_gcd_l0_E (v922 : Int) (v923 : Int) (s : Int × Int) : Sd := ([.int .i64 s.1,.int .i64 s.2,tp,tp,tp,tp,tp,tp,tp,tp,tp,tp,tp,tp,tp], [])
def impl_gcd_l0_X (v922 : Int) (v923 : Int) (x : Int) : Out := (.normal, [.int .i64 x,tp,tp,tp,tp,tp,tp,tp,tp,tp,tp,tp,tp,tp,tp], [])
def impl_gcd_l0_kill : List Nat := KL true [0,2,13]
def impl_gcd_l0_nx : Exit → List Nat
  | .exit 0 => KL true [0,1,14]
  | .ret => KL true [4,1,10]
  | _ => []
noncomputable def impl_gcd_LO (v922 : Int) (v923 : Int) : LOr := fun id e L =>
  match id with
  | 0 => .need (normA 0 impl_gcd_l0_kill e L = some (impl_gcd_l0_E v922 v923 ((gI (vAt e 0)), (gI (vAt e 1))))) (.call (impl_gcd_l0_g ((gI (vAt e 0)), (gI (vAt e 1)))) fun x => .leaf (impl_gcd_l0_X v922 v923 x))
  | _ => .fail
noncomputable def impl_gcd_tab : List (FuncId × DFn × Bool) := []
theorem impl_gcd_hO : OrcOk Try.prog (tabD impl_gcd_tab) (tabM impl_gcd_tab) := tabD_nil _
theorem impl_gcd_l0_be (v922 : Int) (v923 : Int) (s : Int × Int) : bodyT TT (tabD impl_gcd_tab) (tabM impl_gcd_tab) (impl_gcd_LO v922 v923) 0 impl_gcd_l0_kill impl_gcd_l0_nx (bodyOf Try.f78 0) 0 (impl_gcd_l0_E v922 v923 s) = (impl_gcd_l0_T s).bind fun y => .leaf (outS (impl_gcd_l0_E v922 v923) (impl_gcd_l0_X v922 v923) y) := by kernel_rfl
theorem impl_gcd_l0_ok (v922 : Int) (v923 : Int) : LSound Try.prog 0 (impl_gcd_LO v922 v923) 0 (bodyOf Try.f78 0) := by
  intro e L out h
  exact lo_ok (E := impl_gcd_l0_E v922 v923) (gT := impl_gcd_l0_T) (X := impl_gcd_l0_X v922 v923) (s0 := ((gI (vAt e 0)), (gI (vAt e 1)))) tok impl_gcd_hO mixed (LoopsOk_eq (l := []) (by kernel_rfl) trivial) (impl_gcd_l0_be v922 v923) rfl (by intro x; rfl) h
noncomputable def impl_gcd_T (v922 : Int) (v923 : Int) : Tree (Int) :=
  (.need (some (impl_gcd_l0_E v922 v923 (v922, v923)) = some (impl_gcd_l0_E v922 v923 (v922, v923))) <|
  (.call (impl_gcd_l0_g (v922, v923)) fun v930 =>
  .leaf (imax v930 (IntKind.i64.wrap (0 - v930)))))

noncomputable def impl_gcd_g (v922 : Int) (v923 : Int) : Option (Int) := (impl_gcd_T v922 v923).run
def impl_gcd_enc (v922 : Int) (v923 : Int) (y : Int) : Rs := (.int .i64 y, [])
theorem impl_gcd_den (v922 : Int) (v923 : Int) : (den TT (tabD impl_gcd_tab) (tabM impl_gcd_tab) (impl_gcd_LO v922 v923) (codeOf Try.f78) ([.int .i64 v922, .int .i64 v923] ++ List.replicate (Try.f78.ntmps - ([.int .i64 v922, .int .i64 v923] : List DV).length) .undef) []).bind (retD TT Try.f78.results.toList 0) = (impl_gcd_T v922 v923).bind fun y => .leaf (impl_gcd_enc v922 v923 y) := by kernel_rfl
theorem impl_gcd_fn (v922 : Int) (v923 : Int) (F : Fr) (h0 : St F [] F.H0) (hA : DVs.Ok F [] [.int .i64 v922, .int .i64 v923]) {y : Int} (hy : impl_gcd_g v922 v923 = some y) : ∃ F' H', Fwd 0 F F' [] (impl_gcd_enc v922 v923 y).2 ∧ FnOk Try.prog 78 (DVs.av F [.int .i64 v922, .int .i64 v923]) F.H0 ((impl_gcd_enc v922 v923 y).1.av F') H' ∧ St F' (impl_gcd_enc v922 v923 y).2 H' ∧ (impl_gcd_enc v922 v923 y).1.Ok F' (impl_gcd_enc v922 v923 y).2 :=
  fn_fin tok impl_gcd_hO mixed Try.func78 Try.call78 (by kernel_rfl) (LoopsOk_eq (l := [(0, bodyOf Try.f78 0)]) (by kernel_rfl) ⟨impl_gcd_l0_ok v922 v923, trivial⟩) (impl_gcd_den v922 v923) hy h0 hA
noncomputable def impl_gcd_F : DFn := fun args L =>
  match args with
  | [.int .i64 v922, .int .i64 v923] =>
    .call (impl_gcd_g v922 v923) fun y => .leaf (.int .i64 y, L)
  | _ => .fail
theorem impl_gcd_Fok : COk Try.prog 78 impl_gcd_F true := by
  intro F L H args r L' hs ha hr
  unfold impl_gcd_F at hr
  split at hr
  · rename_i v922 v923
    simp only [Tree.run] at hr
    obtain ⟨y, hy, hr⟩ := Option.bind_eq_some_iff.1 hr
    simp only [Tree.run, Option.some.injEq, Prod.mk.injEq] at hr
    obtain ⟨rfl, rfl⟩ := hr
    exact call_ok0 hs (fun k => (([] : List AV)[k]?).getD .top) [.int .i64 v922, .int .i64 v923] [.int .i64 v922, .int .i64 v923] (fun F' h0 hi hρ => ⟨by simp [DVs.av, DV.av, BR.av, hρ], impl_gcd_fn v922 v923 F' (st_nil hi) ⟨trivial, trivial, trivial⟩ hy⟩) rfl
  · cases hr
/-! impl.NormalOf -/
noncomputable def impl_NormalOf_l4_T (v652 : Int) (v653 : Int) (v654 : List Int) (v1387 : Int) (v1388 : Int) (v1390 : Nat) (v1391 : Int) (v1392 : Int) (v1393 : Int) (v1395 : List Int) (v1396 : List (List Int)) (v1397 : List Nat) (v1398 : List (List Int)) (v1399 : List Nat) (s : Int × Int) : Tree ((Int × Int) ⊕ (Int)) :=
  (.br (decide (s.2 < v1393)) (
   (.grd (inb s.2 ((v1399).length)) <|
   (.call (impl_Whole_minor_g v652 v653 v654 (nget v1396 v1390) (nget v1398 (nth v1399 (Int.toNat s.2)))) fun v1400 =>
   (.call (impl_gcd_g s.1 v1400) fun v1401 =>
   .leaf (.inl (v1401, IntKind.i64.wrap (s.2 + (1 : Int)))))))
  ) (
   .leaf (.inr s.1)
  ))

noncomputable def impl_NormalOf_l4_g (v652 : Int) (v653 : Int) (v654 : List Int) (v1387 : Int) (v1388 : Int) (v1390 : Nat) (v1391 : Int) (v1392 : Int) (v1393 : Int) (v1395 : List Int) (v1396 : List (List Int)) (v1397 : List Nat) (v1398 : List (List Int)) (v1399 : List Nat) (s0 : Int × Int) : Option (Int) := whileM (fun s => (impl_NormalOf_l4_T v652 v653 v654 v1387 v1388 v1390 v1391 v1392 v1393 v1395 v1396 v1397 v1398 v1399 s).run) s0
def impl_NormalOf_l4_E (v652 : Int) (v653 : Int) (v654 : List Int) (v1387 : Int) (v1388 : Int) (v1390 : Nat) (v1391 : Int) (v1392 : Int) (v1393 : Int) (v1395 : List Int) (v1396 : List (List Int)) (v1397 : List Nat) (v1398 : List (List Int)) (v1399 : List Nat) (s : Int × Int) : Sd := ([tp,.ptr 0 (0 : Nat) 0 (3 : Nat),tp,tp,.own 1 0 ((v1395).length),.int .i64 v1387,.int .i64 v1388,.int .i64 s.1,tp,.inn 2 0 v1390 ((nget v1396 v1390).length),tp,tp,tp,tp,tp,tp,tp,tp,tp,tp,tp,tp,tp,tp,tp,tp,tp,tp,tp,tp,tp,tp,tp,tp,tp,tp,tp,tp,.nest 2 0 1 ((v1397).length),.int .i64 v1391,.int .i64 v1392,tp,tp,tp,tp,tp,tp,.nest 3 0 1 ((v1399).length),.int .i64 v1393,.int .i64 s.2,tp,tp,tp,tp,tp,tp,tp,tp,tp,tp,tp,tp,tp,tp,tp,tp,tp,tp,tp,tp,tp,tp,tp,tp], [.gen [.int .i64 v652, .int .i64 v653, .bslc (BR.root 0) (.i64 v654)] false 0, .row (.i64 v1395) 0, .nest [.sl (.i64 v1396) v1397] false 0, .nest [.sl (.i64 v1398) v1399] false 0])
def impl_NormalOf_l4_X (v652 : Int) (v653 : Int) (v654 : List Int) (v1387 : Int) (v1388 : Int) (v1390 : Nat) (v1391 : Int) (v1392 : Int) (v1393 : Int) (v1395 : List Int) (v1396 : List (List Int)) (v1397 : List Nat) (v1398 : List (List Int)) (v1399 : List Nat) (x : Int) : Out := (.normal, [tp,.ptr 0 (0 : Nat) 0 (3 : Nat),tp,tp,.own 1 0 ((v1395).length),.int .i64 v1387,.int .i64 v1388,.int .i64 x,tp,tp,tp,tp,tp,tp,tp,tp,tp,tp,tp,tp,tp,tp,tp,tp,tp,tp,tp,tp,tp,tp,tp,tp,tp,tp,tp,tp,tp,tp,.nest 2 0 1 ((v1397).length),.int .i64 v1391,.int .i64 v1392,tp,tp,tp,tp,tp,tp,tp,tp,tp,tp,tp,tp,tp,tp,tp,tp,tp,tp,tp,tp,tp,tp,tp,tp,tp,tp,tp,tp,tp,tp,tp,tp,tp], [.gen [.int .i64 v652, .int .i64 v653, .bslc (BR.root 0) (.i64 v654)] false 0, .row (.i64 v1395) 0, .nest [.sl (.i64 v1396) v1397] false 0])
def impl_NormalOf_l4_kill : List Nat := KL true [1,1,2,4,1,1,28,3,6,3,24]
def impl_NormalOf_l4_nx : Exit → List Nat
  | .exit 0 => KL true [4,1,69]
  | .exit 1 => KL true [1,1,2,3,67]
  | .exit 2 => KL true [1,1,2,4,66]
  | .exit 3 => KL true [1,1,2,4,30,3,33]
  | .exit 4 => KL true [1,1,2,4,30,3,33]
  | .ret => KL true [2,2,70]
  | _ => []
noncomputable def impl_NormalOf_l2_T (v652 : Int) (v653 : Int) (v654 : List Int) (v1348 : Int) (v1349 : Int) (v1351 : Int) (v1353 : List Int) (v1354 : List (List Int)) (v1355 : List Nat) (s : Int × Int) : Tree ((Int × Int) ⊕ (Int)) :=
  (.br (decide (s.2 < v1351)) (
   (.grd (inb s.2 ((v1355).length)) <|
   (.call (impl_choices_g v653 v1349) fun v1356 =>
   (.need (some (impl_NormalOf_l4_E v652 v653 v654 v1348 v1349 (nth v1355 (Int.toNat s.2)) v1351 s.2 (((v1356.2).length : Nat) : Int) v1353 v1354 v1355 v1356.1 v1356.2 (s.1, (0 : Int))) = some (impl_NormalOf_l4_E v652 v653 v654 v1348 v1349 (nth v1355 (Int.toNat s.2)) v1351 s.2 (((v1356.2).length : Nat) : Int) v1353 v1354 v1355 v1356.1 v1356.2 (s.1, (0 : Int)))) <|
   (.call (impl_NormalOf_l4_g v652 v653 v654 v1348 v1349 (nth v1355 (Int.toNat s.2)) v1351 s.2 (((v1356.2).length : Nat) : Int) v1353 v1354 v1355 v1356.1 v1356.2 (s.1, (0 : Int))) fun v1402 =>
   .leaf (.inl (v1402, IntKind.i64.wrap (s.2 + (1 : Int))))))))
  ) (
   .leaf (.inr s.1)
  ))

noncomputable def impl_NormalOf_l2_g (v652 : Int) (v653 : Int) (v654 : List Int) (v1348 : Int) (v1349 : Int) (v1351 : Int) (v1353 : List Int) (v1354 : List (List Int)) (v1355 : List Nat) (s0 : Int × Int) : Option (Int) := whileM (fun s => (impl_NormalOf_l2_T v652 v653 v654 v1348 v1349 v1351 v1353 v1354 v1355 s).run) s0
def impl_NormalOf_l2_E (v652 : Int) (v653 : Int) (v654 : List Int) (v1348 : Int) (v1349 : Int) (v1351 : Int) (v1353 : List Int) (v1354 : List (List Int)) (v1355 : List Nat) (s : Int × Int) : Sd := ([tp,.ptr 0 (0 : Nat) 0 (3 : Nat),tp,tp,.own 1 0 ((v1353).length),.int .i64 v1348,.int .i64 v1349,.int .i64 s.1,tp,tp,tp,tp,tp,tp,tp,tp,tp,tp,tp,tp,tp,tp,tp,tp,tp,tp,tp,tp,tp,tp,tp,tp,tp,tp,tp,tp,tp,tp,.nest 2 0 1 ((v1355).length),.int .i64 v1351,.int .i64 s.2,tp,tp,tp,tp,tp,tp,tp,tp,tp,tp,tp,tp,tp,tp,tp,tp,tp,tp,tp,tp,tp,tp,tp,tp,tp,tp,tp,tp,tp,tp,tp,tp,tp], [.gen [.int .i64 v652, .int .i64 v653, .bslc (BR.root 0) (.i64 v654)] false 0, .row (.i64 v1353) 0, .nest [.sl (.i64 v1354) v1355] false 0])
def impl_NormalOf_l2_X (v652 : Int) (v653 : Int) (v654 : List Int) (v1348 : Int) (v1349 : Int) (v1351 : Int) (v1353 : List Int) (v1354 : List (List Int)) (v1355 : List Nat) (x : Int) : Out := (.normal, [tp,.ptr 0 (0 : Nat) 0 (3 : Nat),tp,tp,.own 1 0 ((v1353).length),.int .i64 v1348,.int .i64 v1349,.int .i64 x,tp,tp,tp,tp,tp,tp,tp,tp,tp,tp,tp,tp,tp,tp,tp,tp,tp,tp,tp,tp,tp,tp,tp,tp,tp,tp,tp,tp,tp,tp,tp,tp,tp,tp,tp,tp,tp,tp,tp,tp,tp,tp,tp,tp,tp,tp,tp,tp,tp,tp,tp,tp,tp,tp,tp,tp,tp,tp,tp,tp,tp,tp,tp,tp,tp,tp], [.gen [.int .i64 v652, .int .i64 v653, .bslc (BR.root 0) (.i64 v654)] false 0, .row (.i64 v1353) 0])
def impl_NormalOf_l2_kill : List Nat := KL true [1,1,2,4,30,3,33]
def impl_NormalOf_l2_nx : Exit → List Nat
  | .exit 0 => KL true [4,1,69]
  | .exit 1 => KL true [1,1,2,3,67]
  | .exit 2 => KL true [1,1,2,4,66]
  | .ret => KL true [2,2,70]
  | _ => []
noncomputable def impl_NormalOf_l0_T (v652 : Int) (v653 : Int) (v654 : List Int) (s : Int × Int × (List Int)) : Tree ((Int × Int × (List Int)) ⊕ ((List Int))) :=
  (.br (decide (s.2.1 ≤ imin v652 v653)) (
   (.call (impl_choices_g v652 s.2.1) fun v1237 =>
   (.need (some (impl_NormalOf_l2_E v652 v653 v654 s.1 s.2.1 (((v1237.2).length : Nat) : Int) s.2.2 v1237.1 v1237.2 ((0 : Int), (0 : Int))) = some (impl_NormalOf_l2_E v652 v653 v654 s.1 s.2.1 (((v1237.2).length : Nat) : Int) s.2.2 v1237.1 v1237.2 ((0 : Int), (0 : Int)))) <|
   (.call (impl_NormalOf_l2_g v652 v653 v654 s.1 s.2.1 (((v1237.2).length : Nat) : Int) s.2.2 v1237.1 v1237.2 ((0 : Int), (0 : Int))) fun v1403 =>
   (.br (decide (v1403 = (0 : Int))) (
    (.grd (fits (s.2.2 ++ ([(0 : Int)] : List Int)).length) <|
    .leaf (.inl (v1403, IntKind.i64.wrap (s.2.1 + (1 : Int)), s.2.2 ++ ([(0 : Int)] : List Int))))
   ) (
    (.grd (!decide (s.1 = 0)) <|
    (.grd (fits (s.2.2 ++ ([IntKind.i64.wrap (Int.tdiv v1403 s.1)] : List Int)).length) <|
    .leaf (.inl (v1403, IntKind.i64.wrap (s.2.1 + (1 : Int)), s.2.2 ++ ([IntKind.i64.wrap (Int.tdiv v1403 s.1)] : List Int)))))
   )))))
  ) (
   .leaf (.inr s.2.2)
  ))

noncomputable def impl_NormalOf_l0_g (v652 : Int) (v653 : Int) (v654 : List Int) (s0 : Int × Int × (List Int)) : Option ((List Int)) := whileM (fun s => (impl_NormalOf_l0_T v652 v653 v654 s).run) s0
def impl_NormalOf_l0_E (v652 : Int) (v653 : Int) (v654 : List Int) (s : Int × Int × (List Int)) : Sd := ([tp,.ptr 0 (0 : Nat) 0 (3 : Nat),tp,tp,.own 1 0 ((s.2.2).length),.int .i64 s.1,.int .i64 s.2.1,tp,tp,tp,tp,tp,tp,tp,tp,tp,tp,tp,tp,tp,tp,tp,tp,tp,tp,tp,tp,tp,tp,tp,tp,tp,tp,tp,tp,tp,tp,tp,tp,tp,tp,tp,tp,tp,tp,tp,tp,tp,tp,tp,tp,tp,tp,tp,tp,tp,tp,tp,tp,tp,tp,tp,tp,tp,tp,tp,tp,tp,tp,tp,tp,tp,tp,tp], [.gen [.int .i64 v652, .int .i64 v653, .bslc (BR.root 0) (.i64 v654)] false 0, .row (.i64 s.2.2) 0])
def impl_NormalOf_l0_X (v652 : Int) (v653 : Int) (v654 : List Int) (x : (List Int)) : Out := (.normal, [tp,tp,tp,tp,.own 0 0 ((x).length),tp,tp,tp,tp,tp,tp,tp,tp,tp,tp,tp,tp,tp,tp,tp,tp,tp,tp,tp,tp,tp,tp,tp,tp,tp,tp,tp,tp,tp,tp,tp,tp,tp,tp,tp,tp,tp,tp,tp,tp,tp,tp,tp,tp,tp,tp,tp,tp,tp,tp,tp,tp,tp,tp,tp,tp,tp,tp,tp,tp,tp,tp,tp,tp,tp,tp,tp,tp,tp], [.row (.i64 x) 0])
def impl_NormalOf_l0_kill : List Nat := KL true [1,1,2,3,67]
def impl_NormalOf_l0_nx : Exit → List Nat
  | .exit 0 => KL true [4,1,69]
  | .ret => KL true [2,2,70]
  | _ => []
noncomputable def impl_NormalOf_LO (v652 : Int) (v653 : Int) (v654 : List Int) : LOr := fun id e L =>
  match id with
  | 4 => .need (normA 0 impl_NormalOf_l4_kill e L = some (impl_NormalOf_l4_E v652 v653 v654 (gI (vAt e 5)) (gI (vAt e 6)) (gK (vAt e 9)) (gI (vAt e 39)) (gI (vAt e 40)) (gI (vAt e 48)) (gRI L (vAt e 4)) (gPI L (vAt e 9) 0) (gX L (vAt e 9) 0) (gPI L (vAt e 47) 0) (gX L (vAt e 47) 0) ((gI (vAt e 7)), (gI (vAt e 49))))) (.call (impl_NormalOf_l4_g v652 v653 v654 (gI (vAt e 5)) (gI (vAt e 6)) (gK (vAt e 9)) (gI (vAt e 39)) (gI (vAt e 40)) (gI (vAt e 48)) (gRI L (vAt e 4)) (gPI L (vAt e 9) 0) (gX L (vAt e 9) 0) (gPI L (vAt e 47) 0) (gX L (vAt e 47) 0) ((gI (vAt e 7)), (gI (vAt e 49)))) fun x => .leaf (impl_NormalOf_l4_X v652 v653 v654 (gI (vAt e 5)) (gI (vAt e 6)) (gK (vAt e 9)) (gI (vAt e 39)) (gI (vAt e 40)) (gI (vAt e 48)) (gRI L (vAt e 4)) (gPI L (vAt e 9) 0) (gX L (vAt e 9) 0) (gPI L (vAt e 47) 0) (gX L (vAt e 47) 0) x))
  | 2 => .need (normA 0 impl_NormalOf_l2_kill e L = some (impl_NormalOf_l2_E v652 v653 v654 (gI (vAt e 5)) (gI (vAt e 6)) (gI (vAt e 39)) (gRI L (vAt e 4)) (gPI L (vAt e 38) 0) (gX L (vAt e 38) 0) ((gI (vAt e 7)), (gI (vAt e 40))))) (.call (impl_NormalOf_l2_g v652 v653 v654 (gI (vAt e 5)) (gI (vAt e 6)) (gI (vAt e 39)) (gRI L (vAt e 4)) (gPI L (vAt e 38) 0) (gX L (vAt e 38) 0) ((gI (vAt e 7)), (gI (vAt e 40)))) fun x => .leaf (impl_NormalOf_l2_X v652 v653 v654 (gI (vAt e 5)) (gI (vAt e 6)) (gI (vAt e 39)) (gRI L (vAt e 4)) (gPI L (vAt e 38) 0) (gX L (vAt e 38) 0) x))
  | 0 => .need (normA 0 impl_NormalOf_l0_kill e L = some (impl_NormalOf_l0_E v652 v653 v654 ((gI (vAt e 5)), (gI (vAt e 6)), (gRI L (vAt e 4))))) (.call (impl_NormalOf_l0_g v652 v653 v654 ((gI (vAt e 5)), (gI (vAt e 6)), (gRI L (vAt e 4)))) fun x => .leaf (impl_NormalOf_l0_X v652 v653 v654 x))
  | _ => .fail
noncomputable def impl_NormalOf_tab : List (FuncId × DFn × Bool) := [(76, impl_isLow_F, true), (77, impl_choices_F, true), (79, impl_Whole_minor_F, true), (78, impl_gcd_F, true)]
theorem impl_NormalOf_hO : OrcOk Try.prog (tabD impl_NormalOf_tab) (tabM impl_NormalOf_tab) := tabD_cons impl_isLow_Fok (tabD_cons impl_choices_Fok (tabD_cons impl_Whole_minor_Fok (tabD_cons impl_gcd_Fok (tabD_nil _))))
theorem impl_NormalOf_l4_be (v652 : Int) (v653 : Int) (v654 : List Int) (v1387 : Int) (v1388 : Int) (v1390 : Nat) (v1391 : Int) (v1392 : Int) (v1393 : Int) (v1395 : List Int) (v1396 : List (List Int)) (v1397 : List Nat) (v1398 : List (List Int)) (v1399 : List Nat) (s : Int × Int) : bodyT TT (tabD impl_NormalOf_tab) (tabM impl_NormalOf_tab) (impl_NormalOf_LO v652 v653 v654) 0 impl_NormalOf_l4_kill impl_NormalOf_l4_nx (bodyOf Try.f32 4) 4 (impl_NormalOf_l4_E v652 v653 v654 v1387 v1388 v1390 v1391 v1392 v1393 v1395 v1396 v1397 v1398 v1399 s) = (impl_NormalOf_l4_T v652 v653 v654 v1387 v1388 v1390 v1391 v1392 v1393 v1395 v1396 v1397 v1398 v1399 s).bind fun y => .leaf (outS (impl_NormalOf_l4_E v652 v653 v654 v1387 v1388 v1390 v1391 v1392 v1393 v1395 v1396 v1397 v1398 v1399) (impl_NormalOf_l4_X v652 v653 v654 v1387 v1388 v1390 v1391 v1392 v1393 v1395 v1396 v1397 v1398 v1399) y) := by kernel_rfl
theorem impl_NormalOf_l4_ok (v652 : Int) (v653 : Int) (v654 : List Int) : LSound Try.prog 0 (impl_NormalOf_LO v652 v653 v654) 4 (bodyOf Try.f32 4) := by
  intro e L out h
  exact lo_ok (E := impl_NormalOf_l4_E v652 v653 v654 (gI (vAt e 5)) (gI (vAt e 6)) (gK (vAt e 9)) (gI (vAt e 39)) (gI (vAt e 40)) (gI (vAt e 48)) (gRI L (vAt e 4)) (gPI L (vAt e 9) 0) (gX L (vAt e 9) 0) (gPI L (vAt e 47) 0) (gX L (vAt e 47) 0)) (gT := impl_NormalOf_l4_T v652 v653 v654 (gI (vAt e 5)) (gI (vAt e 6)) (gK (vAt e 9)) (gI (vAt e 39)) (gI (vAt e 40)) (gI (vAt e 48)) (gRI L (vAt e 4)) (gPI L (vAt e 9) 0) (gX L (vAt e 9) 0) (gPI L (vAt e 47) 0) (gX L (vAt e 47) 0)) (X := impl_NormalOf_l4_X v652 v653 v654 (gI (vAt e 5)) (gI (vAt e 6)) (gK (vAt e 9)) (gI (vAt e 39)) (gI (vAt e 40)) (gI (vAt e 48)) (gRI L (vAt e 4)) (gPI L (vAt e 9) 0) (gX L (vAt e 9) 0) (gPI L (vAt e 47) 0) (gX L (vAt e 47) 0)) (s0 := ((gI (vAt e 7)), (gI (vAt e 49)))) tok impl_NormalOf_hO mixed (LoopsOk_eq (l := []) (by kernel_rfl) trivial) (impl_NormalOf_l4_be v652 v653 v654 (gI (vAt e 5)) (gI (vAt e 6)) (gK (vAt e 9)) (gI (vAt e 39)) (gI (vAt e 40)) (gI (vAt e 48)) (gRI L (vAt e 4)) (gPI L (vAt e 9) 0) (gX L (vAt e 9) 0) (gPI L (vAt e 47) 0) (gX L (vAt e 47) 0)) rfl (by intro x; rfl) h
theorem impl_NormalOf_l2_be (v652 : Int) (v653 : Int) (v654 : List Int) (v1348 : Int) (v1349 : Int) (v1351 : Int) (v1353 : List Int) (v1354 : List (List Int)) (v1355 : List Nat) (s : Int × Int) : bodyT TT (tabD impl_NormalOf_tab) (tabM impl_NormalOf_tab) (impl_NormalOf_LO v652 v653 v654) 0 impl_NormalOf_l2_kill impl_NormalOf_l2_nx (bodyOf Try.f32 2) 2 (impl_NormalOf_l2_E v652 v653 v654 v1348 v1349 v1351 v1353 v1354 v1355 s) = (impl_NormalOf_l2_T v652 v653 v654 v1348 v1349 v1351 v1353 v1354 v1355 s).bind fun y => .leaf (outS (impl_NormalOf_l2_E v652 v653 v654 v1348 v1349 v1351 v1353 v1354 v1355) (impl_NormalOf_l2_X v652 v653 v654 v1348 v1349 v1351 v1353 v1354 v1355) y) := by kernel_rfl
theorem impl_NormalOf_l2_ok (v652 : Int) (v653 : Int) (v654 : List Int) : LSound Try.prog 0 (impl_NormalOf_LO v652 v653 v654) 2 (bodyOf Try.f32 2) := by
  intro e L out h
  exact lo_ok (E := impl_NormalOf_l2_E v652 v653 v654 (gI (vAt e 5)) (gI (vAt e 6)) (gI (vAt e 39)) (gRI L (vAt e 4)) (gPI L (vAt e 38) 0) (gX L (vAt e 38) 0)) (gT := impl_NormalOf_l2_T v652 v653 v654 (gI (vAt e 5)) (gI (vAt e 6)) (gI (vAt e 39)) (gRI L (vAt e 4)) (gPI L (vAt e 38) 0) (gX L (vAt e 38) 0)) (X := impl_NormalOf_l2_X v652 v653 v654 (gI (vAt e 5)) (gI (vAt e 6)) (gI (vAt e 39)) (gRI L (vAt e 4)) (gPI L (vAt e 38) 0) (gX L (vAt e 38) 0)) (s0 := ((gI (vAt e 7)), (gI (vAt e 40)))) tok impl_NormalOf_hO mixed (LoopsOk_eq (l := [(4, bodyOf Try.f32 4)]) (by kernel_rfl) ⟨impl_NormalOf_l4_ok v652 v653 v654, trivial⟩) (impl_NormalOf_l2_be v652 v653 v654 (gI (vAt e 5)) (gI (vAt e 6)) (gI (vAt e 39)) (gRI L (vAt e 4)) (gPI L (vAt e 38) 0) (gX L (vAt e 38) 0)) rfl (by intro x; rfl) h
theorem impl_NormalOf_l0_be (v652 : Int) (v653 : Int) (v654 : List Int) (s : Int × Int × (List Int)) : bodyT TT (tabD impl_NormalOf_tab) (tabM impl_NormalOf_tab) (impl_NormalOf_LO v652 v653 v654) 0 impl_NormalOf_l0_kill impl_NormalOf_l0_nx (bodyOf Try.f32 0) 0 (impl_NormalOf_l0_E v652 v653 v654 s) = (impl_NormalOf_l0_T v652 v653 v654 s).bind fun y => .leaf (outS (impl_NormalOf_l0_E v652 v653 v654) (impl_NormalOf_l0_X v652 v653 v654) y) := by kernel_rfl
theorem impl_NormalOf_l0_ok (v652 : Int) (v653 : Int) (v654 : List Int) : LSound Try.prog 0 (impl_NormalOf_LO v652 v653 v654) 0 (bodyOf Try.f32 0) := by
  intro e L out h
  exact lo_ok (E := impl_NormalOf_l0_E v652 v653 v654) (gT := impl_NormalOf_l0_T v652 v653 v654) (X := impl_NormalOf_l0_X v652 v653 v654) (s0 := ((gI (vAt e 5)), (gI (vAt e 6)), (gRI L (vAt e 4)))) tok impl_NormalOf_hO mixed (LoopsOk_eq (l := [(2, bodyOf Try.f32 2)]) (by kernel_rfl) ⟨impl_NormalOf_l2_ok v652 v653 v654, trivial⟩) (impl_NormalOf_l0_be v652 v653 v654) rfl (by intro x; rfl) h
noncomputable def impl_NormalOf_T (v652 : Int) (v653 : Int) (v654 : List Int) : Tree ((Unit) ⊕ ((List Int))) :=
  (.call (impl_isLow_g v652 v653 v654) fun v688 =>
  (.br (!v688) (
   .leaf (.inl ())
  ) (
   (.br (decide ((4 : Int) < v652)) (
    .leaf (.inl ())
   ) (
    (.br (decide ((4 : Int) < v653)) (
     .leaf (.inl ())
    ) (
     (.need (some (impl_NormalOf_l0_E v652 v653 v654 ((1 : Int), (1 : Int), ([] : List Int))) = some (impl_NormalOf_l0_E v652 v653 v654 ((1 : Int), (1 : Int), ([] : List Int)))) <|
     (.call (impl_NormalOf_l0_g v652 v653 v654 ((1 : Int), (1 : Int), ([] : List Int))) fun v1404 =>
     .leaf (.inr v1404)))
    ))
   ))
  )))

noncomputable def impl_NormalOf_g (v652 : Int) (v653 : Int) (v654 : List Int) : Option ((Unit) ⊕ ((List Int))) := (impl_NormalOf_T v652 v653 v654).run
def impl_NormalOf_enc (v652 : Int) (v653 : Int) (v654 : List Int) (y : (Unit) ⊕ ((List Int))) : Rs := (match y with | .inl y => (.tup [.nilslc, .lit false], []) | .inr y => (.tup [.own 0 0 ((y).length), .lit true], [.row (.i64 y) 0]))
theorem impl_NormalOf_den (v652 : Int) (v653 : Int) (v654 : List Int) : (den TT (tabD impl_NormalOf_tab) (tabM impl_NormalOf_tab) (impl_NormalOf_LO v652 v653 v654) (codeOf Try.f32) ([.agg [.int .i64 v652, .int .i64 v653, .bslc (BR.root 0) (.i64 v654)]] ++ List.replicate (Try.f32.ntmps - ([.agg [.int .i64 v652, .int .i64 v653, .bslc (BR.root 0) (.i64 v654)]] : List DV).length) .undef) []).bind (retD TT Try.f32.results.toList 0) = (impl_NormalOf_T v652 v653 v654).bind fun y => .leaf (impl_NormalOf_enc v652 v653 v654 y) := by kernel_rfl
theorem impl_NormalOf_fn (v652 : Int) (v653 : Int) (v654 : List Int) (F : Fr) (h0 : St F [] F.H0) (hA : DVs.Ok F [] [.agg [.int .i64 v652, .int .i64 v653, .bslc (BR.root 0) (.i64 v654)]]) {y : (Unit) ⊕ ((List Int))} (hy : impl_NormalOf_g v652 v653 v654 = some y) : ∃ F' H', Fwd 0 F F' [] (impl_NormalOf_enc v652 v653 v654 y).2 ∧ FnOk Try.prog 32 (DVs.av F [.agg [.int .i64 v652, .int .i64 v653, .bslc (BR.root 0) (.i64 v654)]]) F.H0 ((impl_NormalOf_enc v652 v653 v654 y).1.av F') H' ∧ St F' (impl_NormalOf_enc v652 v653 v654 y).2 H' ∧ (impl_NormalOf_enc v652 v653 v654 y).1.Ok F' (impl_NormalOf_enc v652 v653 v654 y).2 :=
  fn_fin tok impl_NormalOf_hO mixed Try.func32 Try.call32 (by kernel_rfl) (LoopsOk_eq (l := [(0, bodyOf Try.f32 0)]) (by kernel_rfl) ⟨impl_NormalOf_l0_ok v652 v653 v654, trivial⟩) (impl_NormalOf_den v652 v653 v654) hy h0 hA
noncomputable def impl_NormalOf_F : DFn := fun args L =>
  match args with
  | [.agg [.int .i64 v652, .int .i64 v653, a1]] =>
    optT (rowI64 L a1) fun v654 =>
    .call (impl_NormalOf_g v652 v653 v654) fun y => .sum y (fun y0 => .leaf (.tup [.nilslc, .lit false], L)) (fun z0 => .leaf (.tup [.own (L.length + 0) 0 ((z0).length), .lit true], L ++ [.row (.i64 z0) 0]))
  | _ => .fail
theorem impl_NormalOf_Fok : COk Try.prog 32 impl_NormalOf_F true := by
  intro F L H args r L' hs ha hr
  unfold impl_NormalOf_F at hr
  split at hr
  · rename_i v652 v653 a1
    obtain ⟨v654, hv654, hr⟩ := optT_run hr
    simp only [Tree.run] at hr
    obtain ⟨y, hy, hr⟩ := Option.bind_eq_some_iff.1 hr
    cases y with
    | inl y =>
      simp only [Tree.run, Option.some.injEq, Prod.mk.injEq] at hr
      obtain ⟨rfl, rfl⟩ := hr
      exact call_ok0 hs (fun k => (([a1.av F] : List AV)[k]?).getD .top) [.agg [.int .i64 v652, .int .i64 v653, a1]] [.agg [.int .i64 v652, .int .i64 v653, .bslc (BR.root 0) (.i64 v654)]] (fun F' h0 hi hρ => ⟨by simp [DVs.av, DV.av, BR.av, hρ], impl_NormalOf_fn v652 v653 v654 F' (st_nil hi) ⟨⟨trivial, trivial, bslc_ok hi (by rw [h0, hρ]; exact rowI64_ok hs (DVs.okAt (DVs.okAt ha 0 rfl) 2 rfl) hv654), trivial⟩, trivial⟩ hy⟩) rfl
    | inr y =>
      simp only [Tree.run, Option.some.injEq, Prod.mk.injEq] at hr
      obtain ⟨rfl, rfl⟩ := hr
      exact call_ok1 hs (fun k => (([a1.av F] : List AV)[k]?).getD .top) [.agg [.int .i64 v652, .int .i64 v653, a1]] [.agg [.int .i64 v652, .int .i64 v653, .bslc (BR.root 0) (.i64 v654)]] (fun F' h0 hi hρ => ⟨by simp [DVs.av, DV.av, BR.av, hρ], impl_NormalOf_fn v652 v653 v654 F' (st_nil hi) ⟨⟨trivial, trivial, bslc_ok hi (by rw [h0, hρ]; exact rowI64_ok hs (DVs.okAt (DVs.okAt ha 0 rfl) 2 rfl) hv654), trivial⟩, trivial⟩ hy⟩) rfl rfl
  · cases hr
/-! laws.eqInt64S -/
noncomputable def laws_eqInt64S_l0_T (v1408 : List Int) (v1409 : List Int) (s : Int) : Tree ((Int) ⊕ ((Unit) ⊕ (Unit))) :=
  (.br (decide (s < ((v1408.length : Nat) : Int))) (
   (.grd (inb s v1408.length) <|
   (.grd (inb s v1409.length) <|
   (.br (!decide (nth v1408 (Int.toNat s) = nth v1409 (Int.toNat s))) (
    .leaf (.inr (.inl ()))
   ) (
    .leaf (.inl (IntKind.i64.wrap (s + (1 : Int))))
   ))))
  ) (
   .leaf (.inr (.inr ()))
  ))

noncomputable def laws_eqInt64S_l0_g (v1408 : List Int) (v1409 : List Int) (s0 : Int) : Option ((Unit) ⊕ (Unit)) := whileM (fun s => (laws_eqInt64S_l0_T v1408 v1409 s).run) s0
def laws_eqInt64S_l0_E (v1408 : List Int) (v1409 : List Int) (s : Int) : Sd := ([.bslc (BR.root 0) (.i64 v1408),.bslc (BR.root 1) (.i64 v1409),tp,tp,tp,.int .i64 s,tp,tp,tp,tp,tp,tp,tp,tp,tp,tp,tp,tp,tp,tp,tp,tp,tp,tp,tp,tp], [])
def laws_eqInt64S_l0_X (v1408 : List Int) (v1409 : List Int) (x : (Unit) ⊕ (Unit)) : Out := (match x with | .inl x => (.ret, [tp,tp,tp,tp,.lit false,tp,tp,tp,tp,tp,tp,tp,tp,tp,tp,tp,tp,tp,tp,tp,tp,tp,tp,tp,tp,tp], []) | .inr x => (.normal, [tp,tp,tp,tp,tp,tp,tp,tp,tp,tp,tp,tp,tp,tp,tp,tp,tp,tp,tp,tp,tp,tp,tp,tp,tp,tp], []))
def laws_eqInt64S_l0_kill : List Nat := KL true [0,2,3,1,20]
def laws_eqInt64S_l0_nx : Exit → List Nat
  | .exit 0 => KL true [26]
  | .ret => KL true [4,1,21]
  | _ => []
noncomputable def laws_eqInt64S_LO (v1408 : List Int) (v1409 : List Int) : LOr := fun id e L =>
  match id with
  | 0 => .need (normA 0 laws_eqInt64S_l0_kill e L = some (laws_eqInt64S_l0_E v1408 v1409 (gI (vAt e 5)))) (.call (laws_eqInt64S_l0_g v1408 v1409 (gI (vAt e 5))) fun x => .sum x (fun b0 => .leaf (laws_eqInt64S_l0_X v1408 v1409 (.inl b0))) (fun c0 => .leaf (laws_eqInt64S_l0_X v1408 v1409 (.inr c0))))
  | _ => .fail
noncomputable def laws_eqInt64S_tab : List (FuncId × DFn × Bool) := []
theorem laws_eqInt64S_hO : OrcOk Try.prog (tabD laws_eqInt64S_tab) (tabM laws_eqInt64S_tab) := tabD_nil _
theorem laws_eqInt64S_l0_be (v1408 : List Int) (v1409 : List Int) (s : Int) : bodyT TT (tabD laws_eqInt64S_tab) (tabM laws_eqInt64S_tab) (laws_eqInt64S_LO v1408 v1409) 0 laws_eqInt64S_l0_kill laws_eqInt64S_l0_nx (bodyOf Try.f22 0) 0 (laws_eqInt64S_l0_E v1408 v1409 s) = (laws_eqInt64S_l0_T v1408 v1409 s).bind fun y => .leaf (outS (laws_eqInt64S_l0_E v1408 v1409) (laws_eqInt64S_l0_X v1408 v1409) y) := by kernel_rfl
theorem laws_eqInt64S_l0_ok (v1408 : List Int) (v1409 : List Int) : LSound Try.prog 0 (laws_eqInt64S_LO v1408 v1409) 0 (bodyOf Try.f22 0) := by
  intro e L out h
  exact lo_ok (E := laws_eqInt64S_l0_E v1408 v1409) (gT := laws_eqInt64S_l0_T v1408 v1409) (X := laws_eqInt64S_l0_X v1408 v1409) (s0 := (gI (vAt e 5))) tok laws_eqInt64S_hO mixed (LoopsOk_eq (l := []) (by kernel_rfl) trivial) (laws_eqInt64S_l0_be v1408 v1409) rfl (by intro x; (cases x with | inl b => rfl | inr x => exact rfl)) h
noncomputable def laws_eqInt64S_T (v1408 : List Int) (v1409 : List Int) : Tree (Bool) :=
  (.br (!decide (((v1408.length : Nat) : Int) = ((v1409.length : Nat) : Int))) (
   .leaf false
  ) (
   (.need (some (laws_eqInt64S_l0_E v1408 v1409 (0 : Int)) = some (laws_eqInt64S_l0_E v1408 v1409 (0 : Int))) <|
   (.call (laws_eqInt64S_l0_g v1408 v1409 (0 : Int)) fun v1413 =>
   (.sum v1413 (fun v1414 =>
    .leaf false
   ) (fun v1415 =>
    .leaf true
   ))))
  ))

noncomputable def laws_eqInt64S_g (v1408 : List Int) (v1409 : List Int) : Option (Bool) := (laws_eqInt64S_T v1408 v1409).run
def laws_eqInt64S_enc (v1408 : List Int) (v1409 : List Int) (y : Bool) : Rs := (.bool y, [])
theorem laws_eqInt64S_den (v1408 : List Int) (v1409 : List Int) : (den TT (tabD laws_eqInt64S_tab) (tabM laws_eqInt64S_tab) (laws_eqInt64S_LO v1408 v1409) (codeOf Try.f22) ([.bslc (BR.root 0) (.i64 v1408), .bslc (BR.root 1) (.i64 v1409)] ++ List.replicate (Try.f22.ntmps - ([.bslc (BR.root 0) (.i64 v1408), .bslc (BR.root 1) (.i64 v1409)] : List DV).length) .undef) []).bind (retD TT Try.f22.results.toList 0) = (laws_eqInt64S_T v1408 v1409).bind fun y => .leaf (laws_eqInt64S_enc v1408 v1409 y) := by kernel_rfl
theorem laws_eqInt64S_fn (v1408 : List Int) (v1409 : List Int) (F : Fr) (h0 : St F [] F.H0) (hA : DVs.Ok F [] [.bslc (BR.root 0) (.i64 v1408), .bslc (BR.root 1) (.i64 v1409)]) {y : Bool} (hy : laws_eqInt64S_g v1408 v1409 = some y) : ∃ F' H', Fwd 0 F F' [] (laws_eqInt64S_enc v1408 v1409 y).2 ∧ FnOk Try.prog 22 (DVs.av F [.bslc (BR.root 0) (.i64 v1408), .bslc (BR.root 1) (.i64 v1409)]) F.H0 ((laws_eqInt64S_enc v1408 v1409 y).1.av F') H' ∧ St F' (laws_eqInt64S_enc v1408 v1409 y).2 H' ∧ (laws_eqInt64S_enc v1408 v1409 y).1.Ok F' (laws_eqInt64S_enc v1408 v1409 y).2 :=
  fn_fin tok laws_eqInt64S_hO mixed Try.func22 Try.call22 (by kernel_rfl) (LoopsOk_eq (l := [(0, bodyOf Try.f22 0)]) (by kernel_rfl) ⟨laws_eqInt64S_l0_ok v1408 v1409, trivial⟩) (laws_eqInt64S_den v1408 v1409) hy h0 hA
noncomputable def laws_eqInt64S_F : DFn := fun args L =>
  match args with
  | [a1, a2] =>
    optT (rowI64 L a1) fun v1408 =>
    optT (rowI64 L a2) fun v1409 =>
    .call (laws_eqInt64S_g v1408 v1409) fun y => .leaf (.bool y, L)
  | _ => .fail
theorem laws_eqInt64S_Fok : COk Try.prog 22 laws_eqInt64S_F true := by
  intro F L H args r L' hs ha hr
  unfold laws_eqInt64S_F at hr
  split at hr
  · rename_i a1 a2
    obtain ⟨v1408, hv1408, hr⟩ := optT_run hr
    obtain ⟨v1409, hv1409, hr⟩ := optT_run hr
    simp only [Tree.run] at hr
    obtain ⟨y, hy, hr⟩ := Option.bind_eq_some_iff.1 hr
    simp only [Tree.run, Option.some.injEq, Prod.mk.injEq] at hr
    obtain ⟨rfl, rfl⟩ := hr
    exact call_ok0 hs (fun k => (([a1.av F, a2.av F] : List AV)[k]?).getD .top) [a1, a2] [.bslc (BR.root 0) (.i64 v1408), .bslc (BR.root 1) (.i64 v1409)] (fun F' h0 hi hρ => ⟨by simp [DVs.av, DV.av, BR.av, hρ], laws_eqInt64S_fn v1408 v1409 F' (st_nil hi) ⟨bslc_ok hi (by rw [h0, hρ]; exact rowI64_ok hs (DVs.okAt ha 0 rfl) hv1408), bslc_ok hi (by rw [h0, hρ]; exact rowI64_ok hs (DVs.okAt ha 1 rfl) hv1409), trivial⟩ hy⟩) rfl
  · cases hr
/-! laws.eqWhole -/
noncomputable def laws_eqWhole_LO (v1418 : Int) (v1419 : Int) (v1420 : List Int) (v1421 : Int) (v1422 : Int) (v1423 : List Int) : LOr := fun id e L =>
  match id with
  | _ => .fail
noncomputable def laws_eqWhole_tab : List (FuncId × DFn × Bool) := [(22, laws_eqInt64S_F, true)]
theorem laws_eqWhole_hO : OrcOk Try.prog (tabD laws_eqWhole_tab) (tabM laws_eqWhole_tab) := tabD_cons laws_eqInt64S_Fok (tabD_nil _)
noncomputable def laws_eqWhole_T (v1418 : Int) (v1419 : Int) (v1420 : List Int) (v1421 : Int) (v1422 : Int) (v1423 : List Int) : Tree (Bool) :=
  (.br (!decide (v1418 = v1421)) (
   .leaf false
  ) (
   (.br (!decide (v1419 = v1422)) (
    .leaf false
   ) (
    (.call (laws_eqInt64S_g v1420 v1423) fun v1424 =>
    (.br (!v1424) (
     .leaf false
    ) (
     .leaf true
    )))
   ))
  ))

noncomputable def laws_eqWhole_g (v1418 : Int) (v1419 : Int) (v1420 : List Int) (v1421 : Int) (v1422 : Int) (v1423 : List Int) : Option (Bool) := (laws_eqWhole_T v1418 v1419 v1420 v1421 v1422 v1423).run
def laws_eqWhole_enc (v1418 : Int) (v1419 : Int) (v1420 : List Int) (v1421 : Int) (v1422 : Int) (v1423 : List Int) (y : Bool) : Rs := (.bool y, [])
theorem laws_eqWhole_den (v1418 : Int) (v1419 : Int) (v1420 : List Int) (v1421 : Int) (v1422 : Int) (v1423 : List Int) : (den TT (tabD laws_eqWhole_tab) (tabM laws_eqWhole_tab) (laws_eqWhole_LO v1418 v1419 v1420 v1421 v1422 v1423) (codeOf Try.f16) ([.agg [.int .i64 v1418, .int .i64 v1419, .bslc (BR.root 0) (.i64 v1420)], .agg [.int .i64 v1421, .int .i64 v1422, .bslc (BR.root 1) (.i64 v1423)]] ++ List.replicate (Try.f16.ntmps - ([.agg [.int .i64 v1418, .int .i64 v1419, .bslc (BR.root 0) (.i64 v1420)], .agg [.int .i64 v1421, .int .i64 v1422, .bslc (BR.root 1) (.i64 v1423)]] : List DV).length) .undef) []).bind (retD TT Try.f16.results.toList 0) = (laws_eqWhole_T v1418 v1419 v1420 v1421 v1422 v1423).bind fun y => .leaf (laws_eqWhole_enc v1418 v1419 v1420 v1421 v1422 v1423 y) := by kernel_rfl
theorem laws_eqWhole_fn (v1418 : Int) (v1419 : Int) (v1420 : List Int) (v1421 : Int) (v1422 : Int) (v1423 : List Int) (F : Fr) (h0 : St F [] F.H0) (hA : DVs.Ok F [] [.agg [.int .i64 v1418, .int .i64 v1419, .bslc (BR.root 0) (.i64 v1420)], .agg [.int .i64 v1421, .int .i64 v1422, .bslc (BR.root 1) (.i64 v1423)]]) {y : Bool} (hy : laws_eqWhole_g v1418 v1419 v1420 v1421 v1422 v1423 = some y) : ∃ F' H', Fwd 0 F F' [] (laws_eqWhole_enc v1418 v1419 v1420 v1421 v1422 v1423 y).2 ∧ FnOk Try.prog 16 (DVs.av F [.agg [.int .i64 v1418, .int .i64 v1419, .bslc (BR.root 0) (.i64 v1420)], .agg [.int .i64 v1421, .int .i64 v1422, .bslc (BR.root 1) (.i64 v1423)]]) F.H0 ((laws_eqWhole_enc v1418 v1419 v1420 v1421 v1422 v1423 y).1.av F') H' ∧ St F' (laws_eqWhole_enc v1418 v1419 v1420 v1421 v1422 v1423 y).2 H' ∧ (laws_eqWhole_enc v1418 v1419 v1420 v1421 v1422 v1423 y).1.Ok F' (laws_eqWhole_enc v1418 v1419 v1420 v1421 v1422 v1423 y).2 :=
  fn_fin tok laws_eqWhole_hO mixed Try.func16 Try.call16 (by kernel_rfl) (LoopsOk_eq (l := []) (by kernel_rfl) trivial) (laws_eqWhole_den v1418 v1419 v1420 v1421 v1422 v1423) hy h0 hA
noncomputable def laws_eqWhole_F : DFn := fun args L =>
  match args with
  | [.agg [.int .i64 v1418, .int .i64 v1419, a1], .agg [.int .i64 v1421, .int .i64 v1422, a2]] =>
    optT (rowI64 L a1) fun v1420 =>
    optT (rowI64 L a2) fun v1423 =>
    .call (laws_eqWhole_g v1418 v1419 v1420 v1421 v1422 v1423) fun y => .leaf (.bool y, L)
  | _ => .fail
theorem laws_eqWhole_Fok : COk Try.prog 16 laws_eqWhole_F true := by
  intro F L H args r L' hs ha hr
  unfold laws_eqWhole_F at hr
  split at hr
  · rename_i v1418 v1419 a1 v1421 v1422 a2
    obtain ⟨v1420, hv1420, hr⟩ := optT_run hr
    obtain ⟨v1423, hv1423, hr⟩ := optT_run hr
    simp only [Tree.run] at hr
    obtain ⟨y, hy, hr⟩ := Option.bind_eq_some_iff.1 hr
    simp only [Tree.run, Option.some.injEq, Prod.mk.injEq] at hr
    obtain ⟨rfl, rfl⟩ := hr
    exact call_ok0 hs (fun k => (([a1.av F, a2.av F] : List AV)[k]?).getD .top) [.agg [.int .i64 v1418, .int .i64 v1419, a1], .agg [.int .i64 v1421, .int .i64 v1422, a2]] [.agg [.int .i64 v1418, .int .i64 v1419, .bslc (BR.root 0) (.i64 v1420)], .agg [.int .i64 v1421, .int .i64 v1422, .bslc (BR.root 1) (.i64 v1423)]] (fun F' h0 hi hρ => ⟨by simp [DVs.av, DV.av, BR.av, hρ], laws_eqWhole_fn v1418 v1419 v1420 v1421 v1422 v1423 F' (st_nil hi) ⟨⟨trivial, trivial, bslc_ok hi (by rw [h0, hρ]; exact rowI64_ok hs (DVs.okAt (DVs.okAt ha 0 rfl) 2 rfl) hv1420), trivial⟩, ⟨trivial, trivial, bslc_ok hi (by rw [h0, hρ]; exact rowI64_ok hs (DVs.okAt (DVs.okAt ha 1 rfl) 2 rfl) hv1423), trivial⟩, trivial⟩ hy⟩) rfl
  · cases hr
/-! laws.markInt64S -/
noncomputable def laws_markInt64S_l0_T (s : Int × Int × (List Int)) : Tree ((Int × Int × (List Int)) ⊕ (Int × (List Int))) :=
  (.br (decide (s.2.1 < (((s.2.2).length : Nat) : Int))) (
   (.grd (inb s.2.1 ((s.2.2).length)) <|
   .leaf (.inl (IntKind.i64.wrap (s.1 + (1 : Int)), IntKind.i64.wrap (s.2.1 + (1 : Int)), List.set s.2.2 (Int.toNat s.2.1) s.1)))
  ) (
   .leaf (.inr (s.1, s.2.2))
  ))

noncomputable def laws_markInt64S_l0_g (s0 : Int × Int × (List Int)) : Option (Int × (List Int)) := whileM (fun s => (laws_markInt64S_l0_T s).run) s0
def laws_markInt64S_l0_E (v1434 : List Int) (v1435 : Int) (s : Int × Int × (List Int)) : Sd := ([.own 0 0 ((s.2.2).length),.int .i64 s.1,tp,tp,tp,.int .i64 s.2.1,tp,tp,tp,tp,tp,tp,tp,tp,tp,tp,tp,tp,tp], [.row (.i64 s.2.2) 0])
def laws_markInt64S_l0_X (v1434 : List Int) (v1435 : Int) (x : Int × (List Int)) : Out := (.normal, [tp,.int .i64 x.1,tp,tp,tp,tp,tp,tp,tp,tp,tp,tp,tp,tp,tp,tp,tp,tp,tp], [.row (.i64 x.2) 0])
def laws_markInt64S_l0_kill : List Nat := KL true [0,2,3,1,13]
def laws_markInt64S_l0_nx : Exit → List Nat
  | .exit 0 => KL true [1,1,17]
  | .ret => KL true [4,1,14]
  | _ => []
noncomputable def laws_markInt64S_LO (v1434 : List Int) (v1435 : Int) : LOr := fun id e L =>
  match id with
  | 0 => .need (normA 1 laws_markInt64S_l0_kill e L = some (laws_markInt64S_l0_E v1434 v1435 ((gI (vAt e 1)), (gI (vAt e 5)), (gRI L (vAt e 0))))) (.call (laws_markInt64S_l0_g ((gI (vAt e 1)), (gI (vAt e 5)), (gRI L (vAt e 0)))) fun x => .leaf (laws_markInt64S_l0_X v1434 v1435 x))
  | _ => .fail
noncomputable def laws_markInt64S_tab : List (FuncId × DFn × Bool) := []
theorem laws_markInt64S_hO : OrcOk Try.prog (tabD laws_markInt64S_tab) (tabM laws_markInt64S_tab) := tabD_nil _
theorem laws_markInt64S_l0_be (v1434 : List Int) (v1435 : Int) (s : Int × Int × (List Int)) : bodyT TT (tabD laws_markInt64S_tab) (tabM laws_markInt64S_tab) (laws_markInt64S_LO v1434 v1435) 1 laws_markInt64S_l0_kill laws_markInt64S_l0_nx (bodyOf Try.f24 0) 0 (laws_markInt64S_l0_E v1434 v1435 s) = (laws_markInt64S_l0_T s).bind fun y => .leaf (outS (laws_markInt64S_l0_E v1434 v1435) (laws_markInt64S_l0_X v1434 v1435) y) := by kernel_rfl
theorem laws_markInt64S_l0_ok (v1434 : List Int) (v1435 : Int) : LSound Try.prog 1 (laws_markInt64S_LO v1434 v1435) 0 (bodyOf Try.f24 0) := by
  intro e L out h
  exact lo_ok (E := laws_markInt64S_l0_E v1434 v1435) (gT := laws_markInt64S_l0_T) (X := laws_markInt64S_l0_X v1434 v1435) (s0 := ((gI (vAt e 1)), (gI (vAt e 5)), (gRI L (vAt e 0)))) tok laws_markInt64S_hO mixed (LoopsOk_eq (l := []) (by kernel_rfl) trivial) (laws_markInt64S_l0_be v1434 v1435) rfl (by intro x; rfl) h
noncomputable def laws_markInt64S_T (v1434 : List Int) (v1435 : Int) : Tree (Int × (List Int)) :=
  (.need (some (laws_markInt64S_l0_E v1434 v1435 (v1435, (0 : Int), v1434)) = some (laws_markInt64S_l0_E v1434 v1435 (v1435, (0 : Int), v1434))) <|
  (.call (laws_markInt64S_l0_g (v1435, (0 : Int), v1434)) fun v1444 =>
  .leaf (v1444.1, v1444.2)))

noncomputable def laws_markInt64S_g (v1434 : List Int) (v1435 : Int) : Option (Int × (List Int)) := (laws_markInt64S_T v1434 v1435).run
def laws_markInt64S_enc (v1434 : List Int) (v1435 : Int) (y : Int × (List Int)) : Rs := (.int .i64 y.1, [.row (.i64 y.2) 0])
theorem laws_markInt64S_den (v1434 : List Int) (v1435 : Int) : (den TT (tabD laws_markInt64S_tab) (tabM laws_markInt64S_tab) (laws_markInt64S_LO v1434 v1435) (codeOf Try.f24) ([.own 0 0 v1434.length, .int .i64 v1435] ++ List.replicate (Try.f24.ntmps - ([.own 0 0 v1434.length, .int .i64 v1435] : List DV).length) .undef) [.row (.i64 v1434) 0]).bind (retD TT Try.f24.results.toList 1) = (laws_markInt64S_T v1434 v1435).bind fun y => .leaf (laws_markInt64S_enc v1434 v1435 y) := by kernel_rfl
theorem laws_markInt64S_fn (v1434 : List Int) (v1435 : Int) (F : Fr) (h0 : St F [.row (.i64 v1434) 0] F.H0) (hA : DVs.Ok F [.row (.i64 v1434) 0] [.own 0 0 v1434.length, .int .i64 v1435]) {y : Int × (List Int)} (hy : laws_markInt64S_g v1434 v1435 = some y) : ∃ F' H', Fwd 1 F F' [.row (.i64 v1434) 0] (laws_markInt64S_enc v1434 v1435 y).2 ∧ FnOk Try.prog 24 (DVs.av F [.own 0 0 v1434.length, .int .i64 v1435]) F.H0 ((laws_markInt64S_enc v1434 v1435 y).1.av F') H' ∧ St F' (laws_markInt64S_enc v1434 v1435 y).2 H' ∧ (laws_markInt64S_enc v1434 v1435 y).1.Ok F' (laws_markInt64S_enc v1434 v1435 y).2 :=
  fn_fin tok laws_markInt64S_hO mixed Try.func24 Try.call24 (by kernel_rfl) (LoopsOk_eq (l := [(0, bodyOf Try.f24 0)]) (by kernel_rfl) ⟨laws_markInt64S_l0_ok v1434 v1435, trivial⟩) (laws_markInt64S_den v1434 v1435) hy h0 hA
noncomputable def laws_markInt64S_F : DFn := fun args L =>
  match args with
  | [a1, .int .i64 v1435] =>
    optT (ownI64 L a1) fun qv1434 =>
    (match sepB [qv1434.1] [] with
    | true =>
    .call (laws_markInt64S_g qv1434.2 v1435) fun y => .grd (decide (y.2.length = qv1434.2.length)) (.leaf (.int .i64 y.1, setRows L ([qv1434.1].zip [.i64 y.2])))
    | false => .fail)
  | _ => .fail
theorem laws_markInt64S_Fok : COk Try.prog 24 laws_markInt64S_F false := by
  intro F L H args r L' hs ha hr
  unfold laws_markInt64S_F at hr
  split at hr
  · rename_i a1 v1435
    obtain ⟨⟨jv1434, v1434⟩, hqv1434, hr⟩ := optT_run hr
    simp only at hr
    split at hr
    · rename_i hsep
      obtain ⟨hnd, hsepv⟩ := sepB_spec hsep
      simp only [Tree.run] at hr
      obtain ⟨y, hy, hr⟩ := Option.bind_eq_some_iff.1 hr
      try simp only [Tree.run] at hr
      obtain ⟨hl0, hr⟩ := ite_run hr
      simp only [Option.some.injEq, Prod.mk.injEq] at hr
      obtain ⟨rfl, rfl⟩ := hr
      obtain ⟨hr0, hu0, ha0, hb0⟩ := (ownR_spec (DVs.okAt ha 0 rfl) (ownI64_or hqv1434))
      exact mut_ok hs (fun k => (([a1.av F] : List AV)[k]?).getD .top) [a1, .int .i64 v1435] [.own 0 0 v1434.length, .int .i64 v1435] [jv1434] [.i64 v1434] [.i64 y.2] hnd rfl rfl (fun i j q h1 h2 => by
          rcases i with _ | i
          · simp at h1 h2; subst h1; subst h2; exact hr0
          · simp at h1) (fun i q q' h1 h2 => by
          rcases i with _ | i
          · simp at h1 h2; subst h1; subst h2; first | exact of_decide_eq_true hl0 | rfl
          · simp at h1) (fun j hj => by simp at hj; subst hj; simp [DVs.refs, DV.refs, hu0]) (fun F' h0 hρ ab hst hS => ⟨by (have ab0 := ab 0 _ rfl; simp [DVs.av, DV.av, BR.av, hρ, Row.len, ha0, ab0]), by
          obtain ⟨F1, H1, k0, k1, k2, _⟩ := laws_markInt64S_fn v1434 v1435 F' hst ⟨⟨_, rfl, Nat.le_refl _, Nat.le_refl _, fun _ => rfl, (ownR_spec (DVs.okAt ha 0 rfl) (ownI64_or hqv1434)).2.2.2⟩, trivial, trivial⟩ hy
          exact ⟨F1, H1, k0, k1, k2⟩⟩) (fun F1 F2 => rfl) (fun F L' => trivial)
    · cases hr
  · cases hr
/-! laws.markWhole -/
noncomputable def laws_markWhole_LO (v1445 : Int) (v1446 : Int) (v1447 : List Int) (v1448 : Int) : LOr := fun id e L =>
  match id with
  | _ => .fail
noncomputable def laws_markWhole_tab : List (FuncId × DFn × Bool) := [(24, laws_markInt64S_F, false)]
theorem laws_markWhole_hO : OrcOk Try.prog (tabD laws_markWhole_tab) (tabM laws_markWhole_tab) := tabD_cons laws_markInt64S_Fok (tabD_nil _)
noncomputable def laws_markWhole_T (v1447 : List Int) (v1448 : Int) : Tree (Int × (List Int)) :=
  (.call (laws_markInt64S_g v1447 v1448) fun v1449 =>
  (.grd (decide (v1449.2.length = v1447.length)) <|
  .leaf (v1449.1, v1449.2)))

noncomputable def laws_markWhole_g (v1447 : List Int) (v1448 : Int) : Option (Int × (List Int)) := (laws_markWhole_T v1447 v1448).run
def laws_markWhole_enc (v1445 : Int) (v1446 : Int) (v1447 : List Int) (v1448 : Int) (y : Int × (List Int)) : Rs := (.int .i64 y.1, [.row (.i64 y.2) 0])
theorem laws_markWhole_den (v1445 : Int) (v1446 : Int) (v1447 : List Int) (v1448 : Int) : (den TT (tabD laws_markWhole_tab) (tabM laws_markWhole_tab) (laws_markWhole_LO v1445 v1446 v1447 v1448) (codeOf Try.f23) ([.agg [.int .i64 v1445, .int .i64 v1446, .own 0 0 v1447.length], .int .i64 v1448] ++ List.replicate (Try.f23.ntmps - ([.agg [.int .i64 v1445, .int .i64 v1446, .own 0 0 v1447.length], .int .i64 v1448] : List DV).length) .undef) [.row (.i64 v1447) 0]).bind (retD TT Try.f23.results.toList 1) = (laws_markWhole_T v1447 v1448).bind fun y => .leaf (laws_markWhole_enc v1445 v1446 v1447 v1448 y) := by kernel_rfl
theorem laws_markWhole_fn (v1445 : Int) (v1446 : Int) (v1447 : List Int) (v1448 : Int) (F : Fr) (h0 : St F [.row (.i64 v1447) 0] F.H0) (hA : DVs.Ok F [.row (.i64 v1447) 0] [.agg [.int .i64 v1445, .int .i64 v1446, .own 0 0 v1447.length], .int .i64 v1448]) {y : Int × (List Int)} (hy : laws_markWhole_g v1447 v1448 = some y) : ∃ F' H', Fwd 1 F F' [.row (.i64 v1447) 0] (laws_markWhole_enc v1445 v1446 v1447 v1448 y).2 ∧ FnOk Try.prog 23 (DVs.av F [.agg [.int .i64 v1445, .int .i64 v1446, .own 0 0 v1447.length], .int .i64 v1448]) F.H0 ((laws_markWhole_enc v1445 v1446 v1447 v1448 y).1.av F') H' ∧ St F' (laws_markWhole_enc v1445 v1446 v1447 v1448 y).2 H' ∧ (laws_markWhole_enc v1445 v1446 v1447 v1448 y).1.Ok F' (laws_markWhole_enc v1445 v1446 v1447 v1448 y).2 :=
  fn_fin tok laws_markWhole_hO mixed Try.func23 Try.call23 (by kernel_rfl) (LoopsOk_eq (l := []) (by kernel_rfl) trivial) (laws_markWhole_den v1445 v1446 v1447 v1448) hy h0 hA
noncomputable def laws_markWhole_F : DFn := fun args L =>
  match args with
  | [.agg [.int .i64 v1445, .int .i64 v1446, a1], .int .i64 v1448] =>
    optT (ownI64 L a1) fun qv1447 =>
    (match sepB [qv1447.1] [] with
    | true =>
    .call (laws_markWhole_g qv1447.2 v1448) fun y => .grd (decide (y.2.length = qv1447.2.length)) (.leaf (.int .i64 y.1, setRows L ([qv1447.1].zip [.i64 y.2])))
    | false => .fail)
  | _ => .fail
theorem laws_markWhole_Fok : COk Try.prog 23 laws_markWhole_F false := by
  intro F L H args r L' hs ha hr
  unfold laws_markWhole_F at hr
  split at hr
  · rename_i v1445 v1446 a1 v1448
    obtain ⟨⟨jv1447, v1447⟩, hqv1447, hr⟩ := optT_run hr
    simp only at hr
    split at hr
    · rename_i hsep
      obtain ⟨hnd, hsepv⟩ := sepB_spec hsep
      simp only [Tree.run] at hr
      obtain ⟨y, hy, hr⟩ := Option.bind_eq_some_iff.1 hr
      try simp only [Tree.run] at hr
      obtain ⟨hl0, hr⟩ := ite_run hr
      simp only [Option.some.injEq, Prod.mk.injEq] at hr
      obtain ⟨rfl, rfl⟩ := hr
      obtain ⟨hr0, hu0, ha0, hb0⟩ := (ownR_spec (DVs.okAt (DVs.okAt ha 0 rfl) 2 rfl) (ownI64_or hqv1447))
      exact mut_ok hs (fun k => (([a1.av F] : List AV)[k]?).getD .top) [.agg [.int .i64 v1445, .int .i64 v1446, a1], .int .i64 v1448] [.agg [.int .i64 v1445, .int .i64 v1446, .own 0 0 v1447.length], .int .i64 v1448] [jv1447] [.i64 v1447] [.i64 y.2] hnd rfl rfl (fun i j q h1 h2 => by
          rcases i with _ | i
          · simp at h1 h2; subst h1; subst h2; exact hr0
          · simp at h1) (fun i q q' h1 h2 => by
          rcases i with _ | i
          · simp at h1 h2; subst h1; subst h2; first | exact of_decide_eq_true hl0 | rfl
          · simp at h1) (fun j hj => by simp at hj; subst hj; simp [DVs.refs, DV.refs, hu0]) (fun F' h0 hρ ab hst hS => ⟨by (have ab0 := ab 0 _ rfl; simp [DVs.av, DV.av, BR.av, hρ, Row.len, ha0, ab0]), by
          obtain ⟨F1, H1, k0, k1, k2, _⟩ := laws_markWhole_fn v1445 v1446 v1447 v1448 F' hst ⟨⟨trivial, trivial, ⟨_, rfl, Nat.le_refl _, Nat.le_refl _, fun _ => rfl, (ownR_spec (DVs.okAt (DVs.okAt ha 0 rfl) 2 rfl) (ownI64_or hqv1447)).2.2.2⟩, trivial⟩, trivial, trivial⟩ hy
          exact ⟨F1, H1, k0, k1, k2⟩⟩) (fun F1 F2 => rfl) (fun F L' => trivial)
    · cases hr
  · cases hr
/-! laws.markInt64S -/
noncomputable def laws_markInt64S_i1_l0_T (s : Unit) : Tree ((Unit) ⊕ (Unit)) :=
  (.br (decide ((0 : Int) < (0 : Int))) (
   .fail
  ) (
   .leaf (.inr ())
  ))

noncomputable def laws_markInt64S_i1_l0_g (s0 : Unit) : Option (Unit) := whileM (fun s => (laws_markInt64S_i1_l0_T s).run) s0
def laws_markInt64S_i1_l0_E (v1452 : Int) (s : Unit) : Sd := ([.nilslc,.int .i64 v1452,tp,tp,tp,.int .i64 (0 : Int),tp,tp,tp,tp,tp,tp,tp,tp,tp,tp,tp,tp,tp], [])
def laws_markInt64S_i1_l0_X (v1452 : Int) (x : Unit) : Out := (.normal, [tp,.int .i64 v1452,tp,tp,tp,tp,tp,tp,tp,tp,tp,tp,tp,tp,tp,tp,tp,tp,tp], [])
def laws_markInt64S_i1_l0_kill : List Nat := KL true [0,2,3,1,13]
def laws_markInt64S_i1_l0_nx : Exit → List Nat
  | .exit 0 => KL true [1,1,17]
  | .ret => KL true [4,1,14]
  | _ => []
noncomputable def laws_markInt64S_i1_LO (v1452 : Int) : LOr := fun id e L =>
  match id with
  | 0 => .need (normA 0 laws_markInt64S_i1_l0_kill e L = some (laws_markInt64S_i1_l0_E v1452 ())) (.call (laws_markInt64S_i1_l0_g ()) fun x => .leaf (laws_markInt64S_i1_l0_X v1452 x))
  | _ => .fail
noncomputable def laws_markInt64S_i1_tab : List (FuncId × DFn × Bool) := []
theorem laws_markInt64S_i1_hO : OrcOk Try.prog (tabD laws_markInt64S_i1_tab) (tabM laws_markInt64S_i1_tab) := tabD_nil _
theorem laws_markInt64S_i1_l0_be (v1452 : Int) (s : Unit) : bodyT TT (tabD laws_markInt64S_i1_tab) (tabM laws_markInt64S_i1_tab) (laws_markInt64S_i1_LO v1452) 0 laws_markInt64S_i1_l0_kill laws_markInt64S_i1_l0_nx (bodyOf Try.f24 0) 0 (laws_markInt64S_i1_l0_E v1452 s) = (laws_markInt64S_i1_l0_T s).bind fun y => .leaf (outS (laws_markInt64S_i1_l0_E v1452) (laws_markInt64S_i1_l0_X v1452) y) := by kernel_rfl
theorem laws_markInt64S_i1_l0_ok (v1452 : Int) : LSound Try.prog 0 (laws_markInt64S_i1_LO v1452) 0 (bodyOf Try.f24 0) := by
  intro e L out h
  exact lo_ok (E := laws_markInt64S_i1_l0_E v1452) (gT := laws_markInt64S_i1_l0_T) (X := laws_markInt64S_i1_l0_X v1452) (s0 := ()) tok laws_markInt64S_i1_hO mixed (LoopsOk_eq (l := []) (by kernel_rfl) trivial) (laws_markInt64S_i1_l0_be v1452) rfl (by intro x; rfl) h
noncomputable def laws_markInt64S_i1_T (v1452 : Int) : Tree (Int) :=
  (.need (some (laws_markInt64S_i1_l0_E v1452 ()) = some (laws_markInt64S_i1_l0_E v1452 ())) <|
  (.call (laws_markInt64S_i1_l0_g ()) fun v1455 =>
  .leaf v1452))

noncomputable def laws_markInt64S_i1_g (v1452 : Int) : Option (Int) := (laws_markInt64S_i1_T v1452).run
def laws_markInt64S_i1_enc (v1452 : Int) (y : Int) : Rs := (.int .i64 y, [])
theorem laws_markInt64S_i1_den (v1452 : Int) : (den TT (tabD laws_markInt64S_i1_tab) (tabM laws_markInt64S_i1_tab) (laws_markInt64S_i1_LO v1452) (codeOf Try.f24) ([.nilslc, .int .i64 v1452] ++ List.replicate (Try.f24.ntmps - ([.nilslc, .int .i64 v1452] : List DV).length) .undef) []).bind (retD TT Try.f24.results.toList 0) = (laws_markInt64S_i1_T v1452).bind fun y => .leaf (laws_markInt64S_i1_enc v1452 y) := by kernel_rfl
theorem laws_markInt64S_i1_fn (v1452 : Int) (F : Fr) (h0 : St F [] F.H0) (hA : DVs.Ok F [] [.nilslc, .int .i64 v1452]) {y : Int} (hy : laws_markInt64S_i1_g v1452 = some y) : ∃ F' H', Fwd 0 F F' [] (laws_markInt64S_i1_enc v1452 y).2 ∧ FnOk Try.prog 24 (DVs.av F [.nilslc, .int .i64 v1452]) F.H0 ((laws_markInt64S_i1_enc v1452 y).1.av F') H' ∧ St F' (laws_markInt64S_i1_enc v1452 y).2 H' ∧ (laws_markInt64S_i1_enc v1452 y).1.Ok F' (laws_markInt64S_i1_enc v1452 y).2 :=
  fn_fin tok laws_markInt64S_i1_hO mixed Try.func24 Try.call24 (by kernel_rfl) (LoopsOk_eq (l := [(0, bodyOf Try.f24 0)]) (by kernel_rfl) ⟨laws_markInt64S_i1_l0_ok v1452, trivial⟩) (laws_markInt64S_i1_den v1452) hy h0 hA
noncomputable def laws_markInt64S_i1_F : DFn := fun args L =>
  match args with
  | [.nilslc, .int .i64 v1452] =>
    .call (laws_markInt64S_i1_g v1452) fun y => .leaf (.int .i64 y, L)
  | _ => .fail
theorem laws_markInt64S_i1_Fok : COk Try.prog 24 laws_markInt64S_i1_F true := by
  intro F L H args r L' hs ha hr
  unfold laws_markInt64S_i1_F at hr
  split at hr
  · rename_i v1452
    simp only [Tree.run] at hr
    obtain ⟨y, hy, hr⟩ := Option.bind_eq_some_iff.1 hr
    simp only [Tree.run, Option.some.injEq, Prod.mk.injEq] at hr
    obtain ⟨rfl, rfl⟩ := hr
    exact call_ok0 hs (fun k => (([] : List AV)[k]?).getD .top) [.nilslc, .int .i64 v1452] [.nilslc, .int .i64 v1452] (fun F' h0 hi hρ => ⟨by simp [DVs.av, DV.av, BR.av, hρ], laws_markInt64S_i1_fn v1452 F' (st_nil hi) ⟨trivial, trivial, trivial⟩ hy⟩) rfl
  · cases hr
/-! laws.heldInt64S -/
noncomputable def laws_heldInt64S_l0_T (v1457 : List Int) (s : Int × Int) : Tree ((Int × Int) ⊕ ((Unit) ⊕ (Int))) :=
  (.br (decide (s.2 < ((v1457.length : Nat) : Int))) (
   (.grd (inb s.2 v1457.length) <|
   (.br (!decide (nth v1457 (Int.toNat s.2) = s.1)) (
    .leaf (.inr (.inl ()))
   ) (
    .leaf (.inl (IntKind.i64.wrap (s.1 + (1 : Int)), IntKind.i64.wrap (s.2 + (1 : Int))))
   )))
  ) (
   .leaf (.inr (.inr s.1))
  ))

noncomputable def laws_heldInt64S_l0_g (v1457 : List Int) (s0 : Int × Int) : Option ((Unit) ⊕ (Int)) := whileM (fun s => (laws_heldInt64S_l0_T v1457 s).run) s0
def laws_heldInt64S_l0_E (v1457 : List Int) (v1458 : Int) (s : Int × Int) : Sd := ([.bslc (BR.root 0) (.i64 v1457),.int .i64 s.1,tp,tp,tp,.int .i64 s.2,tp,tp,tp,tp,tp,tp,tp,tp,tp,tp,tp,tp,tp,tp,tp], [])
def laws_heldInt64S_l0_X (v1457 : List Int) (v1458 : Int) (x : (Unit) ⊕ (Int)) : Out := (match x with | .inl x => (.ret, [tp,tp,tp,tp,.int .i64 (-1 : Int),tp,tp,tp,tp,tp,tp,tp,tp,tp,tp,tp,tp,tp,tp,tp,tp], []) | .inr x => (.normal, [tp,.int .i64 x,tp,tp,tp,tp,tp,tp,tp,tp,tp,tp,tp,tp,tp,tp,tp,tp,tp,tp,tp], []))
def laws_heldInt64S_l0_kill : List Nat := KL true [0,2,3,1,15]
def laws_heldInt64S_l0_nx : Exit → List Nat
  | .exit 0 => KL true [1,1,19]
  | .ret => KL true [4,1,16]
  | _ => []
noncomputable def laws_heldInt64S_LO (v1457 : List Int) (v1458 : Int) : LOr := fun id e L =>
  match id with
  | 0 => .need (normA 0 laws_heldInt64S_l0_kill e L = some (laws_heldInt64S_l0_E v1457 v1458 ((gI (vAt e 1)), (gI (vAt e 5))))) (.call (laws_heldInt64S_l0_g v1457 ((gI (vAt e 1)), (gI (vAt e 5)))) fun x => .sum x (fun b0 => .leaf (laws_heldInt64S_l0_X v1457 v1458 (.inl b0))) (fun c0 => .leaf (laws_heldInt64S_l0_X v1457 v1458 (.inr c0))))
  | _ => .fail
noncomputable def laws_heldInt64S_tab : List (FuncId × DFn × Bool) := []
theorem laws_heldInt64S_hO : OrcOk Try.prog (tabD laws_heldInt64S_tab) (tabM laws_heldInt64S_tab) := tabD_nil _
theorem laws_heldInt64S_l0_be (v1457 : List Int) (v1458 : Int) (s : Int × Int) : bodyT TT (tabD laws_heldInt64S_tab) (tabM laws_heldInt64S_tab) (laws_heldInt64S_LO v1457 v1458) 0 laws_heldInt64S_l0_kill laws_heldInt64S_l0_nx (bodyOf Try.f25 0) 0 (laws_heldInt64S_l0_E v1457 v1458 s) = (laws_heldInt64S_l0_T v1457 s).bind fun y => .leaf (outS (laws_heldInt64S_l0_E v1457 v1458) (laws_heldInt64S_l0_X v1457 v1458) y) := by kernel_rfl
theorem laws_heldInt64S_l0_ok (v1457 : List Int) (v1458 : Int) : LSound Try.prog 0 (laws_heldInt64S_LO v1457 v1458) 0 (bodyOf Try.f25 0) := by
  intro e L out h
  exact lo_ok (E := laws_heldInt64S_l0_E v1457 v1458) (gT := laws_heldInt64S_l0_T v1457) (X := laws_heldInt64S_l0_X v1457 v1458) (s0 := ((gI (vAt e 1)), (gI (vAt e 5)))) tok laws_heldInt64S_hO mixed (LoopsOk_eq (l := []) (by kernel_rfl) trivial) (laws_heldInt64S_l0_be v1457 v1458) rfl (by intro x; (cases x with | inl b => rfl | inr x => exact rfl)) h
noncomputable def laws_heldInt64S_T (v1457 : List Int) (v1458 : Int) : Tree (Int) :=
  (.need (some (laws_heldInt64S_l0_E v1457 v1458 (v1458, (0 : Int))) = some (laws_heldInt64S_l0_E v1457 v1458 (v1458, (0 : Int)))) <|
  (.call (laws_heldInt64S_l0_g v1457 (v1458, (0 : Int))) fun v1465 =>
  (.sum v1465 (fun v1466 =>
   .leaf (-1 : Int)
  ) (fun v1467 =>
   .leaf v1467
  ))))

noncomputable def laws_heldInt64S_g (v1457 : List Int) (v1458 : Int) : Option (Int) := (laws_heldInt64S_T v1457 v1458).run
def laws_heldInt64S_enc (v1457 : List Int) (v1458 : Int) (y : Int) : Rs := (.int .i64 y, [])
theorem laws_heldInt64S_den (v1457 : List Int) (v1458 : Int) : (den TT (tabD laws_heldInt64S_tab) (tabM laws_heldInt64S_tab) (laws_heldInt64S_LO v1457 v1458) (codeOf Try.f25) ([.bslc (BR.root 0) (.i64 v1457), .int .i64 v1458] ++ List.replicate (Try.f25.ntmps - ([.bslc (BR.root 0) (.i64 v1457), .int .i64 v1458] : List DV).length) .undef) []).bind (retD TT Try.f25.results.toList 0) = (laws_heldInt64S_T v1457 v1458).bind fun y => .leaf (laws_heldInt64S_enc v1457 v1458 y) := by kernel_rfl
theorem laws_heldInt64S_fn (v1457 : List Int) (v1458 : Int) (F : Fr) (h0 : St F [] F.H0) (hA : DVs.Ok F [] [.bslc (BR.root 0) (.i64 v1457), .int .i64 v1458]) {y : Int} (hy : laws_heldInt64S_g v1457 v1458 = some y) : ∃ F' H', Fwd 0 F F' [] (laws_heldInt64S_enc v1457 v1458 y).2 ∧ FnOk Try.prog 25 (DVs.av F [.bslc (BR.root 0) (.i64 v1457), .int .i64 v1458]) F.H0 ((laws_heldInt64S_enc v1457 v1458 y).1.av F') H' ∧ St F' (laws_heldInt64S_enc v1457 v1458 y).2 H' ∧ (laws_heldInt64S_enc v1457 v1458 y).1.Ok F' (laws_heldInt64S_enc v1457 v1458 y).2 :=
  fn_fin tok laws_heldInt64S_hO mixed Try.func25 Try.call25 (by kernel_rfl) (LoopsOk_eq (l := [(0, bodyOf Try.f25 0)]) (by kernel_rfl) ⟨laws_heldInt64S_l0_ok v1457 v1458, trivial⟩) (laws_heldInt64S_den v1457 v1458) hy h0 hA
noncomputable def laws_heldInt64S_F : DFn := fun args L =>
  match args with
  | [a1, .int .i64 v1458] =>
    optT (rowI64 L a1) fun v1457 =>
    .call (laws_heldInt64S_g v1457 v1458) fun y => .leaf (.int .i64 y, L)
  | _ => .fail
theorem laws_heldInt64S_Fok : COk Try.prog 25 laws_heldInt64S_F true := by
  intro F L H args r L' hs ha hr
  unfold laws_heldInt64S_F at hr
  split at hr
  · rename_i a1 v1458
    obtain ⟨v1457, hv1457, hr⟩ := optT_run hr
    simp only [Tree.run] at hr
    obtain ⟨y, hy, hr⟩ := Option.bind_eq_some_iff.1 hr
    simp only [Tree.run, Option.some.injEq, Prod.mk.injEq] at hr
    obtain ⟨rfl, rfl⟩ := hr
    exact call_ok0 hs (fun k => (([a1.av F] : List AV)[k]?).getD .top) [a1, .int .i64 v1458] [.bslc (BR.root 0) (.i64 v1457), .int .i64 v1458] (fun F' h0 hi hρ => ⟨by simp [DVs.av, DV.av, BR.av, hρ], laws_heldInt64S_fn v1457 v1458 F' (st_nil hi) ⟨bslc_ok hi (by rw [h0, hρ]; exact rowI64_ok hs (DVs.okAt ha 0 rfl) hv1457), trivial, trivial⟩ hy⟩) rfl
  · cases hr
/-! laws.FnExactNormalOf -/
noncomputable def laws_FnExactNormalOf_LO (v1 : Int) (v2 : Int) (v3 : List Int) : LOr := fun id e L =>
  match id with
  | _ => .fail
noncomputable def laws_FnExactNormalOf_tab : List (FuncId × DFn × Bool) := [(12, laws_szWhole_F, true), (14, laws_toWhole_F, true), (31, spec_NormalOf_F, true), (32, impl_NormalOf_F, true), (22, laws_eqInt64S_F, true), (16, laws_eqWhole_F, true), (23, laws_markWhole_F, false), (24, (orD (fun args => match args with | [.nilslc, _] => true | _ => false) laws_markInt64S_i1_F laws_markInt64S_F), false), (25, laws_heldInt64S_F, true)]
theorem laws_FnExactNormalOf_hO : OrcOk Try.prog (tabD laws_FnExactNormalOf_tab) (tabM laws_FnExactNormalOf_tab) := tabD_cons laws_szWhole_Fok (tabD_cons laws_toWhole_Fok (tabD_cons spec_NormalOf_Fok (tabD_cons impl_NormalOf_Fok (tabD_cons laws_eqInt64S_Fok (tabD_cons laws_eqWhole_Fok (tabD_cons laws_markWhole_Fok (tabD_cons (orD_ok (COk.weak laws_markInt64S_i1_Fok) laws_markInt64S_Fok) (tabD_cons laws_heldInt64S_Fok (tabD_nil _)))))))))
noncomputable def laws_FnExactNormalOf_T (v1 : Int) (v2 : Int) (v3 : List Int) : Tree (Bool) :=
  (.br (decide ((laws_szWhole_v v3 (1048576 : Int)) < (0 : Int))) (
   .leaf true
  ) (
   (.call (laws_toWhole_g v1 v2 v3) fun v21 =>
   (.call (spec_NormalOf_g v21.1 v21.2.1 v21.2.2) fun v648 =>
   (.sum v648 (fun v649 =>
    (.call (laws_toWhole_g v1 v2 v3) fun v651 =>
    (.call (impl_NormalOf_g v651.1 v651.2.1 v651.2.2) fun v1405 =>
    (.sum v1405 (fun v1406 =>
     (.call (laws_eqInt64S_g ([] : List Int) ([] : List Int)) fun v1416 =>
     (.br (!v1416) (
      .leaf false
     ) (
      (.br (!(false == false)) (
       .leaf false
      ) (
       (.call (laws_toWhole_g v1 v2 v3) fun v1417 =>
       (.call (laws_eqWhole_g v651.1 v651.2.1 v651.2.2 v1417.1 v1417.2.1 v1417.2.2) fun v1425 =>
       (.br (!v1425) (
        .leaf false
       ) (
        (.call (laws_markWhole_g v651.2.2 (1 : Int)) fun v1450 =>
        (.grd (decide (v1450.2.length = v651.2.2.length)) <|
        (.br (decide (v1450.1 < (0 : Int))) (
         .leaf false
        ) (
         (.call (laws_eqInt64S_g ([] : List Int) ([] : List Int)) fun v1451 =>
         (.br (!v1451) (
          .leaf false
         ) (
          (.br (!(false == false)) (
           .leaf false
          ) (
           (.call (laws_markInt64S_i1_g (1 : Int)) fun v1456 =>
           (.call (laws_heldInt64S_g ([] : List Int) (1 : Int)) fun v1468 =>
           (.br (decide (v1468 < (0 : Int))) (
            .leaf false
           ) (
            (.br (!decide (v1468 = v1456)) (
             .leaf false
            ) (
             (.call (laws_toWhole_g v1 v2 v3) fun v1469 =>
             (.call (impl_NormalOf_g v1469.1 v1469.2.1 v1469.2.2) fun v1470 =>
             (.sum v1470 (fun v1471 =>
              (.call (laws_eqInt64S_g ([] : List Int) ([] : List Int)) fun v1473 =>
              (.br (!v1473) (
               .leaf false
              ) (
               (.br (!(false == false)) (
                .leaf false
               ) (
                (.call (laws_heldInt64S_g ([] : List Int) (1 : Int)) fun v1474 =>
                (.br (decide (v1474 < (0 : Int))) (
                 .leaf false
                ) (
                 (.br (!decide (v1474 = v1456)) (
                  .leaf false
                 ) (
                  .leaf true
                 ))
                )))
               ))
              )))
             ) (fun v1472 =>
              (.call (laws_eqInt64S_g v1472 ([] : List Int)) fun v1475 =>
              (.br (!v1475) (
               .leaf false
              ) (
               (.br (!(true == false)) (
                .leaf false
               ) (
                (.call (laws_heldInt64S_g ([] : List Int) (1 : Int)) fun v1476 =>
                (.br (decide (v1476 < (0 : Int))) (
                 .leaf false
                ) (
                 (.br (!decide (v1476 = v1456)) (
                  .leaf false
                 ) (
                  .leaf true
                 ))
                )))
               ))
              )))
             ))))
            ))
           ))))
          ))
         )))
        ))))
       ))))
      ))
     )))
    ) (fun v1407 =>
     (.call (laws_eqInt64S_g v1407 ([] : List Int)) fun v1477 =>
     (.br (!v1477) (
      .leaf false
     ) (
      (.br (!(true == false)) (
       .leaf false
      ) (
       (.call (laws_toWhole_g v1 v2 v3) fun v1478 =>
       (.call (laws_eqWhole_g v651.1 v651.2.1 v651.2.2 v1478.1 v1478.2.1 v1478.2.2) fun v1479 =>
       (.br (!v1479) (
        .leaf false
       ) (
        (.call (laws_markWhole_g v651.2.2 (1 : Int)) fun v1480 =>
        (.grd (decide (v1480.2.length = v651.2.2.length)) <|
        (.br (decide (v1480.1 < (0 : Int))) (
         .leaf false
        ) (
         (.call (laws_eqInt64S_g v1407 ([] : List Int)) fun v1481 =>
         (.br (!v1481) (
          .leaf false
         ) (
          (.br (!(true == false)) (
           .leaf false
          ) (
           (.call (laws_markInt64S_g v1407 (1 : Int)) fun v1482 =>
           (.grd (decide (v1482.2.length = v1407.length)) <|
           (.call (laws_heldInt64S_g v1482.2 (1 : Int)) fun v1483 =>
           (.br (decide (v1483 < (0 : Int))) (
            .leaf false
           ) (
            (.br (!decide (v1483 = v1482.1)) (
             .leaf false
            ) (
             (.call (laws_toWhole_g v1 v2 v3) fun v1484 =>
             (.call (impl_NormalOf_g v1484.1 v1484.2.1 v1484.2.2) fun v1485 =>
             (.sum v1485 (fun v1486 =>
              (.call (laws_eqInt64S_g ([] : List Int) ([] : List Int)) fun v1488 =>
              (.br (!v1488) (
               .leaf false
              ) (
               (.br (!(false == false)) (
                .leaf false
               ) (
                (.call (laws_heldInt64S_g v1482.2 (1 : Int)) fun v1489 =>
                (.br (decide (v1489 < (0 : Int))) (
                 .leaf false
                ) (
                 (.br (!decide (v1489 = v1482.1)) (
                  .leaf false
                 ) (
                  .leaf true
                 ))
                )))
               ))
              )))
             ) (fun v1487 =>
              (.call (laws_eqInt64S_g v1487 ([] : List Int)) fun v1490 =>
              (.br (!v1490) (
               .leaf false
              ) (
               (.br (!(true == false)) (
                .leaf false
               ) (
                (.call (laws_heldInt64S_g v1482.2 (1 : Int)) fun v1491 =>
                (.br (decide (v1491 < (0 : Int))) (
                 .leaf false
                ) (
                 (.br (!decide (v1491 = v1482.1)) (
                  .leaf false
                 ) (
                  .leaf true
                 ))
                )))
               ))
              )))
             ))))
            ))
           )))))
          ))
         )))
        ))))
       ))))
      ))
     )))
    ))))
   ) (fun v650 =>
    (.call (laws_toWhole_g v1 v2 v3) fun v1492 =>
    (.call (impl_NormalOf_g v1492.1 v1492.2.1 v1492.2.2) fun v1493 =>
    (.sum v1493 (fun v1494 =>
     (.call (laws_eqInt64S_g ([] : List Int) v650) fun v1496 =>
     (.br (!v1496) (
      .leaf false
     ) (
      (.br (!(false == true)) (
       .leaf false
      ) (
       (.call (laws_toWhole_g v1 v2 v3) fun v1497 =>
       (.call (laws_eqWhole_g v1492.1 v1492.2.1 v1492.2.2 v1497.1 v1497.2.1 v1497.2.2) fun v1498 =>
       (.br (!v1498) (
        .leaf false
       ) (
        (.call (laws_markWhole_g v1492.2.2 (1 : Int)) fun v1499 =>
        (.grd (decide (v1499.2.length = v1492.2.2.length)) <|
        (.br (decide (v1499.1 < (0 : Int))) (
         .leaf false
        ) (
         (.call (laws_eqInt64S_g ([] : List Int) v650) fun v1500 =>
         (.br (!v1500) (
          .leaf false
         ) (
          (.br (!(false == true)) (
           .leaf false
          ) (
           (.call (laws_markInt64S_i1_g (1 : Int)) fun v1501 =>
           (.call (laws_heldInt64S_g ([] : List Int) (1 : Int)) fun v1502 =>
           (.br (decide (v1502 < (0 : Int))) (
            .leaf false
           ) (
            (.br (!decide (v1502 = v1501)) (
             .leaf false
            ) (
             (.call (laws_toWhole_g v1 v2 v3) fun v1503 =>
             (.call (impl_NormalOf_g v1503.1 v1503.2.1 v1503.2.2) fun v1504 =>
             (.sum v1504 (fun v1505 =>
              (.call (laws_eqInt64S_g ([] : List Int) v650) fun v1507 =>
              (.br (!v1507) (
               .leaf false
              ) (
               (.br (!(false == true)) (
                .leaf false
               ) (
                (.call (laws_heldInt64S_g ([] : List Int) (1 : Int)) fun v1508 =>
                (.br (decide (v1508 < (0 : Int))) (
                 .leaf false
                ) (
                 (.br (!decide (v1508 = v1501)) (
                  .leaf false
                 ) (
                  .leaf true
                 ))
                )))
               ))
              )))
             ) (fun v1506 =>
              (.call (laws_eqInt64S_g v1506 v650) fun v1509 =>
              (.br (!v1509) (
               .leaf false
              ) (
               (.br (!(true == true)) (
                .leaf false
               ) (
                (.call (laws_heldInt64S_g ([] : List Int) (1 : Int)) fun v1510 =>
                (.br (decide (v1510 < (0 : Int))) (
                 .leaf false
                ) (
                 (.br (!decide (v1510 = v1501)) (
                  .leaf false
                 ) (
                  .leaf true
                 ))
                )))
               ))
              )))
             ))))
            ))
           ))))
          ))
         )))
        ))))
       ))))
      ))
     )))
    ) (fun v1495 =>
     (.call (laws_eqInt64S_g v1495 v650) fun v1511 =>
     (.br (!v1511) (
      .leaf false
     ) (
      (.br (!(true == true)) (
       .leaf false
      ) (
       (.call (laws_toWhole_g v1 v2 v3) fun v1512 =>
       (.call (laws_eqWhole_g v1492.1 v1492.2.1 v1492.2.2 v1512.1 v1512.2.1 v1512.2.2) fun v1513 =>
       (.br (!v1513) (
        .leaf false
       ) (
        (.call (laws_markWhole_g v1492.2.2 (1 : Int)) fun v1514 =>
        (.grd (decide (v1514.2.length = v1492.2.2.length)) <|
        (.br (decide (v1514.1 < (0 : Int))) (
         .leaf false
        ) (
         (.call (laws_eqInt64S_g v1495 v650) fun v1515 =>
         (.br (!v1515) (
          .leaf false
         ) (
          (.br (!(true == true)) (
           .leaf false
          ) (
           (.call (laws_markInt64S_g v1495 (1 : Int)) fun v1516 =>
           (.grd (decide (v1516.2.length = v1495.length)) <|
           (.call (laws_heldInt64S_g v1516.2 (1 : Int)) fun v1517 =>
           (.br (decide (v1517 < (0 : Int))) (
            .leaf false
           ) (
            (.br (!decide (v1517 = v1516.1)) (
             .leaf false
            ) (
             (.call (laws_toWhole_g v1 v2 v3) fun v1518 =>
             (.call (impl_NormalOf_g v1518.1 v1518.2.1 v1518.2.2) fun v1519 =>
             (.sum v1519 (fun v1520 =>
              (.call (laws_eqInt64S_g ([] : List Int) v650) fun v1522 =>
              (.br (!v1522) (
               .leaf false
              ) (
               (.br (!(false == true)) (
                .leaf false
               ) (
                (.call (laws_heldInt64S_g v1516.2 (1 : Int)) fun v1523 =>
                (.br (decide (v1523 < (0 : Int))) (
                 .leaf false
                ) (
                 (.br (!decide (v1523 = v1516.1)) (
                  .leaf false
                 ) (
                  .leaf true
                 ))
                )))
               ))
              )))
             ) (fun v1521 =>
              (.call (laws_eqInt64S_g v1521 v650) fun v1524 =>
              (.br (!v1524) (
               .leaf false
              ) (
               (.br (!(true == true)) (
                .leaf false
               ) (
                (.call (laws_heldInt64S_g v1516.2 (1 : Int)) fun v1525 =>
                (.br (decide (v1525 < (0 : Int))) (
                 .leaf false
                ) (
                 (.br (!decide (v1525 = v1516.1)) (
                  .leaf false
                 ) (
                  .leaf true
                 ))
                )))
               ))
              )))
             ))))
            ))
           )))))
          ))
         )))
        ))))
       ))))
      ))
     )))
    ))))
   ))))
  ))

noncomputable def laws_FnExactNormalOf_g (v1 : Int) (v2 : Int) (v3 : List Int) : Option (Bool) := (laws_FnExactNormalOf_T v1 v2 v3).run
def laws_FnExactNormalOf_enc (v1 : Int) (v2 : Int) (v3 : List Int) (y : Bool) : Rs := (.bool y, [])
theorem laws_FnExactNormalOf_den (v1 : Int) (v2 : Int) (v3 : List Int) : (den TT (tabD laws_FnExactNormalOf_tab) (tabM laws_FnExactNormalOf_tab) (laws_FnExactNormalOf_LO v1 v2 v3) (codeOf Try.f7) ([.agg [.int .i64 v1, .int .i64 v2, .bslc (BR.root 0) (.i64 v3)]] ++ List.replicate (Try.f7.ntmps - ([.agg [.int .i64 v1, .int .i64 v2, .bslc (BR.root 0) (.i64 v3)]] : List DV).length) .undef) []).bind (retD TT Try.f7.results.toList 0) = (laws_FnExactNormalOf_T v1 v2 v3).bind fun y => .leaf (laws_FnExactNormalOf_enc v1 v2 v3 y) := by kernel_rfl
theorem laws_FnExactNormalOf_fn (v1 : Int) (v2 : Int) (v3 : List Int) (F : Fr) (h0 : St F [] F.H0) (hA : DVs.Ok F [] [.agg [.int .i64 v1, .int .i64 v2, .bslc (BR.root 0) (.i64 v3)]]) {y : Bool} (hy : laws_FnExactNormalOf_g v1 v2 v3 = some y) : ∃ F' H', Fwd 0 F F' [] (laws_FnExactNormalOf_enc v1 v2 v3 y).2 ∧ FnOk Try.prog 7 (DVs.av F [.agg [.int .i64 v1, .int .i64 v2, .bslc (BR.root 0) (.i64 v3)]]) F.H0 ((laws_FnExactNormalOf_enc v1 v2 v3 y).1.av F') H' ∧ St F' (laws_FnExactNormalOf_enc v1 v2 v3 y).2 H' ∧ (laws_FnExactNormalOf_enc v1 v2 v3 y).1.Ok F' (laws_FnExactNormalOf_enc v1 v2 v3 y).2 :=
  fn_fin tok laws_FnExactNormalOf_hO mixed Try.func7 Try.call7 (by kernel_rfl) (LoopsOk_eq (l := []) (by kernel_rfl) trivial) (laws_FnExactNormalOf_den v1 v2 v3) hy h0 hA
noncomputable def laws_FnExactNormalOf_F : DFn := fun args L =>
  match args with
  | [.agg [.int .i64 v1, .int .i64 v2, a1]] =>
    optT (rowI64 L a1) fun v3 =>
    .call (laws_FnExactNormalOf_g v1 v2 v3) fun y => .leaf (.bool y, L)
  | _ => .fail
theorem laws_FnExactNormalOf_Fok : COk Try.prog 7 laws_FnExactNormalOf_F true := by
  intro F L H args r L' hs ha hr
  unfold laws_FnExactNormalOf_F at hr
  split at hr
  · rename_i v1 v2 a1
    obtain ⟨v3, hv3, hr⟩ := optT_run hr
    simp only [Tree.run] at hr
    obtain ⟨y, hy, hr⟩ := Option.bind_eq_some_iff.1 hr
    simp only [Tree.run, Option.some.injEq, Prod.mk.injEq] at hr
    obtain ⟨rfl, rfl⟩ := hr
    exact call_ok0 hs (fun k => (([a1.av F] : List AV)[k]?).getD .top) [.agg [.int .i64 v1, .int .i64 v2, a1]] [.agg [.int .i64 v1, .int .i64 v2, .bslc (BR.root 0) (.i64 v3)]] (fun F' h0 hi hρ => ⟨by simp [DVs.av, DV.av, BR.av, hρ], laws_FnExactNormalOf_fn v1 v2 v3 F' (st_nil hi) ⟨⟨trivial, trivial, bslc_ok hi (by rw [h0, hρ]; exact rowI64_ok hs (DVs.okAt (DVs.okAt ha 0 rfl) 2 rfl) hv3), trivial⟩, trivial⟩ hy⟩) rfl
  · cases hr
/-! laws.szInt64S -/
noncomputable def laws_szInt64S_len_LO (v1533 : Nat) (v1534 : Int) : LOr := fun id e L =>
  match id with
  | _ => .fail
noncomputable def laws_szInt64S_len_tab : List (FuncId × DFn × Bool) := []
theorem laws_szInt64S_len_hO : OrcOk Try.prog (tabD laws_szInt64S_len_tab) (tabM laws_szInt64S_len_tab) := tabD_nil _
noncomputable def laws_szInt64S_len_T (v1533 : Nat) (v1534 : Int) : Tree (Int) :=
  (.br (decide (IntKind.i64.wrap (v1534 - ((v1533 : Nat) : Int)) < (0 : Int))) (
   .leaf (-1 : Int)
  ) (
   .leaf (IntKind.i64.wrap (v1534 - ((v1533 : Nat) : Int)))
  ))

noncomputable def laws_szInt64S_len_g (v1533 : Nat) (v1534 : Int) : Option (Int) := (laws_szInt64S_len_T v1533 v1534).run
def laws_szInt64S_len_enc (v1533 : Nat) (v1534 : Int) (y : Int) : Rs := (.int .i64 y, [])
theorem laws_szInt64S_len_den (v1533 : Nat) (v1534 : Int) : (den TT (tabD laws_szInt64S_len_tab) (tabM laws_szInt64S_len_tab) (laws_szInt64S_len_LO v1533 v1534) (codeOf Try.f59) ([.hslc (BR.root 0) v1533, .int .i64 v1534] ++ List.replicate (Try.f59.ntmps - ([.hslc (BR.root 0) v1533, .int .i64 v1534] : List DV).length) .undef) []).bind (retD TT Try.f59.results.toList 0) = (laws_szInt64S_len_T v1533 v1534).bind fun y => .leaf (laws_szInt64S_len_enc v1533 v1534 y) := by kernel_rfl
theorem laws_szInt64S_len_fn (v1533 : Nat) (v1534 : Int) (F : Fr) (h0 : St F [] F.H0) (hA : DVs.Ok F [] [.hslc (BR.root 0) v1533, .int .i64 v1534]) {y : Int} (hy : laws_szInt64S_len_g v1533 v1534 = some y) : ∃ F' H', Fwd 0 F F' [] (laws_szInt64S_len_enc v1533 v1534 y).2 ∧ FnOk Try.prog 59 (DVs.av F [.hslc (BR.root 0) v1533, .int .i64 v1534]) F.H0 ((laws_szInt64S_len_enc v1533 v1534 y).1.av F') H' ∧ St F' (laws_szInt64S_len_enc v1533 v1534 y).2 H' ∧ (laws_szInt64S_len_enc v1533 v1534 y).1.Ok F' (laws_szInt64S_len_enc v1533 v1534 y).2 :=
  fn_fin tok laws_szInt64S_len_hO mixed Try.func59 Try.call59 (by kernel_rfl) (LoopsOk_eq (l := []) (by kernel_rfl) trivial) (laws_szInt64S_len_den v1533 v1534) hy h0 hA
def laws_szInt64S_len_v (v1533 : Nat) (v1534 : Int) : Int :=
  if (decide (IntKind.i64.wrap (v1534 - ((v1533 : Nat) : Int)) < (0 : Int))) = true then (
   (-1 : Int)
  ) else (
   IntKind.i64.wrap (v1534 - ((v1533 : Nat) : Int))
  )
theorem laws_szInt64S_len_tot (v1533 : Nat) (v1534 : Int) : laws_szInt64S_len_g v1533 v1534 = some (laws_szInt64S_len_v v1533 v1534) := by
  unfold laws_szInt64S_len_g laws_szInt64S_len_T laws_szInt64S_len_v
  simp only [Tree.run]
  repeat' (first | rfl | split)
noncomputable def laws_szInt64S_len_F : DFn := fun args L =>
  match args with
  | [a1, .int .i64 v1534] =>
    optT (lenV L a1) fun v1533 =>
    .leaf (.int .i64 (laws_szInt64S_len_v v1533 v1534), L)
  | _ => .fail
theorem laws_szInt64S_len_Fok : COk Try.prog 59 laws_szInt64S_len_F true := by
  intro F L H args r L' hs ha hr
  unfold laws_szInt64S_len_F at hr
  split at hr
  · rename_i a1 v1534
    obtain ⟨v1533, hv1533, hr⟩ := optT_run hr
    have hy := laws_szInt64S_len_tot v1533 v1534
    generalize laws_szInt64S_len_v v1533 v1534 = y at hy hr
    simp only [Tree.run, Option.some.injEq, Prod.mk.injEq] at hr
    obtain ⟨rfl, rfl⟩ := hr
    exact call_ok0 hs (fun k => (([a1.av F] : List AV)[k]?).getD .top) [a1, .int .i64 v1534] [.hslc (BR.root 0) v1533, .int .i64 v1534] (fun F' h0 hi hρ => ⟨by simp [DVs.av, DV.av, BR.av, hρ], laws_szInt64S_len_fn v1533 v1534 F' (st_nil hi) ⟨hslc_ok hi (by rw [h0, hρ]; exact lenV_ok hs (DVs.okAt ha 0 rfl) hv1533), trivial, trivial⟩ hy⟩) rfl
  · cases hr
/-! laws.szWhole -/
noncomputable def laws_szWhole_len_LO (v1529 : Int) (v1530 : Int) (v1531 : Nat) (v1532 : Int) : LOr := fun id e L =>
  match id with
  | _ => .fail
noncomputable def laws_szWhole_len_tab : List (FuncId × DFn × Bool) := [(59, laws_szInt64S_len_F, true)]
theorem laws_szWhole_len_hO : OrcOk Try.prog (tabD laws_szWhole_len_tab) (tabM laws_szWhole_len_tab) := tabD_cons laws_szInt64S_len_Fok (tabD_nil _)
noncomputable def laws_szWhole_len_T (v1531 : Nat) (v1532 : Int) : Tree (Int) :=
  (.br (decide ((laws_szInt64S_len_v v1531 v1532) < (0 : Int))) (
   .leaf (-1 : Int)
  ) (
   .leaf (laws_szInt64S_len_v v1531 v1532)
  ))

noncomputable def laws_szWhole_len_g (v1531 : Nat) (v1532 : Int) : Option (Int) := (laws_szWhole_len_T v1531 v1532).run
def laws_szWhole_len_enc (v1529 : Int) (v1530 : Int) (v1531 : Nat) (v1532 : Int) (y : Int) : Rs := (.int .i64 y, [])
theorem laws_szWhole_len_den (v1529 : Int) (v1530 : Int) (v1531 : Nat) (v1532 : Int) : (den TT (tabD laws_szWhole_len_tab) (tabM laws_szWhole_len_tab) (laws_szWhole_len_LO v1529 v1530 v1531 v1532) (codeOf Try.f12) ([.agg [.int .i64 v1529, .int .i64 v1530, .hslc (BR.root 0) v1531], .int .i64 v1532] ++ List.replicate (Try.f12.ntmps - ([.agg [.int .i64 v1529, .int .i64 v1530, .hslc (BR.root 0) v1531], .int .i64 v1532] : List DV).length) .undef) []).bind (retD TT Try.f12.results.toList 0) = (laws_szWhole_len_T v1531 v1532).bind fun y => .leaf (laws_szWhole_len_enc v1529 v1530 v1531 v1532 y) := by kernel_rfl
theorem laws_szWhole_len_fn (v1529 : Int) (v1530 : Int) (v1531 : Nat) (v1532 : Int) (F : Fr) (h0 : St F [] F.H0) (hA : DVs.Ok F [] [.agg [.int .i64 v1529, .int .i64 v1530, .hslc (BR.root 0) v1531], .int .i64 v1532]) {y : Int} (hy : laws_szWhole_len_g v1531 v1532 = some y) : ∃ F' H', Fwd 0 F F' [] (laws_szWhole_len_enc v1529 v1530 v1531 v1532 y).2 ∧ FnOk Try.prog 12 (DVs.av F [.agg [.int .i64 v1529, .int .i64 v1530, .hslc (BR.root 0) v1531], .int .i64 v1532]) F.H0 ((laws_szWhole_len_enc v1529 v1530 v1531 v1532 y).1.av F') H' ∧ St F' (laws_szWhole_len_enc v1529 v1530 v1531 v1532 y).2 H' ∧ (laws_szWhole_len_enc v1529 v1530 v1531 v1532 y).1.Ok F' (laws_szWhole_len_enc v1529 v1530 v1531 v1532 y).2 :=
  fn_fin tok laws_szWhole_len_hO mixed Try.func12 Try.call12 (by kernel_rfl) (LoopsOk_eq (l := []) (by kernel_rfl) trivial) (laws_szWhole_len_den v1529 v1530 v1531 v1532) hy h0 hA
def laws_szWhole_len_v (v1531 : Nat) (v1532 : Int) : Int :=
  if (decide ((laws_szInt64S_len_v v1531 v1532) < (0 : Int))) = true then (
   (-1 : Int)
  ) else (
   (laws_szInt64S_len_v v1531 v1532)
  )
theorem laws_szWhole_len_tot (v1531 : Nat) (v1532 : Int) : laws_szWhole_len_g v1531 v1532 = some (laws_szWhole_len_v v1531 v1532) := by
  unfold laws_szWhole_len_g laws_szWhole_len_T laws_szWhole_len_v
  simp only [Tree.run]
  repeat' (first | rfl | split)
noncomputable def laws_szWhole_len_F : DFn := fun args L =>
  match args with
  | [.agg [.int .i64 v1529, .int .i64 v1530, a1], .int .i64 v1532] =>
    optT (lenV L a1) fun v1531 =>
    .leaf (.int .i64 (laws_szWhole_len_v v1531 v1532), L)
  | _ => .fail
theorem laws_szWhole_len_Fok : COk Try.prog 12 laws_szWhole_len_F true := by
  intro F L H args r L' hs ha hr
  unfold laws_szWhole_len_F at hr
  split at hr
  · rename_i v1529 v1530 a1 v1532
    obtain ⟨v1531, hv1531, hr⟩ := optT_run hr
    have hy := laws_szWhole_len_tot v1531 v1532
    generalize laws_szWhole_len_v v1531 v1532 = y at hy hr
    simp only [Tree.run, Option.some.injEq, Prod.mk.injEq] at hr
    obtain ⟨rfl, rfl⟩ := hr
    exact call_ok0 hs (fun k => (([a1.av F] : List AV)[k]?).getD .top) [.agg [.int .i64 v1529, .int .i64 v1530, a1], .int .i64 v1532] [.agg [.int .i64 v1529, .int .i64 v1530, .hslc (BR.root 0) v1531], .int .i64 v1532] (fun F' h0 hi hρ => ⟨by simp [DVs.av, DV.av, BR.av, hρ], laws_szWhole_len_fn v1529 v1530 v1531 v1532 F' (st_nil hi) ⟨⟨trivial, trivial, hslc_ok hi (by rw [h0, hρ]; exact lenV_ok hs (DVs.okAt (DVs.okAt ha 0 rfl) 2 rfl) hv1531), trivial⟩, trivial, trivial⟩ hy⟩) rfl
  · cases hr
/-! laws.FnExactNormalOf -/
noncomputable def laws_FnExactNormalOf_len_LO (v1526 : Int) (v1527 : Int) (v1528 : Nat) : LOr := fun id e L =>
  match id with
  | _ => .fail
noncomputable def laws_FnExactNormalOf_len_tab : List (FuncId × DFn × Bool) := [(12, laws_szWhole_len_F, true)]
theorem laws_FnExactNormalOf_len_hO : OrcOk Try.prog (tabD laws_FnExactNormalOf_len_tab) (tabM laws_FnExactNormalOf_len_tab) := tabD_cons laws_szWhole_len_Fok (tabD_nil _)
noncomputable def laws_FnExactNormalOf_len_T (v1528 : Nat) : Tree (Bool) :=
  (.br (decide ((laws_szWhole_len_v v1528 (1048576 : Int)) < (0 : Int))) (
   .leaf true
  ) (
   .fail
  ))

noncomputable def laws_FnExactNormalOf_len_g (v1528 : Nat) : Option (Bool) := (laws_FnExactNormalOf_len_T v1528).run
def laws_FnExactNormalOf_len_enc (v1526 : Int) (v1527 : Int) (v1528 : Nat) (y : Bool) : Rs := (.bool y, [])
theorem laws_FnExactNormalOf_len_den (v1526 : Int) (v1527 : Int) (v1528 : Nat) : (den TT (tabD laws_FnExactNormalOf_len_tab) (tabM laws_FnExactNormalOf_len_tab) (laws_FnExactNormalOf_len_LO v1526 v1527 v1528) (codeOf Try.f7) ([.agg [.int .i64 v1526, .int .i64 v1527, .hslc (BR.root 0) v1528]] ++ List.replicate (Try.f7.ntmps - ([.agg [.int .i64 v1526, .int .i64 v1527, .hslc (BR.root 0) v1528]] : List DV).length) .undef) []).bind (retD TT Try.f7.results.toList 0) = (laws_FnExactNormalOf_len_T v1528).bind fun y => .leaf (laws_FnExactNormalOf_len_enc v1526 v1527 v1528 y) := by kernel_rfl
theorem laws_FnExactNormalOf_len_fn (v1526 : Int) (v1527 : Int) (v1528 : Nat) (F : Fr) (h0 : St F [] F.H0) (hA : DVs.Ok F [] [.agg [.int .i64 v1526, .int .i64 v1527, .hslc (BR.root 0) v1528]]) {y : Bool} (hy : laws_FnExactNormalOf_len_g v1528 = some y) : ∃ F' H', Fwd 0 F F' [] (laws_FnExactNormalOf_len_enc v1526 v1527 v1528 y).2 ∧ FnOk Try.prog 7 (DVs.av F [.agg [.int .i64 v1526, .int .i64 v1527, .hslc (BR.root 0) v1528]]) F.H0 ((laws_FnExactNormalOf_len_enc v1526 v1527 v1528 y).1.av F') H' ∧ St F' (laws_FnExactNormalOf_len_enc v1526 v1527 v1528 y).2 H' ∧ (laws_FnExactNormalOf_len_enc v1526 v1527 v1528 y).1.Ok F' (laws_FnExactNormalOf_len_enc v1526 v1527 v1528 y).2 :=
  fn_fin tok laws_FnExactNormalOf_len_hO mixed Try.func7 Try.call7 (by kernel_rfl) (LoopsOk_eq (l := []) (by kernel_rfl) trivial) (laws_FnExactNormalOf_len_den v1526 v1527 v1528) hy h0 hA
noncomputable def laws_FnExactNormalOf_len_F : DFn := fun args L =>
  match args with
  | [.agg [.int .i64 v1526, .int .i64 v1527, a1]] =>
    optT (lenV L a1) fun v1528 =>
    .call (laws_FnExactNormalOf_len_g v1528) fun y => .leaf (.bool y, L)
  | _ => .fail
theorem laws_FnExactNormalOf_len_Fok : COk Try.prog 7 laws_FnExactNormalOf_len_F true := by
  intro F L H args r L' hs ha hr
  unfold laws_FnExactNormalOf_len_F at hr
  split at hr
  · rename_i v1526 v1527 a1
    obtain ⟨v1528, hv1528, hr⟩ := optT_run hr
    simp only [Tree.run] at hr
    obtain ⟨y, hy, hr⟩ := Option.bind_eq_some_iff.1 hr
    simp only [Tree.run, Option.some.injEq, Prod.mk.injEq] at hr
    obtain ⟨rfl, rfl⟩ := hr
    exact call_ok0 hs (fun k => (([a1.av F] : List AV)[k]?).getD .top) [.agg [.int .i64 v1526, .int .i64 v1527, a1]] [.agg [.int .i64 v1526, .int .i64 v1527, .hslc (BR.root 0) v1528]] (fun F' h0 hi hρ => ⟨by simp [DVs.av, DV.av, BR.av, hρ], laws_FnExactNormalOf_len_fn v1526 v1527 v1528 F' (st_nil hi) ⟨⟨trivial, trivial, hslc_ok hi (by rw [h0, hρ]; exact lenV_ok hs (DVs.okAt (DVs.okAt ha 0 rfl) 2 rfl) hv1528), trivial⟩, trivial⟩ hy⟩) rfl
  · cases hr
end Go.Proofs.Ytimlecagkbbnpaa.AM
