/- Functions: what they come to. -/
import Derived.Test.YtmgpbchacndndaaX0
set_option maxRecDepth 100000
set_option maxHeartbeats 4000000
set_option linter.unusedSimpArgs false
set_option linter.unusedVariables false
namespace Go.Proofs.Ytmgpbchacndndaa.AM
open Go.Proofs
/-! spec.l06Is -/
noncomputable def spec_l06Is_LO (v30 v31 : Int) (v32 : List Int) (v33 : Int) : LOr := fun id e L =>
  match id with
  | _ => .fail
noncomputable def spec_l06Is_tab : List (FuncId × DFn × Bool) := [(37, spec_l00In_F, true), (67, spec_l06Bound_F, true)]
theorem spec_l06Is_hO : OrcOk Try.prog (tabD spec_l06Is_tab) (tabM spec_l06Is_tab) := tabD_cons spec_l00In_Fok (tabD_cons spec_l06Bound_Fok (tabD_nil _))
noncomputable def spec_l06Is_T (v30 v31 : Int) (v32 : List Int) (v33 : Int) : Tree (Bool) :=
  (.br (spec_l00In_v v30 (1 : Int) (6 : Int)) (
  (.br (spec_l00In_v v31 (1 : Int) (6 : Int)) (
  (.br (decide (((v32.length : Nat) : Int) = IntKind.i64.wrap (v30 * v31))) (
  (.call (spec_l06Bound_g v32 v33) fun v45 =>
  .leaf v45)
  ) (
  .leaf false
  ))
  ) (
  .leaf false
  ))
  ) (
  .leaf false
  ))

noncomputable def spec_l06Is_g (v30 v31 : Int) (v32 : List Int) (v33 : Int) : Option (Bool) := (spec_l06Is_T v30 v31 v32 v33).run
def spec_l06Is_enc (v30 v31 : Int) (v32 : List Int) (v33 : Int) (y : Bool) : Rs := (.bool y, [])
theorem spec_l06Is_den (v30 v31 : Int) (v32 : List Int) (v33 : Int) : (den TT (tabD spec_l06Is_tab) (tabM spec_l06Is_tab) (spec_l06Is_LO v30 v31 v32 v33) (codeOf Try.f57) ([.bptr (BR.root 0) [.int .i64 v30, .int .i64 v31, .bslc (BR.root 1) (.i64 v32)], .int .i64 v33] ++ List.replicate (Try.f57.ntmps - ([.bptr (BR.root 0) [.int .i64 v30, .int .i64 v31, .bslc (BR.root 1) (.i64 v32)], .int .i64 v33] : List DV).length) .undef) []).bind (retD TT Try.f57.results.toList 0) = (spec_l06Is_T v30 v31 v32 v33).bind fun y => .leaf (spec_l06Is_enc v30 v31 v32 v33 y) := by kernel_rfl
theorem spec_l06Is_fn (v30 v31 : Int) (v32 : List Int) (v33 : Int) (F : Fr) (h0 : St F [] F.H0) (hA : DVs.Ok F [] [.bptr (BR.root 0) [.int .i64 v30, .int .i64 v31, .bslc (BR.root 1) (.i64 v32)], .int .i64 v33]) {y : Bool} (hy : spec_l06Is_g v30 v31 v32 v33 = some y) : ∃ F' H', Fwd 0 F F' [] (spec_l06Is_enc v30 v31 v32 v33 y).2 ∧ FnOk Try.prog 57 (DVs.av F [.bptr (BR.root 0) [.int .i64 v30, .int .i64 v31, .bslc (BR.root 1) (.i64 v32)], .int .i64 v33]) F.H0 ((spec_l06Is_enc v30 v31 v32 v33 y).1.av F') H' ∧ St F' (spec_l06Is_enc v30 v31 v32 v33 y).2 H' ∧ (spec_l06Is_enc v30 v31 v32 v33 y).1.Ok F' (spec_l06Is_enc v30 v31 v32 v33 y).2 :=
  fn_fin tok spec_l06Is_hO mixed Try.func57 Try.call57 (by kernel_rfl) (LoopsOk_eq (l := []) (by kernel_rfl) trivial) (spec_l06Is_den v30 v31 v32 v33) hy h0 hA
noncomputable def spec_l06Is_F : DFn := fun args L =>
  match args with
  | [a1, .int .i64 v33] =>
    optT (cellsOf L 3 a1) fun cs0 =>
    (match cs0 with
    | [.int .i64 v30, .int .i64 v31, a2] =>
    optT (rowI64 L a2) fun v32 =>
    .call (spec_l06Is_g v30 v31 v32 v33) fun y => .leaf (.bool y, L)
    | _ => .fail)
  | _ => .fail
theorem spec_l06Is_Fok : COk Try.prog 57 spec_l06Is_F true := by
  intro F L H args r L' hs ha hr
  unfold spec_l06Is_F at hr
  split at hr
  · rename_i a1 v33
    obtain ⟨cs0, hcp0, hr⟩ := optT_run hr
    split at hr
    · rename_i v30 v31 a2
      obtain ⟨v32, hv32, hr⟩ := optT_run hr
      simp only [Tree.run] at hr
      obtain ⟨y, hy, hr⟩ := Option.bind_eq_some_iff.1 hr
      simp only [Tree.run, Option.some.injEq, Prod.mk.injEq] at hr
      obtain ⟨rfl, rfl⟩ := hr
      exact call_ok0 hs (fun k => (([a1.av F, a2.av F] : List AV)[k]?).getD .top) [a1, .int .i64 v33] [.bptr (BR.root 0) [.int .i64 v30, .int .i64 v31, .bslc (BR.root 1) (.i64 v32)], .int .i64 v33] (fun F' h0 hi hρ => ⟨by simp [DVs.av, DV.av, BR.av, hρ], spec_l06Is_fn v30 v31 v32 v33 F' (st_nil hi) ⟨bptr_ok hi (by rw [h0]; simpa [DVs.av, DV.av, BR.av, hρ] using (cellsOf_ok hs (DVs.okAt ha 0 rfl) hcp0).1) ⟨trivial, trivial, bslc_ok hi (by rw [h0, hρ]; exact rowI64_ok hs (DVs.okAt (cellsOf_ok hs (DVs.okAt ha 0 rfl) hcp0).2 2 rfl) hv32), trivial⟩, trivial, trivial⟩ hy⟩) rfl
    · cases hr
  · cases hr
/-! spec.l06Low -/
noncomputable def spec_l06Low_LO (v27 v28 : Int) (v29 : List Int) : LOr := fun id e L =>
  match id with
  | _ => .fail
noncomputable def spec_l06Low_tab : List (FuncId × DFn × Bool) := [(57, spec_l06Is_F, true)]
theorem spec_l06Low_hO : OrcOk Try.prog (tabD spec_l06Low_tab) (tabM spec_l06Low_tab) := tabD_cons spec_l06Is_Fok (tabD_nil _)
noncomputable def spec_l06Low_T (v27 v28 : Int) (v29 : List Int) : Tree (Bool) :=
  (.call (spec_l06Is_g v27 v28 v29 (100 : Int)) fun v46 =>
  .leaf v46)

noncomputable def spec_l06Low_g (v27 v28 : Int) (v29 : List Int) : Option (Bool) := (spec_l06Low_T v27 v28 v29).run
def spec_l06Low_enc (v27 v28 : Int) (v29 : List Int) (y : Bool) : Rs := (.bool y, [])
theorem spec_l06Low_den (v27 v28 : Int) (v29 : List Int) : (den TT (tabD spec_l06Low_tab) (tabM spec_l06Low_tab) (spec_l06Low_LO v27 v28 v29) (codeOf Try.f36) ([.bptr (BR.root 0) [.int .i64 v27, .int .i64 v28, .bslc (BR.root 1) (.i64 v29)]] ++ List.replicate (Try.f36.ntmps - ([.bptr (BR.root 0) [.int .i64 v27, .int .i64 v28, .bslc (BR.root 1) (.i64 v29)]] : List DV).length) .undef) []).bind (retD TT Try.f36.results.toList 0) = (spec_l06Low_T v27 v28 v29).bind fun y => .leaf (spec_l06Low_enc v27 v28 v29 y) := by kernel_rfl
theorem spec_l06Low_fn (v27 v28 : Int) (v29 : List Int) (F : Fr) (h0 : St F [] F.H0) (hA : DVs.Ok F [] [.bptr (BR.root 0) [.int .i64 v27, .int .i64 v28, .bslc (BR.root 1) (.i64 v29)]]) {y : Bool} (hy : spec_l06Low_g v27 v28 v29 = some y) : ∃ F' H', Fwd 0 F F' [] (spec_l06Low_enc v27 v28 v29 y).2 ∧ FnOk Try.prog 36 (DVs.av F [.bptr (BR.root 0) [.int .i64 v27, .int .i64 v28, .bslc (BR.root 1) (.i64 v29)]]) F.H0 ((spec_l06Low_enc v27 v28 v29 y).1.av F') H' ∧ St F' (spec_l06Low_enc v27 v28 v29 y).2 H' ∧ (spec_l06Low_enc v27 v28 v29 y).1.Ok F' (spec_l06Low_enc v27 v28 v29 y).2 :=
  fn_fin tok spec_l06Low_hO mixed Try.func36 Try.call36 (by kernel_rfl) (LoopsOk_eq (l := []) (by kernel_rfl) trivial) (spec_l06Low_den v27 v28 v29) hy h0 hA
noncomputable def spec_l06Low_F : DFn := fun args L =>
  match args with
  | [a1] =>
    optT (cellsOf L 3 a1) fun cs0 =>
    (match cs0 with
    | [.int .i64 v27, .int .i64 v28, a2] =>
    optT (rowI64 L a2) fun v29 =>
    .call (spec_l06Low_g v27 v28 v29) fun y => .leaf (.bool y, L)
    | _ => .fail)
  | _ => .fail
theorem spec_l06Low_Fok : COk Try.prog 36 spec_l06Low_F true := by
  intro F L H args r L' hs ha hr
  unfold spec_l06Low_F at hr
  split at hr
  · rename_i a1
    obtain ⟨cs0, hcp0, hr⟩ := optT_run hr
    split at hr
    · rename_i v27 v28 a2
      obtain ⟨v29, hv29, hr⟩ := optT_run hr
      simp only [Tree.run] at hr
      obtain ⟨y, hy, hr⟩ := Option.bind_eq_some_iff.1 hr
      simp only [Tree.run, Option.some.injEq, Prod.mk.injEq] at hr
      obtain ⟨rfl, rfl⟩ := hr
      exact call_ok0 hs (fun k => (([a1.av F, a2.av F] : List AV)[k]?).getD .top) [a1] [.bptr (BR.root 0) [.int .i64 v27, .int .i64 v28, .bslc (BR.root 1) (.i64 v29)]] (fun F' h0 hi hρ => ⟨by simp [DVs.av, DV.av, BR.av, hρ], spec_l06Low_fn v27 v28 v29 F' (st_nil hi) ⟨bptr_ok hi (by rw [h0]; simpa [DVs.av, DV.av, BR.av, hρ] using (cellsOf_ok hs (DVs.okAt ha 0 rfl) hcp0).1) ⟨trivial, trivial, bslc_ok hi (by rw [h0, hρ]; exact rowI64_ok hs (DVs.okAt (cellsOf_ok hs (DVs.okAt ha 0 rfl) hcp0).2 2 rfl) hv29), trivial⟩, trivial⟩ hy⟩) rfl
    · cases hr
  · cases hr
/-! spec.l06Own -/
noncomputable def spec_l06Own_LO (v48 v49 : Int) (v50 : List Int) : LOr := fun id e L =>
  match id with
  | _ => .fail
noncomputable def spec_l06Own_tab : List (FuncId × DFn × Bool) := []
theorem spec_l06Own_hO : OrcOk Try.prog (tabD spec_l06Own_tab) (tabM spec_l06Own_tab) := tabD_nil _
noncomputable def spec_l06Own_T (v48 v49 : Int) (v50 : List Int) : Tree (Int × Int) :=
  (.grd (fits (([] : List Int) ++ v50).length) <|
  .leaf (v48, v49))

noncomputable def spec_l06Own_g (v48 v49 : Int) (v50 : List Int) : Option (Int × Int) := (spec_l06Own_T v48 v49 v50).run
def spec_l06Own_enc (v48 v49 : Int) (v50 : List Int) (y : Int × Int) : Rs := (.agg [.int .i64 y.1, .int .i64 y.2, .own 0 0 ((([] : List Int) ++ v50).length)], [.row (.i64 (([] : List Int) ++ v50)) 0])
theorem spec_l06Own_den (v48 v49 : Int) (v50 : List Int) : (den TT (tabD spec_l06Own_tab) (tabM spec_l06Own_tab) (spec_l06Own_LO v48 v49 v50) (codeOf Try.f38) ([.bptr (BR.root 0) [.int .i64 v48, .int .i64 v49, .bslc (BR.root 1) (.i64 v50)]] ++ List.replicate (Try.f38.ntmps - ([.bptr (BR.root 0) [.int .i64 v48, .int .i64 v49, .bslc (BR.root 1) (.i64 v50)]] : List DV).length) .undef) []).bind (retD TT Try.f38.results.toList 0) = (spec_l06Own_T v48 v49 v50).bind fun y => .leaf (spec_l06Own_enc v48 v49 v50 y) := by kernel_rfl
theorem spec_l06Own_fn (v48 v49 : Int) (v50 : List Int) (F : Fr) (h0 : St F [] F.H0) (hA : DVs.Ok F [] [.bptr (BR.root 0) [.int .i64 v48, .int .i64 v49, .bslc (BR.root 1) (.i64 v50)]]) {y : Int × Int} (hy : spec_l06Own_g v48 v49 v50 = some y) : ∃ F' H', Fwd 0 F F' [] (spec_l06Own_enc v48 v49 v50 y).2 ∧ FnOk Try.prog 38 (DVs.av F [.bptr (BR.root 0) [.int .i64 v48, .int .i64 v49, .bslc (BR.root 1) (.i64 v50)]]) F.H0 ((spec_l06Own_enc v48 v49 v50 y).1.av F') H' ∧ St F' (spec_l06Own_enc v48 v49 v50 y).2 H' ∧ (spec_l06Own_enc v48 v49 v50 y).1.Ok F' (spec_l06Own_enc v48 v49 v50 y).2 :=
  fn_fin tok spec_l06Own_hO mixed Try.func38 Try.call38 (by kernel_rfl) (LoopsOk_eq (l := []) (by kernel_rfl) trivial) (spec_l06Own_den v48 v49 v50) hy h0 hA
noncomputable def spec_l06Own_F : DFn := fun args L =>
  match args with
  | [a1] =>
    optT (cellsOf L 3 a1) fun cs0 =>
    (match cs0 with
    | [.int .i64 v48, .int .i64 v49, a2] =>
    optT (rowI64 L a2) fun v50 =>
    .call (spec_l06Own_g v48 v49 v50) fun y => .leaf (.agg [.int .i64 y.1, .int .i64 y.2, .own (L.length + 0) 0 ((([] : List Int) ++ v50).length)], L ++ [.row (.i64 (([] : List Int) ++ v50)) 0])
    | _ => .fail)
  | _ => .fail
theorem spec_l06Own_Fok : COk Try.prog 38 spec_l06Own_F true := by
  intro F L H args r L' hs ha hr
  unfold spec_l06Own_F at hr
  split at hr
  · rename_i a1
    obtain ⟨cs0, hcp0, hr⟩ := optT_run hr
    split at hr
    · rename_i v48 v49 a2
      obtain ⟨v50, hv50, hr⟩ := optT_run hr
      simp only [Tree.run] at hr
      obtain ⟨y, hy, hr⟩ := Option.bind_eq_some_iff.1 hr
      simp only [Tree.run, Option.some.injEq, Prod.mk.injEq] at hr
      obtain ⟨rfl, rfl⟩ := hr
      exact call_ok1 hs (fun k => (([a1.av F, a2.av F] : List AV)[k]?).getD .top) [a1] [.bptr (BR.root 0) [.int .i64 v48, .int .i64 v49, .bslc (BR.root 1) (.i64 v50)]] (fun F' h0 hi hρ => ⟨by simp [DVs.av, DV.av, BR.av, hρ], spec_l06Own_fn v48 v49 v50 F' (st_nil hi) ⟨bptr_ok hi (by rw [h0]; simpa [DVs.av, DV.av, BR.av, hρ] using (cellsOf_ok hs (DVs.okAt ha 0 rfl) hcp0).1) ⟨trivial, trivial, bslc_ok hi (by rw [h0, hρ]; exact rowI64_ok hs (DVs.okAt (cellsOf_ok hs (DVs.okAt ha 0 rfl) hcp0).2 2 rfl) hv50), trivial⟩, trivial⟩ hy⟩) rfl rfl
    · cases hr
  · cases hr
/-! spec.l06At -/
noncomputable def spec_l06At_LO (v62 v63 : Int) (v64 : List Int) (v65 v66 : Int) : LOr := fun id e L =>
  match id with
  | _ => .fail
noncomputable def spec_l06At_tab : List (FuncId × DFn × Bool) := []
theorem spec_l06At_hO : OrcOk Try.prog (tabD spec_l06At_tab) (tabM spec_l06At_tab) := tabD_nil _
noncomputable def spec_l06At_T (v63 : Int) (v64 : List Int) (v65 v66 : Int) : Tree (Int) :=
  (.grd (inb (IntKind.i64.wrap ((IntKind.i64.wrap (v65 * v63)) + v66)) v64.length) <|
  .leaf (nth v64 (Int.toNat (IntKind.i64.wrap ((IntKind.i64.wrap (v65 * v63)) + v66)))))

noncomputable def spec_l06At_g (v63 : Int) (v64 : List Int) (v65 v66 : Int) : Option (Int) := (spec_l06At_T v63 v64 v65 v66).run
def spec_l06At_enc (v62 v63 : Int) (v64 : List Int) (v65 v66 y : Int) : Rs := (.int .i64 y, [])
theorem spec_l06At_den (v62 v63 : Int) (v64 : List Int) (v65 v66 : Int) : (den TT (tabD spec_l06At_tab) (tabM spec_l06At_tab) (spec_l06At_LO v62 v63 v64 v65 v66) (codeOf Try.f58) ([.bptr (BR.root 0) [.int .i64 v62, .int .i64 v63, .bslc (BR.root 1) (.i64 v64)], .int .i64 v65, .int .i64 v66] ++ List.replicate (Try.f58.ntmps - ([.bptr (BR.root 0) [.int .i64 v62, .int .i64 v63, .bslc (BR.root 1) (.i64 v64)], .int .i64 v65, .int .i64 v66] : List DV).length) .undef) []).bind (retD TT Try.f58.results.toList 0) = (spec_l06At_T v63 v64 v65 v66).bind fun y => .leaf (spec_l06At_enc v62 v63 v64 v65 v66 y) := by kernel_rfl
theorem spec_l06At_fn (v62 v63 : Int) (v64 : List Int) (v65 v66 : Int) (F : Fr) (h0 : St F [] F.H0) (hA : DVs.Ok F [] [.bptr (BR.root 0) [.int .i64 v62, .int .i64 v63, .bslc (BR.root 1) (.i64 v64)], .int .i64 v65, .int .i64 v66]) {y : Int} (hy : spec_l06At_g v63 v64 v65 v66 = some y) : ∃ F' H', Fwd 0 F F' [] (spec_l06At_enc v62 v63 v64 v65 v66 y).2 ∧ FnOk Try.prog 58 (DVs.av F [.bptr (BR.root 0) [.int .i64 v62, .int .i64 v63, .bslc (BR.root 1) (.i64 v64)], .int .i64 v65, .int .i64 v66]) F.H0 ((spec_l06At_enc v62 v63 v64 v65 v66 y).1.av F') H' ∧ St F' (spec_l06At_enc v62 v63 v64 v65 v66 y).2 H' ∧ (spec_l06At_enc v62 v63 v64 v65 v66 y).1.Ok F' (spec_l06At_enc v62 v63 v64 v65 v66 y).2 :=
  fn_fin tok spec_l06At_hO mixed Try.func58 Try.call58 (by kernel_rfl) (LoopsOk_eq (l := []) (by kernel_rfl) trivial) (spec_l06At_den v62 v63 v64 v65 v66) hy h0 hA
noncomputable def spec_l06At_F : DFn := fun args L =>
  match args with
  | [a1, .int .i64 v65, .int .i64 v66] =>
    optT (cellsOf L 3 a1) fun cs0 =>
    (match cs0 with
    | [.int .i64 v62, .int .i64 v63, a2] =>
    optT (rowI64 L a2) fun v64 =>
    .call (spec_l06At_g v63 v64 v65 v66) fun y => .leaf (.int .i64 y, L)
    | _ => .fail)
  | _ => .fail
theorem spec_l06At_Fok : COk Try.prog 58 spec_l06At_F true := by
  intro F L H args r L' hs ha hr
  unfold spec_l06At_F at hr
  split at hr
  · rename_i a1 v65 v66
    obtain ⟨cs0, hcp0, hr⟩ := optT_run hr
    split at hr
    · rename_i v62 v63 a2
      obtain ⟨v64, hv64, hr⟩ := optT_run hr
      simp only [Tree.run] at hr
      obtain ⟨y, hy, hr⟩ := Option.bind_eq_some_iff.1 hr
      simp only [Tree.run, Option.some.injEq, Prod.mk.injEq] at hr
      obtain ⟨rfl, rfl⟩ := hr
      exact call_ok0 hs (fun k => (([a1.av F, a2.av F] : List AV)[k]?).getD .top) [a1, .int .i64 v65, .int .i64 v66] [.bptr (BR.root 0) [.int .i64 v62, .int .i64 v63, .bslc (BR.root 1) (.i64 v64)], .int .i64 v65, .int .i64 v66] (fun F' h0 hi hρ => ⟨by simp [DVs.av, DV.av, BR.av, hρ], spec_l06At_fn v62 v63 v64 v65 v66 F' (st_nil hi) ⟨bptr_ok hi (by rw [h0]; simpa [DVs.av, DV.av, BR.av, hρ] using (cellsOf_ok hs (DVs.okAt ha 0 rfl) hcp0).1) ⟨trivial, trivial, bslc_ok hi (by rw [h0, hρ]; exact rowI64_ok hs (DVs.okAt (cellsOf_ok hs (DVs.okAt ha 0 rfl) hcp0).2 2 rfl) hv64), trivial⟩, trivial, trivial, trivial⟩ hy⟩) rfl
    · cases hr
  · cases hr
/-! spec.l06Dot -/
noncomputable def spec_l06Dot_l0_T (v81 v82 : List Nat) (s : Nat × Int) : Tree ((Nat × Int) ⊕ (Nat)) :=
  (.br (decide (s.2 < ((v81.length : Nat) : Int))) (
  (.grd (inb s.2 v81.length) <|
  (.grd (inb s.2 v82.length) <|
  .leaf (.inl (fadd .f64 s.1 (fmul .f64 (nth v81 (Int.toNat s.2)) (nth v82 (Int.toNat s.2))), IntKind.i64.wrap (s.2 + (1 : Int))))))
  ) (
  .leaf (.inr s.1)
  ))

noncomputable def spec_l06Dot_l0_g (v81 v82 : List Nat) (s0 : Nat × Int) : Option (Nat) := whileM (fun s => (spec_l06Dot_l0_T v81 v82 s).run) s0
def spec_l06Dot_l0_E (v81 v82 : List Nat) (s : Nat × Int) : Sd := ([.bslc (BR.root 0) (.f64 v81),.bslc (BR.root 1) (.f64 v82),Z,Z,Z,.flt .f64 s.1,.int .i64 s.2,Z,Z,Z,Z,Z,Z,Z,Z,Z,Z,Z,Z,Z,Z,Z,Z,Z,Z], [])
def spec_l06Dot_l0_X (v81 v82 : List Nat) (x : Nat) : Out := (.normal, [Z,Z,Z,Z,Z,.flt .f64 x,Z,Z,Z,Z,Z,Z,Z,Z,Z,Z,Z,Z,Z,Z,Z,Z,Z,Z,Z], [])
def spec_l06Dot_l0_kill : List Nat := KL true [0,2,3,2,18]
def spec_l06Dot_l0_nx : Exit → List Nat
  | .exit 0 => KL true [5,1,19]
  | .ret => KL true [4,1,20]
  | _ => []
noncomputable def spec_l06Dot_LO (v81 v82 : List Nat) : LOr := fun id e L =>
  match id with
  | 0 => .need (normA 0 spec_l06Dot_l0_kill e L = some (spec_l06Dot_l0_E v81 v82 ((gF (vAt e 5)), (gI (vAt e 6))))) (.call (spec_l06Dot_l0_g v81 v82 ((gF (vAt e 5)), (gI (vAt e 6)))) fun x => .leaf (spec_l06Dot_l0_X v81 v82 x))
  | _ => .fail
noncomputable def spec_l06Dot_tab : List (FuncId × DFn × Bool) := []
theorem spec_l06Dot_hO : OrcOk Try.prog (tabD spec_l06Dot_tab) (tabM spec_l06Dot_tab) := tabD_nil _
theorem spec_l06Dot_l0_be (v81 v82 : List Nat) (s : Nat × Int) : bodyT TT (tabD spec_l06Dot_tab) (tabM spec_l06Dot_tab) (spec_l06Dot_LO v81 v82) 0 spec_l06Dot_l0_kill spec_l06Dot_l0_nx (bodyOf Try.f41 0) 0 (spec_l06Dot_l0_E v81 v82 s) = (spec_l06Dot_l0_T v81 v82 s).bind fun y => .leaf (outS (spec_l06Dot_l0_E v81 v82) (spec_l06Dot_l0_X v81 v82) y) := by kernel_rfl
theorem spec_l06Dot_l0_ok (v81 v82 : List Nat) : LSound Try.prog 0 (spec_l06Dot_LO v81 v82) 0 (bodyOf Try.f41 0) := by
  intro e L out h
  exact lo_ok (E := spec_l06Dot_l0_E v81 v82) (gT := spec_l06Dot_l0_T v81 v82) (X := spec_l06Dot_l0_X v81 v82) (s0 := ((gF (vAt e 5)), (gI (vAt e 6)))) tok spec_l06Dot_hO mixed (LoopsOk_eq (l := []) (by kernel_rfl) trivial) (spec_l06Dot_l0_be v81 v82) rfl (by intro x; rfl) h
noncomputable def spec_l06Dot_T (v81 v82 : List Nat) : Tree (Nat) :=
  (.need (some (spec_l06Dot_l0_E v81 v82 ((0 : Nat), (0 : Int))) = some (spec_l06Dot_l0_E v81 v82 ((0 : Nat), (0 : Int)))) <|
  (.call (spec_l06Dot_l0_g v81 v82 ((0 : Nat), (0 : Int))) fun v89 =>
  .leaf v89))

noncomputable def spec_l06Dot_g (v81 v82 : List Nat) : Option (Nat) := (spec_l06Dot_T v81 v82).run
def spec_l06Dot_enc (v81 v82 : List Nat) (y : Nat) : Rs := (.flt .f64 y, [])
theorem spec_l06Dot_den (v81 v82 : List Nat) : (den TT (tabD spec_l06Dot_tab) (tabM spec_l06Dot_tab) (spec_l06Dot_LO v81 v82) (codeOf Try.f41) ([.bslc (BR.root 0) (.f64 v81), .bslc (BR.root 1) (.f64 v82)] ++ List.replicate (Try.f41.ntmps - ([.bslc (BR.root 0) (.f64 v81), .bslc (BR.root 1) (.f64 v82)] : List DV).length) .undef) []).bind (retD TT Try.f41.results.toList 0) = (spec_l06Dot_T v81 v82).bind fun y => .leaf (spec_l06Dot_enc v81 v82 y) := by kernel_rfl
theorem spec_l06Dot_fn (v81 v82 : List Nat) (F : Fr) (h0 : St F [] F.H0) (hA : DVs.Ok F [] [.bslc (BR.root 0) (.f64 v81), .bslc (BR.root 1) (.f64 v82)]) {y : Nat} (hy : spec_l06Dot_g v81 v82 = some y) : ∃ F' H', Fwd 0 F F' [] (spec_l06Dot_enc v81 v82 y).2 ∧ FnOk Try.prog 41 (DVs.av F [.bslc (BR.root 0) (.f64 v81), .bslc (BR.root 1) (.f64 v82)]) F.H0 ((spec_l06Dot_enc v81 v82 y).1.av F') H' ∧ St F' (spec_l06Dot_enc v81 v82 y).2 H' ∧ (spec_l06Dot_enc v81 v82 y).1.Ok F' (spec_l06Dot_enc v81 v82 y).2 :=
  fn_fin tok spec_l06Dot_hO mixed Try.func41 Try.call41 (by kernel_rfl) (LoopsOk_eq (l := [(0, bodyOf Try.f41 0)]) (by kernel_rfl) ⟨spec_l06Dot_l0_ok v81 v82, trivial⟩) (spec_l06Dot_den v81 v82) hy h0 hA
noncomputable def spec_l06Dot_F : DFn := fun args L =>
  match args with
  | [a1, a2] =>
    optT (rowF64 L a1) fun v81 =>
    optT (rowF64 L a2) fun v82 =>
    .call (spec_l06Dot_g v81 v82) fun y => .leaf (.flt .f64 y, L)
  | _ => .fail
theorem spec_l06Dot_Fok : COk Try.prog 41 spec_l06Dot_F true := by
  intro F L H args r L' hs ha hr
  unfold spec_l06Dot_F at hr
  split at hr
  · rename_i a1 a2
    obtain ⟨v81, hv81, hr⟩ := optT_run hr
    obtain ⟨v82, hv82, hr⟩ := optT_run hr
    simp only [Tree.run] at hr
    obtain ⟨y, hy, hr⟩ := Option.bind_eq_some_iff.1 hr
    simp only [Tree.run, Option.some.injEq, Prod.mk.injEq] at hr
    obtain ⟨rfl, rfl⟩ := hr
    exact call_ok0 hs (fun k => (([a1.av F, a2.av F] : List AV)[k]?).getD .top) [a1, a2] [.bslc (BR.root 0) (.f64 v81), .bslc (BR.root 1) (.f64 v82)] (fun F' h0 hi hρ => ⟨by simp [DVs.av, DV.av, BR.av, hρ], spec_l06Dot_fn v81 v82 F' (st_nil hi) ⟨bslc_ok hi (by rw [h0, hρ]; exact rowF64_ok hs (DVs.okAt ha 0 rfl) hv81), bslc_ok hi (by rw [h0, hρ]; exact rowF64_ok hs (DVs.okAt ha 1 rfl) hv82), trivial⟩ hy⟩) rfl
  · cases hr
/-! spec.l06Parts -/
noncomputable def spec_l06Parts_l2_T (v57 : Int) (v58 : List Int) (v353 : Int) (v355 : List (List Nat)) (v356 : List Nat) (v357 : List (List Nat)) (v358 : List Nat) (s : Int × (List Nat)) : Tree ((Int × (List Nat)) ⊕ ((List Nat))) :=
  (.br (decide (s.1 < v57)) (
  (.call (spec_l06At_g v57 v58 v353 s.1) fun v360 =>
  (.grd (fits (s.2 ++ ([fofint .f64 v360] : List Nat)).length) <|
  .leaf (.inl (IntKind.i64.wrap (s.1 + (1 : Int)), s.2 ++ ([fofint .f64 v360] : List Nat)))))
  ) (
  .leaf (.inr s.2)
  ))

noncomputable def spec_l06Parts_l2_g (v57 : Int) (v58 : List Int) (v353 : Int) (v355 : List (List Nat)) (v356 : List Nat) (v357 : List (List Nat)) (v358 : List Nat) (s0 : Int × (List Nat)) : Option ((List Nat)) := whileM (fun s => (spec_l06Parts_l2_T v57 v58 v353 v355 v356 v357 v358 s).run) s0
def spec_l06Parts_l2_E (v56 v57 : Int) (v58 : List Int) (v353 : Int) (v355 : List (List Nat)) (v356 : List Nat) (v357 : List (List Nat)) (v358 : List Nat) (s : Int × (List Nat)) : Sd := ([.bptr (BR.root 0) [.int .i64 v56, .int .i64 v57, .bslc (BR.root 1) (.i64 v58)],Z,Z,Z,Z,.nest 0 0 1 ((v356).length),.nest 1 0 1 ((v358).length),.int .i64 v353,.own 2 0 ((s.2).length),.int .i64 s.1,Z,Z,Z,Z,Z,Z,Z,Z,Z,Z,Z,Z,Z,Z,Z,Z,Z,Z,Z,Z,Z,Z,Z,Z,Z,Z,Z,Z,Z,Z,Z,Z,Z,Z,Z,Z,Z,Z,Z,Z,Z,Z,Z,Z,Z,Z,Z,Z,Z,Z,Z,Z,Z,Z,Z,Z,Z,Z,Z,Z,Z,Z,Z,Z,Z,Z,Z,Z,Z,Z,Z,Z,Z,Z,Z,Z,Z,Z,Z,Z,Z,Z,Z,Z,Z,Z,Z,Z,Z,Z,Z,Z,Z,Z,Z,Z,Z,Z,Z], [.nest [.sl (.f64 v355) v356] false 0, .nest [.sl (.f64 v357) v358] false 0, .row (.f64 s.2) 0])
def spec_l06Parts_l2_X (v56 v57 : Int) (v58 : List Int) (v353 : Int) (v355 : List (List Nat)) (v356 : List Nat) (v357 : List (List Nat)) (v358 : List Nat) (x : (List Nat)) : Out := (.normal, [.bptr (BR.root 0) [.int .i64 v56, .int .i64 v57, .bslc (BR.root 1) (.i64 v58)],Z,Z,Z,Z,.nest 0 0 1 ((v356).length),.nest 1 0 1 ((v358).length),.int .i64 v353,.own 2 0 ((x).length),Z,Z,Z,Z,Z,Z,Z,Z,Z,Z,Z,Z,Z,Z,Z,Z,Z,Z,Z,Z,Z,Z,Z,Z,Z,Z,Z,Z,Z,Z,Z,Z,Z,Z,Z,Z,Z,Z,Z,Z,Z,Z,Z,Z,Z,Z,Z,Z,Z,Z,Z,Z,Z,Z,Z,Z,Z,Z,Z,Z,Z,Z,Z,Z,Z,Z,Z,Z,Z,Z,Z,Z,Z,Z,Z,Z,Z,Z,Z,Z,Z,Z,Z,Z,Z,Z,Z,Z,Z,Z,Z,Z,Z,Z,Z,Z,Z,Z,Z,Z], [.nest [.sl (.f64 v355) v356] false 0, .nest [.sl (.f64 v357) v358] false 0, .row (.f64 x) 0])
def spec_l06Parts_l2_kill : List Nat := KL true [0,1,4,5,99]
def spec_l06Parts_l2_nx : Exit → List Nat
  | .exit 0 => KL true [5,2,102]
  | .exit 1 => KL true [0,1,4,3,101]
  | .exit 2 => KL true [0,1,4,4,100]
  | .ret => KL true [2,3,104]
  | _ => []
noncomputable def spec_l06Parts_l6_T (v481 v482 : Int) (v483 : Nat) (v485 : List (List Nat)) (v486 : List Nat) (v487 : List (List Nat)) (v488 v489 v491 : List Nat) (s : Int × (List Nat)) : Tree ((Int × (List Nat)) ⊕ ((List Nat))) :=
  (.br (decide (s.1 < (((s.2).length : Nat) : Int))) (
  (.grd (inb s.1 ((s.2).length)) <|
  (.grd (inb v482 ((v486).length)) <|
  (.grd (inb s.1 ((nget v485 (nth v486 (Int.toNat v482))).length)) <|
  (.grd (inb s.1 ((s.2).length)) <|
  .leaf (.inl (IntKind.i64.wrap (s.1 + (1 : Int)), List.set s.2 (Int.toNat s.1) (fsub .f64 (nth s.2 (Int.toNat s.1)) (fmul .f64 v483 (nth (nget v485 (nth v486 (Int.toNat v482))) (Int.toNat s.1))))))))))
  ) (
  .leaf (.inr s.2)
  ))

noncomputable def spec_l06Parts_l6_g (v481 v482 : Int) (v483 : Nat) (v485 : List (List Nat)) (v486 : List Nat) (v487 : List (List Nat)) (v488 v489 v491 : List Nat) (s0 : Int × (List Nat)) : Option ((List Nat)) := whileM (fun s => (spec_l06Parts_l6_T v481 v482 v483 v485 v486 v487 v488 v489 v491 s).run) s0
def spec_l06Parts_l6_E (v56 v57 : Int) (v58 : List Int) (v481 v482 : Int) (v483 : Nat) (v485 : List (List Nat)) (v486 : List Nat) (v487 : List (List Nat)) (v488 v489 v491 : List Nat) (s : Int × (List Nat)) : Sd := ([.bptr (BR.root 0) [.int .i64 v56, .int .i64 v57, .bslc (BR.root 1) (.i64 v58)],Z,Z,Z,Z,.nest 0 0 1 ((v486).length),.nest 1 0 1 ((v488).length),.int .i64 v481,.own 2 0 ((v489).length),Z,.own 3 0 ((s.2).length),.own 4 0 ((v491).length),.int .i64 v482,.flt .f64 v483,.int .i64 s.1,Z,Z,Z,Z,Z,Z,Z,Z,Z,Z,Z,Z,Z,Z,Z,Z,Z,Z,Z,Z,Z,Z,Z,Z,Z,Z,Z,Z,Z,Z,Z,Z,Z,Z,Z,Z,Z,Z,Z,Z,Z,Z,Z,Z,Z,Z,Z,Z,Z,Z,Z,Z,Z,Z,Z,Z,Z,Z,Z,Z,Z,Z,Z,Z,Z,Z,Z,Z,Z,Z,Z,Z,Z,Z,Z,Z,Z,Z,Z,Z,Z,Z,Z,Z,Z,Z,Z,Z,Z,Z,Z,Z,Z,Z], [.nest [.sl (.f64 v485) v486] false 0, .nest [.sl (.f64 v487) v488] false 0, .row (.f64 v489) 0, .row (.f64 s.2) 0, .row (.f64 v491) 0])
def spec_l06Parts_l6_X (v56 v57 : Int) (v58 : List Int) (v481 v482 : Int) (v483 : Nat) (v485 : List (List Nat)) (v486 : List Nat) (v487 : List (List Nat)) (v488 v489 v491 : List Nat) (x : (List Nat)) : Out := (.normal, [.bptr (BR.root 0) [.int .i64 v56, .int .i64 v57, .bslc (BR.root 1) (.i64 v58)],Z,Z,Z,Z,.nest 0 0 1 ((v486).length),.nest 1 0 1 ((v488).length),.int .i64 v481,.own 2 0 ((v489).length),Z,.own 3 0 ((x).length),.own 4 0 ((v491).length),.int .i64 v482,.flt .f64 v483,Z,Z,Z,Z,Z,Z,Z,Z,Z,Z,Z,Z,Z,Z,Z,Z,Z,Z,Z,Z,Z,Z,Z,Z,Z,Z,Z,Z,Z,Z,Z,Z,Z,Z,Z,Z,Z,Z,Z,Z,Z,Z,Z,Z,Z,Z,Z,Z,Z,Z,Z,Z,Z,Z,Z,Z,Z,Z,Z,Z,Z,Z,Z,Z,Z,Z,Z,Z,Z,Z,Z,Z,Z,Z,Z,Z,Z,Z,Z,Z,Z,Z,Z,Z,Z,Z,Z,Z,Z,Z,Z,Z,Z,Z,Z], [.nest [.sl (.f64 v485) v486] false 0, .nest [.sl (.f64 v487) v488] false 0, .row (.f64 v489) 0, .row (.f64 x) 0, .row (.f64 v491) 0])
def spec_l06Parts_l6_kill : List Nat := KL true [0,1,4,4,1,5,94]
def spec_l06Parts_l6_nx : Exit → List Nat
  | .exit 0 => KL true [5,2,102]
  | .exit 1 => KL true [0,1,4,3,101]
  | .exit 4 => KL true [0,1,4,3,2,2,97]
  | .exit 5 => KL true [0,1,4,4,1,3,96]
  | .exit 6 => KL true [0,1,4,4,1,4,95]
  | .ret => KL true [2,3,104]
  | _ => []
noncomputable def spec_l06Parts_l4_T (v56 v57 : Int) (v58 : List Int) (v448 : Int) (v450 : List (List Nat)) (v451 : List Nat) (v452 : List (List Nat)) (v453 v454 : List Nat) (s : Int × (List Nat) × (List Nat)) : Tree ((Int × (List Nat) × (List Nat)) ⊕ ((List Nat) × (List Nat))) :=
  (.br (decide (s.1 < v448)) (
  (.grd (inb s.1 ((v451).length)) <|
  (.call (spec_l06Dot_g v454 (nget v450 (nth v451 (Int.toNat s.1)))) fun v457 =>
  (.grd (inb s.1 ((v451).length)) <|
  (.grd (inb s.1 ((v451).length)) <|
  (.call (spec_l06Dot_g (nget v450 (nth v451 (Int.toNat s.1))) (nget v450 (nth v451 (Int.toNat s.1)))) fun v458 =>
  (.need (some (spec_l06Parts_l6_E v56 v57 v58 v448 s.1 (fdiv .f64 v457 v458) v450 v451 v452 v453 v454 s.2.2 ((0 : Int), s.2.1)) = some (spec_l06Parts_l6_E v56 v57 v58 v448 s.1 (fdiv .f64 v457 v458) v450 v451 v452 v453 v454 s.2.2 ((0 : Int), s.2.1))) <|
  (.call (spec_l06Parts_l6_g v448 s.1 (fdiv .f64 v457 v458) v450 v451 v452 v453 v454 s.2.2 ((0 : Int), s.2.1)) fun v492 =>
  (.grd (fits (s.2.2 ++ ([(fdiv .f64 v457 v458)] : List Nat)).length) <|
  .leaf (.inl (IntKind.i64.wrap (s.1 + (1 : Int)), v492, s.2.2 ++ ([(fdiv .f64 v457 v458)] : List Nat)))))))))))
  ) (
  .leaf (.inr (s.2.1, s.2.2))
  ))

noncomputable def spec_l06Parts_l4_g (v56 v57 : Int) (v58 : List Int) (v448 : Int) (v450 : List (List Nat)) (v451 : List Nat) (v452 : List (List Nat)) (v453 v454 : List Nat) (s0 : Int × (List Nat) × (List Nat)) : Option ((List Nat) × (List Nat)) := whileM (fun s => (spec_l06Parts_l4_T v56 v57 v58 v448 v450 v451 v452 v453 v454 s).run) s0
def spec_l06Parts_l4_E (v56 v57 : Int) (v58 : List Int) (v448 : Int) (v450 : List (List Nat)) (v451 : List Nat) (v452 : List (List Nat)) (v453 v454 : List Nat) (s : Int × (List Nat) × (List Nat)) : Sd := ([.bptr (BR.root 0) [.int .i64 v56, .int .i64 v57, .bslc (BR.root 1) (.i64 v58)],Z,Z,Z,Z,.nest 0 0 1 ((v451).length),.nest 1 0 1 ((v453).length),.int .i64 v448,.own 2 0 ((v454).length),Z,.own 3 0 ((s.2.1).length),.own 4 0 ((s.2.2).length),.int .i64 s.1,Z,Z,Z,Z,Z,Z,Z,Z,Z,Z,Z,Z,Z,Z,Z,Z,Z,Z,Z,Z,Z,Z,Z,Z,Z,Z,Z,Z,Z,Z,Z,Z,Z,Z,Z,Z,Z,Z,Z,Z,Z,Z,Z,Z,Z,Z,Z,Z,Z,Z,Z,Z,Z,Z,Z,Z,Z,Z,Z,Z,Z,Z,Z,Z,Z,Z,Z,Z,Z,Z,Z,Z,Z,Z,Z,Z,Z,Z,Z,Z,Z,Z,Z,Z,Z,Z,Z,Z,Z,Z,Z,Z,Z,Z,Z,Z], [.nest [.sl (.f64 v450) v451] false 0, .nest [.sl (.f64 v452) v453] false 0, .row (.f64 v454) 0, .row (.f64 s.2.1) 0, .row (.f64 s.2.2) 0])
def spec_l06Parts_l4_X (v56 v57 : Int) (v58 : List Int) (v448 : Int) (v450 : List (List Nat)) (v451 : List Nat) (v452 : List (List Nat)) (v453 v454 : List Nat) (x : (List Nat) × (List Nat)) : Out := (.normal, [.bptr (BR.root 0) [.int .i64 v56, .int .i64 v57, .bslc (BR.root 1) (.i64 v58)],Z,Z,Z,Z,.nest 0 0 1 ((v451).length),.nest 1 0 1 ((v453).length),.int .i64 v448,Z,Z,.own 2 0 ((x.1).length),.own 3 0 ((x.2).length),Z,Z,Z,Z,Z,Z,Z,Z,Z,Z,Z,Z,Z,Z,Z,Z,Z,Z,Z,Z,Z,Z,Z,Z,Z,Z,Z,Z,Z,Z,Z,Z,Z,Z,Z,Z,Z,Z,Z,Z,Z,Z,Z,Z,Z,Z,Z,Z,Z,Z,Z,Z,Z,Z,Z,Z,Z,Z,Z,Z,Z,Z,Z,Z,Z,Z,Z,Z,Z,Z,Z,Z,Z,Z,Z,Z,Z,Z,Z,Z,Z,Z,Z,Z,Z,Z,Z,Z,Z,Z,Z,Z,Z,Z,Z,Z,Z], [.nest [.sl (.f64 v450) v451] false 0, .nest [.sl (.f64 v452) v453] false 0, .row (.f64 x.1) 0, .row (.f64 x.2) 0])
def spec_l06Parts_l4_kill : List Nat := KL true [0,1,4,4,1,3,96]
def spec_l06Parts_l4_nx : Exit → List Nat
  | .exit 0 => KL true [5,2,102]
  | .exit 1 => KL true [0,1,4,3,101]
  | .exit 4 => KL true [0,1,4,3,2,2,97]
  | .ret => KL true [2,3,104]
  | _ => []
noncomputable def spec_l06Parts_l0_T (v56 v57 : Int) (v58 : List Int) (s : Int × (List (List Nat)) × (List Nat) × (List (List Nat)) × (List Nat)) : Tree ((Int × (List (List Nat)) × (List Nat) × (List (List Nat)) × (List Nat)) ⊕ ((Unit) ⊕ ((List (List Nat)) × (List Nat) × (List (List Nat)) × (List Nat)))) :=
  (.br (decide (s.1 < v56)) (
  (.need (some (spec_l06Parts_l2_E v56 v57 v58 s.1 s.2.1 s.2.2.1 s.2.2.2.1 s.2.2.2.2 ((0 : Int), ([] : List Nat))) = some (spec_l06Parts_l2_E v56 v57 v58 s.1 s.2.1 s.2.2.1 s.2.2.2.1 s.2.2.2.2 ((0 : Int), ([] : List Nat)))) <|
  (.call (spec_l06Parts_l2_g v57 v58 s.1 s.2.1 s.2.2.1 s.2.2.2.1 s.2.2.2.2 ((0 : Int), ([] : List Nat))) fun v361 =>
  (.grd (fits (([] : List Nat) ++ v361).length) <|
  (.need (some (spec_l06Parts_l4_E v56 v57 v58 s.1 s.2.1 s.2.2.1 s.2.2.2.1 s.2.2.2.2 v361 ((0 : Int), ([] : List Nat) ++ v361, ([] : List Nat))) = some (spec_l06Parts_l4_E v56 v57 v58 s.1 s.2.1 s.2.2.1 s.2.2.2.1 s.2.2.2.2 v361 ((0 : Int), ([] : List Nat) ++ v361, ([] : List Nat)))) <|
  (.call (spec_l06Parts_l4_g v56 v57 v58 s.1 s.2.1 s.2.2.1 s.2.2.2.1 s.2.2.2.2 v361 ((0 : Int), ([] : List Nat) ++ v361, ([] : List Nat))) fun v493 =>
  (.call (spec_l06Dot_g v493.1 v493.1) fun v494 =>
  (.br (!(fgrt .f64 v494 (0 : Nat))) (
  .leaf (.inr (.inl ()))
  ) (
  (.grd (fits (((s.2.2.1).length) + (1 : Nat))) <|
  (.grd (fits (((s.2.2.2.2).length) + (1 : Nat))) <|
  .leaf (.inl (IntKind.i64.wrap (s.1 + (1 : Int)), s.2.1 ++ ([v493.1] : List (List Nat)), s.2.2.1 ++ [s.2.1.length + 1], s.2.2.2.1 ++ ([v493.2] : List (List Nat)), s.2.2.2.2 ++ [s.2.2.2.1.length + 1]))))
  ))))))))
  ) (
  .leaf (.inr (.inr (s.2.1, s.2.2.1, s.2.2.2.1, s.2.2.2.2)))
  ))

noncomputable def spec_l06Parts_l0_g (v56 v57 : Int) (v58 : List Int) (s0 : Int × (List (List Nat)) × (List Nat) × (List (List Nat)) × (List Nat)) : Option ((Unit) ⊕ ((List (List Nat)) × (List Nat) × (List (List Nat)) × (List Nat))) := whileM (fun s => (spec_l06Parts_l0_T v56 v57 v58 s).run) s0
def spec_l06Parts_l0_E (v56 v57 : Int) (v58 : List Int) (s : Int × (List (List Nat)) × (List Nat) × (List (List Nat)) × (List Nat)) : Sd := ([.bptr (BR.root 0) [.int .i64 v56, .int .i64 v57, .bslc (BR.root 1) (.i64 v58)],Z,Z,Z,Z,.nest 0 0 1 ((s.2.2.1).length),.nest 1 0 1 ((s.2.2.2.2).length),.int .i64 s.1,Z,Z,Z,Z,Z,Z,Z,Z,Z,Z,Z,Z,Z,Z,Z,Z,Z,Z,Z,Z,Z,Z,Z,Z,Z,Z,Z,Z,Z,Z,Z,Z,Z,Z,Z,Z,Z,Z,Z,Z,Z,Z,Z,Z,Z,Z,Z,Z,Z,Z,Z,Z,Z,Z,Z,Z,Z,Z,Z,Z,Z,Z,Z,Z,Z,Z,Z,Z,Z,Z,Z,Z,Z,Z,Z,Z,Z,Z,Z,Z,Z,Z,Z,Z,Z,Z,Z,Z,Z,Z,Z,Z,Z,Z,Z,Z,Z,Z,Z,Z,Z], [.nest [.sl (.f64 s.2.1) s.2.2.1] false 0, .nest [.sl (.f64 s.2.2.2.1) s.2.2.2.2] false 0])
def spec_l06Parts_l0_X (v56 v57 : Int) (v58 : List Int) (x : (Unit) ⊕ ((List (List Nat)) × (List Nat) × (List (List Nat)) × (List Nat))) : Out := (match x with | .inl x => (.ret, [Z,Z,.nilslc,.nilslc,.lit false,Z,Z,Z,Z,Z,Z,Z,Z,Z,Z,Z,Z,Z,Z,Z,Z,Z,Z,Z,Z,Z,Z,Z,Z,Z,Z,Z,Z,Z,Z,Z,Z,Z,Z,Z,Z,Z,Z,Z,Z,Z,Z,Z,Z,Z,Z,Z,Z,Z,Z,Z,Z,Z,Z,Z,Z,Z,Z,Z,Z,Z,Z,Z,Z,Z,Z,Z,Z,Z,Z,Z,Z,Z,Z,Z,Z,Z,Z,Z,Z,Z,Z,Z,Z,Z,Z,Z,Z,Z,Z,Z,Z,Z,Z,Z,Z,Z,Z,Z,Z,Z,Z,Z,Z], []) | .inr x => (.normal, [Z,Z,Z,Z,Z,.nest 0 0 1 ((x.2.1).length),.nest 1 0 1 ((x.2.2.2).length),Z,Z,Z,Z,Z,Z,Z,Z,Z,Z,Z,Z,Z,Z,Z,Z,Z,Z,Z,Z,Z,Z,Z,Z,Z,Z,Z,Z,Z,Z,Z,Z,Z,Z,Z,Z,Z,Z,Z,Z,Z,Z,Z,Z,Z,Z,Z,Z,Z,Z,Z,Z,Z,Z,Z,Z,Z,Z,Z,Z,Z,Z,Z,Z,Z,Z,Z,Z,Z,Z,Z,Z,Z,Z,Z,Z,Z,Z,Z,Z,Z,Z,Z,Z,Z,Z,Z,Z,Z,Z,Z,Z,Z,Z,Z,Z,Z,Z,Z,Z,Z,Z], [.nest [.sl (.f64 x.1) x.2.1] false 0, .nest [.sl (.f64 x.2.2.1) x.2.2.2] false 0]))
def spec_l06Parts_l0_kill : List Nat := KL true [0,1,4,3,101]
def spec_l06Parts_l0_nx : Exit → List Nat
  | .exit 0 => KL true [5,2,102]
  | .ret => KL true [2,3,104]
  | _ => []
noncomputable def spec_l06Parts_LO (v56 v57 : Int) (v58 : List Int) : LOr := fun id e L =>
  match id with
  | 2 => .need (normA 0 spec_l06Parts_l2_kill e L = some (spec_l06Parts_l2_E v56 v57 v58 (gI (vAt e 7)) (gPF L (vAt e 5) 0) (gX L (vAt e 5) 0) (gPF L (vAt e 6) 0) (gX L (vAt e 6) 0) ((gI (vAt e 9)), (gRF L (vAt e 8))))) (.call (spec_l06Parts_l2_g v57 v58 (gI (vAt e 7)) (gPF L (vAt e 5) 0) (gX L (vAt e 5) 0) (gPF L (vAt e 6) 0) (gX L (vAt e 6) 0) ((gI (vAt e 9)), (gRF L (vAt e 8)))) fun x => .leaf (spec_l06Parts_l2_X v56 v57 v58 (gI (vAt e 7)) (gPF L (vAt e 5) 0) (gX L (vAt e 5) 0) (gPF L (vAt e 6) 0) (gX L (vAt e 6) 0) x))
  | 6 => .need (normA 0 spec_l06Parts_l6_kill e L = some (spec_l06Parts_l6_E v56 v57 v58 (gI (vAt e 7)) (gI (vAt e 12)) (gF (vAt e 13)) (gPF L (vAt e 5) 0) (gX L (vAt e 5) 0) (gPF L (vAt e 6) 0) (gX L (vAt e 6) 0) (gRF L (vAt e 8)) (gRF L (vAt e 11)) ((gI (vAt e 14)), (gRF L (vAt e 10))))) (.call (spec_l06Parts_l6_g (gI (vAt e 7)) (gI (vAt e 12)) (gF (vAt e 13)) (gPF L (vAt e 5) 0) (gX L (vAt e 5) 0) (gPF L (vAt e 6) 0) (gX L (vAt e 6) 0) (gRF L (vAt e 8)) (gRF L (vAt e 11)) ((gI (vAt e 14)), (gRF L (vAt e 10)))) fun x => .leaf (spec_l06Parts_l6_X v56 v57 v58 (gI (vAt e 7)) (gI (vAt e 12)) (gF (vAt e 13)) (gPF L (vAt e 5) 0) (gX L (vAt e 5) 0) (gPF L (vAt e 6) 0) (gX L (vAt e 6) 0) (gRF L (vAt e 8)) (gRF L (vAt e 11)) x))
  | 4 => .need (normA 0 spec_l06Parts_l4_kill e L = some (spec_l06Parts_l4_E v56 v57 v58 (gI (vAt e 7)) (gPF L (vAt e 5) 0) (gX L (vAt e 5) 0) (gPF L (vAt e 6) 0) (gX L (vAt e 6) 0) (gRF L (vAt e 8)) ((gI (vAt e 12)), (gRF L (vAt e 10)), (gRF L (vAt e 11))))) (.call (spec_l06Parts_l4_g v56 v57 v58 (gI (vAt e 7)) (gPF L (vAt e 5) 0) (gX L (vAt e 5) 0) (gPF L (vAt e 6) 0) (gX L (vAt e 6) 0) (gRF L (vAt e 8)) ((gI (vAt e 12)), (gRF L (vAt e 10)), (gRF L (vAt e 11)))) fun x => .leaf (spec_l06Parts_l4_X v56 v57 v58 (gI (vAt e 7)) (gPF L (vAt e 5) 0) (gX L (vAt e 5) 0) (gPF L (vAt e 6) 0) (gX L (vAt e 6) 0) (gRF L (vAt e 8)) x))
  | 0 => .need (normA 0 spec_l06Parts_l0_kill e L = some (spec_l06Parts_l0_E v56 v57 v58 ((gI (vAt e 7)), (gPF L (vAt e 5) 0), (gX L (vAt e 5) 0), (gPF L (vAt e 6) 0), (gX L (vAt e 6) 0)))) (.call (spec_l06Parts_l0_g v56 v57 v58 ((gI (vAt e 7)), (gPF L (vAt e 5) 0), (gX L (vAt e 5) 0), (gPF L (vAt e 6) 0), (gX L (vAt e 6) 0))) fun x => .sum x (fun b0 => .leaf (spec_l06Parts_l0_X v56 v57 v58 (.inl b0))) (fun c0 => .leaf (spec_l06Parts_l0_X v56 v57 v58 (.inr c0))))
  | _ => .fail
noncomputable def spec_l06Parts_tab : List (FuncId × DFn × Bool) := [(58, spec_l06At_F, true), (41, spec_l06Dot_F, true)]
theorem spec_l06Parts_hO : OrcOk Try.prog (tabD spec_l06Parts_tab) (tabM spec_l06Parts_tab) := tabD_cons spec_l06At_Fok (tabD_cons spec_l06Dot_Fok (tabD_nil _))
theorem spec_l06Parts_l2_be (v56 v57 : Int) (v58 : List Int) (v353 : Int) (v355 : List (List Nat)) (v356 : List Nat) (v357 : List (List Nat)) (v358 : List Nat) (s : Int × (List Nat)) : bodyT TT (tabD spec_l06Parts_tab) (tabM spec_l06Parts_tab) (spec_l06Parts_LO v56 v57 v58) 0 spec_l06Parts_l2_kill spec_l06Parts_l2_nx (bodyOf Try.f39 2) 2 (spec_l06Parts_l2_E v56 v57 v58 v353 v355 v356 v357 v358 s) = (spec_l06Parts_l2_T v57 v58 v353 v355 v356 v357 v358 s).bind fun y => .leaf (outS (spec_l06Parts_l2_E v56 v57 v58 v353 v355 v356 v357 v358) (spec_l06Parts_l2_X v56 v57 v58 v353 v355 v356 v357 v358) y) := by kernel_rfl
theorem spec_l06Parts_l2_ok (v56 v57 : Int) (v58 : List Int) : LSound Try.prog 0 (spec_l06Parts_LO v56 v57 v58) 2 (bodyOf Try.f39 2) := by
  intro e L out h
  exact lo_ok (E := spec_l06Parts_l2_E v56 v57 v58 (gI (vAt e 7)) (gPF L (vAt e 5) 0) (gX L (vAt e 5) 0) (gPF L (vAt e 6) 0) (gX L (vAt e 6) 0)) (gT := spec_l06Parts_l2_T v57 v58 (gI (vAt e 7)) (gPF L (vAt e 5) 0) (gX L (vAt e 5) 0) (gPF L (vAt e 6) 0) (gX L (vAt e 6) 0)) (X := spec_l06Parts_l2_X v56 v57 v58 (gI (vAt e 7)) (gPF L (vAt e 5) 0) (gX L (vAt e 5) 0) (gPF L (vAt e 6) 0) (gX L (vAt e 6) 0)) (s0 := ((gI (vAt e 9)), (gRF L (vAt e 8)))) tok spec_l06Parts_hO mixed (LoopsOk_eq (l := []) (by kernel_rfl) trivial) (spec_l06Parts_l2_be v56 v57 v58 (gI (vAt e 7)) (gPF L (vAt e 5) 0) (gX L (vAt e 5) 0) (gPF L (vAt e 6) 0) (gX L (vAt e 6) 0)) rfl (by intro x; rfl) h
theorem spec_l06Parts_l6_be (v56 v57 : Int) (v58 : List Int) (v481 v482 : Int) (v483 : Nat) (v485 : List (List Nat)) (v486 : List Nat) (v487 : List (List Nat)) (v488 v489 v491 : List Nat) (s : Int × (List Nat)) : bodyT TT (tabD spec_l06Parts_tab) (tabM spec_l06Parts_tab) (spec_l06Parts_LO v56 v57 v58) 0 spec_l06Parts_l6_kill spec_l06Parts_l6_nx (bodyOf Try.f39 6) 6 (spec_l06Parts_l6_E v56 v57 v58 v481 v482 v483 v485 v486 v487 v488 v489 v491 s) = (spec_l06Parts_l6_T v481 v482 v483 v485 v486 v487 v488 v489 v491 s).bind fun y => .leaf (outS (spec_l06Parts_l6_E v56 v57 v58 v481 v482 v483 v485 v486 v487 v488 v489 v491) (spec_l06Parts_l6_X v56 v57 v58 v481 v482 v483 v485 v486 v487 v488 v489 v491) y) := by kernel_rfl
theorem spec_l06Parts_l6_ok (v56 v57 : Int) (v58 : List Int) : LSound Try.prog 0 (spec_l06Parts_LO v56 v57 v58) 6 (bodyOf Try.f39 6) := by
  intro e L out h
  exact lo_ok (E := spec_l06Parts_l6_E v56 v57 v58 (gI (vAt e 7)) (gI (vAt e 12)) (gF (vAt e 13)) (gPF L (vAt e 5) 0) (gX L (vAt e 5) 0) (gPF L (vAt e 6) 0) (gX L (vAt e 6) 0) (gRF L (vAt e 8)) (gRF L (vAt e 11))) (gT := spec_l06Parts_l6_T (gI (vAt e 7)) (gI (vAt e 12)) (gF (vAt e 13)) (gPF L (vAt e 5) 0) (gX L (vAt e 5) 0) (gPF L (vAt e 6) 0) (gX L (vAt e 6) 0) (gRF L (vAt e 8)) (gRF L (vAt e 11))) (X := spec_l06Parts_l6_X v56 v57 v58 (gI (vAt e 7)) (gI (vAt e 12)) (gF (vAt e 13)) (gPF L (vAt e 5) 0) (gX L (vAt e 5) 0) (gPF L (vAt e 6) 0) (gX L (vAt e 6) 0) (gRF L (vAt e 8)) (gRF L (vAt e 11))) (s0 := ((gI (vAt e 14)), (gRF L (vAt e 10)))) tok spec_l06Parts_hO mixed (LoopsOk_eq (l := []) (by kernel_rfl) trivial) (spec_l06Parts_l6_be v56 v57 v58 (gI (vAt e 7)) (gI (vAt e 12)) (gF (vAt e 13)) (gPF L (vAt e 5) 0) (gX L (vAt e 5) 0) (gPF L (vAt e 6) 0) (gX L (vAt e 6) 0) (gRF L (vAt e 8)) (gRF L (vAt e 11))) rfl (by intro x; rfl) h
theorem spec_l06Parts_l4_be (v56 v57 : Int) (v58 : List Int) (v448 : Int) (v450 : List (List Nat)) (v451 : List Nat) (v452 : List (List Nat)) (v453 v454 : List Nat) (s : Int × (List Nat) × (List Nat)) : bodyT TT (tabD spec_l06Parts_tab) (tabM spec_l06Parts_tab) (spec_l06Parts_LO v56 v57 v58) 0 spec_l06Parts_l4_kill spec_l06Parts_l4_nx (bodyOf Try.f39 4) 4 (spec_l06Parts_l4_E v56 v57 v58 v448 v450 v451 v452 v453 v454 s) = (spec_l06Parts_l4_T v56 v57 v58 v448 v450 v451 v452 v453 v454 s).bind fun y => .leaf (outS (spec_l06Parts_l4_E v56 v57 v58 v448 v450 v451 v452 v453 v454) (spec_l06Parts_l4_X v56 v57 v58 v448 v450 v451 v452 v453 v454) y) := by kernel_rfl
theorem spec_l06Parts_l4_ok (v56 v57 : Int) (v58 : List Int) : LSound Try.prog 0 (spec_l06Parts_LO v56 v57 v58) 4 (bodyOf Try.f39 4) := by
  intro e L out h
  exact lo_ok (E := spec_l06Parts_l4_E v56 v57 v58 (gI (vAt e 7)) (gPF L (vAt e 5) 0) (gX L (vAt e 5) 0) (gPF L (vAt e 6) 0) (gX L (vAt e 6) 0) (gRF L (vAt e 8))) (gT := spec_l06Parts_l4_T v56 v57 v58 (gI (vAt e 7)) (gPF L (vAt e 5) 0) (gX L (vAt e 5) 0) (gPF L (vAt e 6) 0) (gX L (vAt e 6) 0) (gRF L (vAt e 8))) (X := spec_l06Parts_l4_X v56 v57 v58 (gI (vAt e 7)) (gPF L (vAt e 5) 0) (gX L (vAt e 5) 0) (gPF L (vAt e 6) 0) (gX L (vAt e 6) 0) (gRF L (vAt e 8))) (s0 := ((gI (vAt e 12)), (gRF L (vAt e 10)), (gRF L (vAt e 11)))) tok spec_l06Parts_hO mixed (LoopsOk_eq (l := [(6, bodyOf Try.f39 6)]) (by kernel_rfl) ⟨spec_l06Parts_l6_ok v56 v57 v58, trivial⟩) (spec_l06Parts_l4_be v56 v57 v58 (gI (vAt e 7)) (gPF L (vAt e 5) 0) (gX L (vAt e 5) 0) (gPF L (vAt e 6) 0) (gX L (vAt e 6) 0) (gRF L (vAt e 8))) rfl (by intro x; rfl) h
theorem spec_l06Parts_l0_be (v56 v57 : Int) (v58 : List Int) (s : Int × (List (List Nat)) × (List Nat) × (List (List Nat)) × (List Nat)) : bodyT TT (tabD spec_l06Parts_tab) (tabM spec_l06Parts_tab) (spec_l06Parts_LO v56 v57 v58) 0 spec_l06Parts_l0_kill spec_l06Parts_l0_nx (bodyOf Try.f39 0) 0 (spec_l06Parts_l0_E v56 v57 v58 s) = (spec_l06Parts_l0_T v56 v57 v58 s).bind fun y => .leaf (outS (spec_l06Parts_l0_E v56 v57 v58) (spec_l06Parts_l0_X v56 v57 v58) y) := by kernel_rfl
theorem spec_l06Parts_l0_ok (v56 v57 : Int) (v58 : List Int) : LSound Try.prog 0 (spec_l06Parts_LO v56 v57 v58) 0 (bodyOf Try.f39 0) := by
  intro e L out h
  exact lo_ok (E := spec_l06Parts_l0_E v56 v57 v58) (gT := spec_l06Parts_l0_T v56 v57 v58) (X := spec_l06Parts_l0_X v56 v57 v58) (s0 := ((gI (vAt e 7)), (gPF L (vAt e 5) 0), (gX L (vAt e 5) 0), (gPF L (vAt e 6) 0), (gX L (vAt e 6) 0))) tok spec_l06Parts_hO mixed (LoopsOk_eq (l := [(2, bodyOf Try.f39 2), (4, bodyOf Try.f39 4)]) (by kernel_rfl) ⟨spec_l06Parts_l2_ok v56 v57 v58, spec_l06Parts_l4_ok v56 v57 v58, trivial⟩) (spec_l06Parts_l0_be v56 v57 v58) rfl (by intro x; (cases x with | inl b => rfl | inr x => exact rfl)) h
noncomputable def spec_l06Parts_T (v56 v57 : Int) (v58 : List Int) : Tree ((Unit) ⊕ ((List (List Nat)) × (List Nat) × (List (List Nat)) × (List Nat))) :=
  (.need (some (spec_l06Parts_l0_E v56 v57 v58 ((0 : Int), ([] : List (List Nat)), ([] : List Nat), ([] : List (List Nat)), ([] : List Nat))) = some (spec_l06Parts_l0_E v56 v57 v58 ((0 : Int), ([] : List (List Nat)), ([] : List Nat), ([] : List (List Nat)), ([] : List Nat)))) <|
  (.call (spec_l06Parts_l0_g v56 v57 v58 ((0 : Int), ([] : List (List Nat)), ([] : List Nat), ([] : List (List Nat)), ([] : List Nat))) fun v495 =>
  (.sum v495 (fun v496 =>
  .leaf (.inl ())
  ) (fun v497 =>
  .leaf (.inr (v497.1, v497.2.1, v497.2.2.1, v497.2.2.2))
  ))))

noncomputable def spec_l06Parts_g (v56 v57 : Int) (v58 : List Int) : Option ((Unit) ⊕ ((List (List Nat)) × (List Nat) × (List (List Nat)) × (List Nat))) := (spec_l06Parts_T v56 v57 v58).run
def spec_l06Parts_enc (v56 v57 : Int) (v58 : List Int) (y : (Unit) ⊕ ((List (List Nat)) × (List Nat) × (List (List Nat)) × (List Nat))) : Rs := (match y with | .inl y => (.tup [.nilslc, .nilslc, .lit false], []) | .inr y => (.tup [.nest 0 0 1 ((y.2.1).length), .nest 1 0 1 ((y.2.2.2).length), .lit true], [.nest [.sl (.f64 y.1) y.2.1] false 0, .nest [.sl (.f64 y.2.2.1) y.2.2.2] false 0]))
theorem spec_l06Parts_den (v56 v57 : Int) (v58 : List Int) : (den TT (tabD spec_l06Parts_tab) (tabM spec_l06Parts_tab) (spec_l06Parts_LO v56 v57 v58) (codeOf Try.f39) ([.bptr (BR.root 0) [.int .i64 v56, .int .i64 v57, .bslc (BR.root 1) (.i64 v58)]] ++ List.replicate (Try.f39.ntmps - ([.bptr (BR.root 0) [.int .i64 v56, .int .i64 v57, .bslc (BR.root 1) (.i64 v58)]] : List DV).length) .undef) []).bind (retD TT Try.f39.results.toList 0) = (spec_l06Parts_T v56 v57 v58).bind fun y => .leaf (spec_l06Parts_enc v56 v57 v58 y) := by kernel_rfl
theorem spec_l06Parts_fn (v56 v57 : Int) (v58 : List Int) (F : Fr) (h0 : St F [] F.H0) (hA : DVs.Ok F [] [.bptr (BR.root 0) [.int .i64 v56, .int .i64 v57, .bslc (BR.root 1) (.i64 v58)]]) {y : (Unit) ⊕ ((List (List Nat)) × (List Nat) × (List (List Nat)) × (List Nat))} (hy : spec_l06Parts_g v56 v57 v58 = some y) : ∃ F' H', Fwd 0 F F' [] (spec_l06Parts_enc v56 v57 v58 y).2 ∧ FnOk Try.prog 39 (DVs.av F [.bptr (BR.root 0) [.int .i64 v56, .int .i64 v57, .bslc (BR.root 1) (.i64 v58)]]) F.H0 ((spec_l06Parts_enc v56 v57 v58 y).1.av F') H' ∧ St F' (spec_l06Parts_enc v56 v57 v58 y).2 H' ∧ (spec_l06Parts_enc v56 v57 v58 y).1.Ok F' (spec_l06Parts_enc v56 v57 v58 y).2 :=
  fn_fin tok spec_l06Parts_hO mixed Try.func39 Try.call39 (by kernel_rfl) (LoopsOk_eq (l := [(0, bodyOf Try.f39 0)]) (by kernel_rfl) ⟨spec_l06Parts_l0_ok v56 v57 v58, trivial⟩) (spec_l06Parts_den v56 v57 v58) hy h0 hA
noncomputable def spec_l06Parts_F : DFn := fun args L =>
  match args with
  | [a1] =>
    optT (cellsOf L 3 a1) fun cs0 =>
    (match cs0 with
    | [.int .i64 v56, .int .i64 v57, a2] =>
    optT (rowI64 L a2) fun v58 =>
    .call (spec_l06Parts_g v56 v57 v58) fun y => .sum y (fun y0 => .leaf (.tup [.nilslc, .nilslc, .lit false], L)) (fun z0 => .leaf (.tup [.nest (L.length + 0) 0 1 ((z0.2.1).length), .nest (L.length + 1) 0 1 ((z0.2.2.2).length), .lit true], L ++ [.nest [.sl (.f64 z0.1) z0.2.1] false 0, .nest [.sl (.f64 z0.2.2.1) z0.2.2.2] false 0]))
    | _ => .fail)
  | _ => .fail
theorem spec_l06Parts_Fok : COk Try.prog 39 spec_l06Parts_F true := by
  intro F L H args r L' hs ha hr
  unfold spec_l06Parts_F at hr
  split at hr
  · rename_i a1
    obtain ⟨cs0, hcp0, hr⟩ := optT_run hr
    split at hr
    · rename_i v56 v57 a2
      obtain ⟨v58, hv58, hr⟩ := optT_run hr
      simp only [Tree.run] at hr
      obtain ⟨y, hy, hr⟩ := Option.bind_eq_some_iff.1 hr
      cases y with
      | inl y =>
        simp only [Tree.run, Option.some.injEq, Prod.mk.injEq] at hr
        obtain ⟨rfl, rfl⟩ := hr
        exact call_ok0 hs (fun k => (([a1.av F, a2.av F] : List AV)[k]?).getD .top) [a1] [.bptr (BR.root 0) [.int .i64 v56, .int .i64 v57, .bslc (BR.root 1) (.i64 v58)]] (fun F' h0 hi hρ => ⟨by simp [DVs.av, DV.av, BR.av, hρ], spec_l06Parts_fn v56 v57 v58 F' (st_nil hi) ⟨bptr_ok hi (by rw [h0]; simpa [DVs.av, DV.av, BR.av, hρ] using (cellsOf_ok hs (DVs.okAt ha 0 rfl) hcp0).1) ⟨trivial, trivial, bslc_ok hi (by rw [h0, hρ]; exact rowI64_ok hs (DVs.okAt (cellsOf_ok hs (DVs.okAt ha 0 rfl) hcp0).2 2 rfl) hv58), trivial⟩, trivial⟩ hy⟩) rfl
      | inr y =>
        simp only [Tree.run, Option.some.injEq, Prod.mk.injEq] at hr
        obtain ⟨rfl, rfl⟩ := hr
        exact call_ok1 hs (fun k => (([a1.av F, a2.av F] : List AV)[k]?).getD .top) [a1] [.bptr (BR.root 0) [.int .i64 v56, .int .i64 v57, .bslc (BR.root 1) (.i64 v58)]] (fun F' h0 hi hρ => ⟨by simp [DVs.av, DV.av, BR.av, hρ], spec_l06Parts_fn v56 v57 v58 F' (st_nil hi) ⟨bptr_ok hi (by rw [h0]; simpa [DVs.av, DV.av, BR.av, hρ] using (cellsOf_ok hs (DVs.okAt ha 0 rfl) hcp0).1) ⟨trivial, trivial, bslc_ok hi (by rw [h0, hρ]; exact rowI64_ok hs (DVs.okAt (cellsOf_ok hs (DVs.okAt ha 0 rfl) hcp0).2 2 rfl) hv58), trivial⟩, trivial⟩ hy⟩) rfl rfl
    · cases hr
  · cases hr
/-! math.Floor -/
noncomputable def math_Floor_LO (v510 : Nat) : LOr := fun id e L =>
  match id with
  | _ => .fail
noncomputable def math_Floor_tab : List (FuncId × DFn × Bool) := [(53, Floor_F, true)]
theorem math_Floor_hO : OrcOk Try.prog (tabD math_Floor_tab) (tabM math_Floor_tab) := tabD_cons Floor_Fok (tabD_nil _)
noncomputable def math_Floor_T (v510 : Nat) : Tree (Nat) :=
  (.grd (!isNan .f64 v510) <|
  .leaf (ffloor v510))

noncomputable def math_Floor_g (v510 : Nat) : Option (Nat) := (math_Floor_T v510).run
def math_Floor_enc (v510 y : Nat) : Rs := (.flt .f64 y, [])
theorem math_Floor_den (v510 : Nat) : (den TT (tabD math_Floor_tab) (tabM math_Floor_tab) (math_Floor_LO v510) (codeOf Try.f24) ([.flt .f64 v510] ++ List.replicate (Try.f24.ntmps - ([.flt .f64 v510] : List DV).length) .undef) []).bind (retD TT Try.f24.results.toList 0) = (math_Floor_T v510).bind fun y => .leaf (math_Floor_enc v510 y) := by kernel_rfl
theorem math_Floor_fn (v510 : Nat) (F : Fr) (h0 : St F [] F.H0) (hA : DVs.Ok F [] [.flt .f64 v510]) {y : Nat} (hy : math_Floor_g v510 = some y) : ∃ F' H', Fwd 0 F F' [] (math_Floor_enc v510 y).2 ∧ FnOk Try.prog 24 (DVs.av F [.flt .f64 v510]) F.H0 ((math_Floor_enc v510 y).1.av F') H' ∧ St F' (math_Floor_enc v510 y).2 H' ∧ (math_Floor_enc v510 y).1.Ok F' (math_Floor_enc v510 y).2 :=
  fn_fin tok math_Floor_hO mixed Try.func24 Try.call24 (by kernel_rfl) (LoopsOk_eq (l := []) (by kernel_rfl) trivial) (math_Floor_den v510) hy h0 hA
noncomputable def math_Floor_F : DFn := fun args L =>
  match args with
  | [.flt .f64 v510] =>
    .call (math_Floor_g v510) fun y => .leaf (.flt .f64 y, L)
  | _ => .fail
theorem math_Floor_Fok : COk Try.prog 24 math_Floor_F true := by
  intro F L H args r L' hs ha hr
  unfold math_Floor_F at hr
  split at hr
  · rename_i v510
    simp only [Tree.run] at hr
    obtain ⟨y, hy, hr⟩ := Option.bind_eq_some_iff.1 hr
    simp only [Tree.run, Option.some.injEq, Prod.mk.injEq] at hr
    obtain ⟨rfl, rfl⟩ := hr
    exact call_ok0 hs (fun k => (([] : List AV)[k]?).getD .top) [.flt .f64 v510] [.flt .f64 v510] (fun F' h0 hi hρ => ⟨by simp [DVs.av, DV.av, BR.av, hρ], math_Floor_fn v510 F' (st_nil hi) ⟨trivial, trivial⟩ hy⟩) rfl
  · cases hr
/-! spec.l06Take -/
noncomputable def spec_l06Take_l0_T (v522 v524 v525 v526 : Int) (s : Int × (List Int)) : Tree ((Int × (List Int)) ⊕ ((List Int))) :=
  (.br (decide (s.1 < v522)) (
  (.grd (inb (IntKind.i64.wrap ((IntKind.i64.wrap (v524 * v522)) + s.1)) ((s.2).length)) <|
  (.call (spec_l06At_g v522 s.2 v525 s.1) fun v534 =>
  (.grd (inb (IntKind.i64.wrap ((IntKind.i64.wrap (v524 * v522)) + s.1)) ((s.2).length)) <|
  .leaf (.inl (IntKind.i64.wrap (s.1 + (1 : Int)), List.set s.2 (Int.toNat (IntKind.i64.wrap ((IntKind.i64.wrap (v524 * v522)) + s.1))) (IntKind.i64.wrap ((nth s.2 (Int.toNat (IntKind.i64.wrap ((IntKind.i64.wrap (v524 * v522)) + s.1)))) - (IntKind.i64.wrap (v526 * v534)))))))))
  ) (
  .leaf (.inr s.2)
  ))

noncomputable def spec_l06Take_l0_g (v522 v524 v525 v526 : Int) (s0 : Int × (List Int)) : Option ((List Int)) := whileM (fun s => (spec_l06Take_l0_T v522 v524 v525 v526 s).run) s0
def spec_l06Take_l0_E (v521 v522 : Int) (v523 : List Int) (v524 v525 v526 : Int) (s : Int × (List Int)) : Sd := ([.ptr 0 (0 : Nat) 0 (3 : Nat),.int .i64 v524,.int .i64 v525,.int .i64 v526,Z,Z,Z,Z,.int .i64 s.1,Z,Z,Z,Z,Z,Z,Z,Z,Z,Z,Z,Z,Z,Z,Z,Z,Z,Z,Z,Z,Z,Z,Z,Z,Z,Z,Z,Z,Z,Z], [.gen [.int .i64 v521, .int .i64 v522, .own 1 0 ((s.2).length)] false 0, .row (.i64 s.2) 0])
def spec_l06Take_l0_X (v521 v522 : Int) (v523 : List Int) (v524 v525 v526 : Int) (x : (List Int)) : Out := (.normal, [Z,Z,Z,Z,Z,Z,Z,Z,Z,Z,Z,Z,Z,Z,Z,Z,Z,Z,Z,Z,Z,Z,Z,Z,Z,Z,Z,Z,Z,Z,Z,Z,Z,Z,Z,Z,Z,Z,Z], [.gen [.int .i64 v521, .int .i64 v522, .own 1 0 ((x).length)] false 0, .row (.i64 x) 0])
def spec_l06Take_l0_kill : List Nat := KL true [0,4,4,1,30]
def spec_l06Take_l0_nx : Exit → List Nat
  | .exit 0 => KL true [39]
  | .ret => KL true [39]
  | _ => []
noncomputable def spec_l06Take_LO (v521 v522 : Int) (v523 : List Int) (v524 v525 v526 : Int) : LOr := fun id e L =>
  match id with
  | 0 => .need (normA 2 spec_l06Take_l0_kill e L = some (spec_l06Take_l0_E v521 v522 v523 v524 v525 v526 ((gI (vAt e 8)), (gRI L (cAt L (vAt e 0) 2))))) (.call (spec_l06Take_l0_g v522 v524 v525 v526 ((gI (vAt e 8)), (gRI L (cAt L (vAt e 0) 2)))) fun x => .leaf (spec_l06Take_l0_X v521 v522 v523 v524 v525 v526 x))
  | _ => .fail
noncomputable def spec_l06Take_tab : List (FuncId × DFn × Bool) := [(58, spec_l06At_F, true)]
theorem spec_l06Take_hO : OrcOk Try.prog (tabD spec_l06Take_tab) (tabM spec_l06Take_tab) := tabD_cons spec_l06At_Fok (tabD_nil _)
theorem spec_l06Take_l0_be (v521 v522 : Int) (v523 : List Int) (v524 v525 v526 : Int) (s : Int × (List Int)) : bodyT TT (tabD spec_l06Take_tab) (tabM spec_l06Take_tab) (spec_l06Take_LO v521 v522 v523 v524 v525 v526) 2 spec_l06Take_l0_kill spec_l06Take_l0_nx (bodyOf Try.f40 0) 0 (spec_l06Take_l0_E v521 v522 v523 v524 v525 v526 s) = (spec_l06Take_l0_T v522 v524 v525 v526 s).bind fun y => .leaf (outS (spec_l06Take_l0_E v521 v522 v523 v524 v525 v526) (spec_l06Take_l0_X v521 v522 v523 v524 v525 v526) y) := by kernel_rfl
theorem spec_l06Take_l0_ok (v521 v522 : Int) (v523 : List Int) (v524 v525 v526 : Int) : LSound Try.prog 2 (spec_l06Take_LO v521 v522 v523 v524 v525 v526) 0 (bodyOf Try.f40 0) := by
  intro e L out h
  exact lo_ok (E := spec_l06Take_l0_E v521 v522 v523 v524 v525 v526) (gT := spec_l06Take_l0_T v522 v524 v525 v526) (X := spec_l06Take_l0_X v521 v522 v523 v524 v525 v526) (s0 := ((gI (vAt e 8)), (gRI L (cAt L (vAt e 0) 2)))) tok spec_l06Take_hO mixed (LoopsOk_eq (l := []) (by kernel_rfl) trivial) (spec_l06Take_l0_be v521 v522 v523 v524 v525 v526) rfl (by intro x; rfl) h
noncomputable def spec_l06Take_T (v521 v522 : Int) (v523 : List Int) (v524 v525 v526 : Int) : Tree (Int × Int × (List Int)) :=
  (.need (some (spec_l06Take_l0_E v521 v522 v523 v524 v525 v526 ((0 : Int), v523)) = some (spec_l06Take_l0_E v521 v522 v523 v524 v525 v526 ((0 : Int), v523))) <|
  (.call (spec_l06Take_l0_g v522 v524 v525 v526 ((0 : Int), v523)) fun v535 =>
  .leaf (v521, v522, v535)))

noncomputable def spec_l06Take_g (v521 v522 : Int) (v523 : List Int) (v524 v525 v526 : Int) : Option (Int × Int × (List Int)) := (spec_l06Take_T v521 v522 v523 v524 v525 v526).run
def spec_l06Take_enc (v521 v522 : Int) (v523 : List Int) (v524 v525 v526 : Int) (y : Int × Int × (List Int)) : Rs := (.tup [], [.gen [.int .i64 y.1, .int .i64 y.2.1, .own 1 0 ((y.2.2).length)] false 0, .row (.i64 y.2.2) 0])
theorem spec_l06Take_den (v521 v522 : Int) (v523 : List Int) (v524 v525 v526 : Int) : (den TT (tabD spec_l06Take_tab) (tabM spec_l06Take_tab) (spec_l06Take_LO v521 v522 v523 v524 v525 v526) (codeOf Try.f40) ([.ptr 0 (0 : Nat) 0 (3 : Nat), .int .i64 v524, .int .i64 v525, .int .i64 v526] ++ List.replicate (Try.f40.ntmps - ([.ptr 0 (0 : Nat) 0 (3 : Nat), .int .i64 v524, .int .i64 v525, .int .i64 v526] : List DV).length) .undef) [.gen [.int .i64 v521, .int .i64 v522, .own 1 0 v523.length] false 0, .row (.i64 v523) 0]).bind (retD TT Try.f40.results.toList 2) = (spec_l06Take_T v521 v522 v523 v524 v525 v526).bind fun y => .leaf (spec_l06Take_enc v521 v522 v523 v524 v525 v526 y) := by kernel_rfl
theorem spec_l06Take_fn (v521 v522 : Int) (v523 : List Int) (v524 v525 v526 : Int) (F : Fr) (h0 : St F [.gen [.int .i64 v521, .int .i64 v522, .own 1 0 v523.length] false 0, .row (.i64 v523) 0] F.H0) (hA : DVs.Ok F [.gen [.int .i64 v521, .int .i64 v522, .own 1 0 v523.length] false 0, .row (.i64 v523) 0] [.ptr 0 (0 : Nat) 0 (3 : Nat), .int .i64 v524, .int .i64 v525, .int .i64 v526]) {y : Int × Int × (List Int)} (hy : spec_l06Take_g v521 v522 v523 v524 v525 v526 = some y) : ∃ F' H', Fwd 2 F F' [.gen [.int .i64 v521, .int .i64 v522, .own 1 0 v523.length] false 0, .row (.i64 v523) 0] (spec_l06Take_enc v521 v522 v523 v524 v525 v526 y).2 ∧ FnOk Try.prog 40 (DVs.av F [.ptr 0 (0 : Nat) 0 (3 : Nat), .int .i64 v524, .int .i64 v525, .int .i64 v526]) F.H0 ((spec_l06Take_enc v521 v522 v523 v524 v525 v526 y).1.av F') H' ∧ St F' (spec_l06Take_enc v521 v522 v523 v524 v525 v526 y).2 H' ∧ (spec_l06Take_enc v521 v522 v523 v524 v525 v526 y).1.Ok F' (spec_l06Take_enc v521 v522 v523 v524 v525 v526 y).2 :=
  fn_fin tok spec_l06Take_hO mixed Try.func40 Try.call40 (by kernel_rfl) (LoopsOk_eq (l := [(0, bodyOf Try.f40 0)]) (by kernel_rfl) ⟨spec_l06Take_l0_ok v521 v522 v523 v524 v525 v526, trivial⟩) (spec_l06Take_den v521 v522 v523 v524 v525 v526) hy h0 hA
noncomputable def spec_l06Take_F : DFn := fun args L =>
  match args with
  | [a1, .int .i64 v524, .int .i64 v525, .int .i64 v526] =>
    optT (genOf L 3 false a1) fun qg0 =>
    (match qg0.2 with
    | [.int .i64 v521, .int .i64 v522, a2] =>
    optT (ownI64 L a2) fun qv523 =>
    (match sepB [qg0.1, qv523.1] [] with
    | true =>
    .call (spec_l06Take_g v521 v522 qv523.2 v524 v525 v526) fun y => .grd (decide (y.2.2.length = qv523.2.length)) (.leaf (.tup [], setB L [(qg0.1, .gen [.int .i64 y.1, .int .i64 y.2.1, .own qv523.1 (verAt L qv523.1) ((y.2.2).length)] false (verAt L qg0.1)), (qv523.1, .row (.i64 y.2.2) (verAt L qv523.1))] ++ []))
    | false => .fail)
    | _ => .fail)
  | _ => .fail
theorem spec_l06Take_Fok : COk Try.prog 40 spec_l06Take_F false := by
  intro F L H args r L' hs ha hr
  unfold spec_l06Take_F at hr
  split at hr
  · rename_i a1 v524 v525 v526
    obtain ⟨⟨jg0, cg0⟩, hg0, hr⟩ := optT_run hr
    simp only at hr
    split at hr
    · rename_i v521 v522 a2
      obtain ⟨hge0, hgu0, hga0, hgn0, hgc0, hgf0⟩ := genOf_spec hs (DVs.okAt ha 0 rfl) hg0
      obtain ⟨⟨jv523, v523⟩, hqv523, hr⟩ := optT_run hr
      simp only at hr
      split at hr
      · rename_i hsep
        obtain ⟨hnd, hsepv⟩ := sepB_spec hsep
        simp only [Tree.run] at hr
        obtain ⟨y, hy, hr⟩ := Option.bind_eq_some_iff.1 hr
        try simp only [Tree.run] at hr
        obtain ⟨hl0, hr⟩ := ite_run hr
        simp only [Option.some.injEq, Prod.mk.injEq] at hr
        obtain ⟨rfl, rfl⟩ := hr
        obtain ⟨hr1, hu1, ha1, hb1⟩ := (ownR_spec (DVs.okAt hgc0 2 rfl) (ownI64_or hqv523))
        exact mutG_ok hs [a1, a2] ⟨(DVs.okAt ha 0 rfl), (DVs.okAt hgc0 2 rfl), trivial⟩ [a1, .int .i64 v524, .int .i64 v525, .int .i64 v526] [.ptr 0 (0 : Nat) 0 (3 : Nat), .int .i64 v524, .int .i64 v525, .int .i64 v526] [jg0, jv523] [verAt L jg0, verAt L jv523] [.gen [.int .i64 v521, .int .i64 v522, .own 1 0 v523.length] false 0, .row (.i64 v523) 0] [.gen [.int .i64 y.1, .int .i64 y.2.1, .own 1 0 ((y.2.2).length)] false 0, .row (.i64 y.2.2) 0] [.gen [.int .i64 y.1, .int .i64 y.2.1, .own jv523 (verAt L jv523) ((y.2.2).length)] false (verAt L jg0), .row (.i64 y.2.2) (verAt L jv523)] [] hnd rfl rfl (fun j hj => by
            simp at hj
            rcases hj with rfl | rfl
            · exact ex_gen hge0
            · exact ex_row hr1) (fun j hj => by
            simp at hj
            rcases hj with rfl | rfl
            · exact reach_refs (by simp [DVs.refs, DV.refs, hgu0])
            · exact reach_1 (deep_mem (by simp [DVs.refs, DV.refs, hgu0]) hge0 (by simp [DVs.refs, DV.refs, hu1]))) (fun F' h0 hρ ab hpl hS => by
            have ab0 := ab 0 _ rfl; have ab1 := ab 1 _ rfl;
            refine ⟨fun i j b' h1 h2 => ?_, by simp [DBlk.blk, DVs.av, DV.av, BR.av, hρ, Row.len, hga0, ab0, ha1, ab1], fun hst => spec_l06Take_fn v521 v522 v523 v524 v525 v526 F' hst ⟨⟨_, rfl, Nat.le_refl _, by decide, Nat.le_refl _, fun _ => rfl⟩, trivial, trivial, trivial, trivial⟩ hy⟩
            rcases i with _ | _ | i
            · simp at h1 h2; subst h1; subst h2; obtain ⟨ver_, hv_⟩ := hge0; exact ⟨_, hv_, .gen _ _ _ _ _ _, by simp [DBlk.blk, DVs.av, DV.av, BR.av, hρ, Row.len, hga0, ab0, ha1, ab1], ⟨⟨trivial, trivial, ⟨_, rfl, Nat.le_refl _, Nat.le_refl _, fun _ => rfl, (ownR_spec (DVs.okAt hgc0 2 rfl) (ownI64_or hqv523)).2.2.2⟩, trivial⟩, fun hf => by cases hf⟩⟩
            · simp at h1 h2; subst h1; subst h2; obtain ⟨ver_, hv_⟩ := hr1; exact ⟨_, hv_, .row _ _ _, rfl, hb1⟩
            · simp at h1) rfl rfl (fun i j b b' h1 h2 h3 => by
            rcases i with _ | _ | i
            · simp at h1; subst h1; cases h3; exact growG hge0 rfl h2
            · simp at h1; subst h1; cases h3; exact growK hr1 (by first | exact of_decide_eq_true hl0 | rfl) h2
            · simp at h1)
      · cases hr
    · cases hr
  · cases hr
/-! spec.l06Swap -/
noncomputable def spec_l06Swap_l0_T (v586 v588 v589 : Int) (s : Int × (List Int)) : Tree ((Int × (List Int)) ⊕ ((List Int))) :=
  (.br (decide (s.1 < v586)) (
  (.call (spec_l06At_g v586 s.2 v588 s.1) fun v599 =>
  (.call (spec_l06At_g v586 s.2 v589 s.1) fun v600 =>
  (.grd (inb (IntKind.i64.wrap ((IntKind.i64.wrap (v588 * v586)) + s.1)) ((s.2).length)) <|
  (.grd (inb (IntKind.i64.wrap ((IntKind.i64.wrap (v589 * v586)) + s.1)) ((s.2).length)) <|
  .leaf (.inl (IntKind.i64.wrap (s.1 + (1 : Int)), List.set (List.set s.2 (Int.toNat (IntKind.i64.wrap ((IntKind.i64.wrap (v588 * v586)) + s.1))) v600) (Int.toNat (IntKind.i64.wrap ((IntKind.i64.wrap (v589 * v586)) + s.1))) v599))))))
  ) (
  .leaf (.inr s.2)
  ))

noncomputable def spec_l06Swap_l0_g (v586 v588 v589 : Int) (s0 : Int × (List Int)) : Option ((List Int)) := whileM (fun s => (spec_l06Swap_l0_T v586 v588 v589 s).run) s0
def spec_l06Swap_l0_E (v585 v586 : Int) (v587 : List Int) (v588 v589 : Int) (s : Int × (List Int)) : Sd := ([.ptr 0 (0 : Nat) 0 (3 : Nat),.int .i64 v588,.int .i64 v589,Z,Z,Z,.int .i64 s.1,Z,Z,Z,Z,Z,Z,Z,Z,Z,Z,Z,Z,Z,Z,Z,Z,Z,Z,Z,Z,Z,Z,Z,Z,Z,Z,Z,Z,Z,Z,Z,Z,Z,Z,Z,Z,Z,Z,Z,Z,Z,Z,Z,Z], [.gen [.int .i64 v585, .int .i64 v586, .own 1 0 ((s.2).length)] false 0, .row (.i64 s.2) 0])
def spec_l06Swap_l0_X (v585 v586 : Int) (v587 : List Int) (v588 v589 : Int) (x : (List Int)) : Out := (.normal, [Z,Z,Z,Z,Z,Z,Z,Z,Z,Z,Z,Z,Z,Z,Z,Z,Z,Z,Z,Z,Z,Z,Z,Z,Z,Z,Z,Z,Z,Z,Z,Z,Z,Z,Z,Z,Z,Z,Z,Z,Z,Z,Z,Z,Z,Z,Z,Z,Z,Z,Z], [.gen [.int .i64 v585, .int .i64 v586, .own 1 0 ((x).length)] false 0, .row (.i64 x) 0])
def spec_l06Swap_l0_kill : List Nat := KL true [0,3,3,1,44]
def spec_l06Swap_l0_nx : Exit → List Nat
  | .exit 0 => KL true [51]
  | .ret => KL true [51]
  | _ => []
noncomputable def spec_l06Swap_LO (v585 v586 : Int) (v587 : List Int) (v588 v589 : Int) : LOr := fun id e L =>
  match id with
  | 0 => .need (normA 2 spec_l06Swap_l0_kill e L = some (spec_l06Swap_l0_E v585 v586 v587 v588 v589 ((gI (vAt e 6)), (gRI L (cAt L (vAt e 0) 2))))) (.call (spec_l06Swap_l0_g v586 v588 v589 ((gI (vAt e 6)), (gRI L (cAt L (vAt e 0) 2)))) fun x => .leaf (spec_l06Swap_l0_X v585 v586 v587 v588 v589 x))
  | _ => .fail
noncomputable def spec_l06Swap_tab : List (FuncId × DFn × Bool) := [(58, spec_l06At_F, true)]
theorem spec_l06Swap_hO : OrcOk Try.prog (tabD spec_l06Swap_tab) (tabM spec_l06Swap_tab) := tabD_cons spec_l06At_Fok (tabD_nil _)
theorem spec_l06Swap_l0_be (v585 v586 : Int) (v587 : List Int) (v588 v589 : Int) (s : Int × (List Int)) : bodyT TT (tabD spec_l06Swap_tab) (tabM spec_l06Swap_tab) (spec_l06Swap_LO v585 v586 v587 v588 v589) 2 spec_l06Swap_l0_kill spec_l06Swap_l0_nx (bodyOf Try.f42 0) 0 (spec_l06Swap_l0_E v585 v586 v587 v588 v589 s) = (spec_l06Swap_l0_T v586 v588 v589 s).bind fun y => .leaf (outS (spec_l06Swap_l0_E v585 v586 v587 v588 v589) (spec_l06Swap_l0_X v585 v586 v587 v588 v589) y) := by kernel_rfl
theorem spec_l06Swap_l0_ok (v585 v586 : Int) (v587 : List Int) (v588 v589 : Int) : LSound Try.prog 2 (spec_l06Swap_LO v585 v586 v587 v588 v589) 0 (bodyOf Try.f42 0) := by
  intro e L out h
  exact lo_ok (E := spec_l06Swap_l0_E v585 v586 v587 v588 v589) (gT := spec_l06Swap_l0_T v586 v588 v589) (X := spec_l06Swap_l0_X v585 v586 v587 v588 v589) (s0 := ((gI (vAt e 6)), (gRI L (cAt L (vAt e 0) 2)))) tok spec_l06Swap_hO mixed (LoopsOk_eq (l := []) (by kernel_rfl) trivial) (spec_l06Swap_l0_be v585 v586 v587 v588 v589) rfl (by intro x; rfl) h
noncomputable def spec_l06Swap_T (v585 v586 : Int) (v587 : List Int) (v588 v589 : Int) : Tree (Int × Int × (List Int)) :=
  (.need (some (spec_l06Swap_l0_E v585 v586 v587 v588 v589 ((0 : Int), v587)) = some (spec_l06Swap_l0_E v585 v586 v587 v588 v589 ((0 : Int), v587))) <|
  (.call (spec_l06Swap_l0_g v586 v588 v589 ((0 : Int), v587)) fun v601 =>
  .leaf (v585, v586, v601)))

noncomputable def spec_l06Swap_g (v585 v586 : Int) (v587 : List Int) (v588 v589 : Int) : Option (Int × Int × (List Int)) := (spec_l06Swap_T v585 v586 v587 v588 v589).run
def spec_l06Swap_enc (v585 v586 : Int) (v587 : List Int) (v588 v589 : Int) (y : Int × Int × (List Int)) : Rs := (.tup [], [.gen [.int .i64 y.1, .int .i64 y.2.1, .own 1 0 ((y.2.2).length)] false 0, .row (.i64 y.2.2) 0])
theorem spec_l06Swap_den (v585 v586 : Int) (v587 : List Int) (v588 v589 : Int) : (den TT (tabD spec_l06Swap_tab) (tabM spec_l06Swap_tab) (spec_l06Swap_LO v585 v586 v587 v588 v589) (codeOf Try.f42) ([.ptr 0 (0 : Nat) 0 (3 : Nat), .int .i64 v588, .int .i64 v589] ++ List.replicate (Try.f42.ntmps - ([.ptr 0 (0 : Nat) 0 (3 : Nat), .int .i64 v588, .int .i64 v589] : List DV).length) .undef) [.gen [.int .i64 v585, .int .i64 v586, .own 1 0 v587.length] false 0, .row (.i64 v587) 0]).bind (retD TT Try.f42.results.toList 2) = (spec_l06Swap_T v585 v586 v587 v588 v589).bind fun y => .leaf (spec_l06Swap_enc v585 v586 v587 v588 v589 y) := by kernel_rfl
theorem spec_l06Swap_fn (v585 v586 : Int) (v587 : List Int) (v588 v589 : Int) (F : Fr) (h0 : St F [.gen [.int .i64 v585, .int .i64 v586, .own 1 0 v587.length] false 0, .row (.i64 v587) 0] F.H0) (hA : DVs.Ok F [.gen [.int .i64 v585, .int .i64 v586, .own 1 0 v587.length] false 0, .row (.i64 v587) 0] [.ptr 0 (0 : Nat) 0 (3 : Nat), .int .i64 v588, .int .i64 v589]) {y : Int × Int × (List Int)} (hy : spec_l06Swap_g v585 v586 v587 v588 v589 = some y) : ∃ F' H', Fwd 2 F F' [.gen [.int .i64 v585, .int .i64 v586, .own 1 0 v587.length] false 0, .row (.i64 v587) 0] (spec_l06Swap_enc v585 v586 v587 v588 v589 y).2 ∧ FnOk Try.prog 42 (DVs.av F [.ptr 0 (0 : Nat) 0 (3 : Nat), .int .i64 v588, .int .i64 v589]) F.H0 ((spec_l06Swap_enc v585 v586 v587 v588 v589 y).1.av F') H' ∧ St F' (spec_l06Swap_enc v585 v586 v587 v588 v589 y).2 H' ∧ (spec_l06Swap_enc v585 v586 v587 v588 v589 y).1.Ok F' (spec_l06Swap_enc v585 v586 v587 v588 v589 y).2 :=
  fn_fin tok spec_l06Swap_hO mixed Try.func42 Try.call42 (by kernel_rfl) (LoopsOk_eq (l := [(0, bodyOf Try.f42 0)]) (by kernel_rfl) ⟨spec_l06Swap_l0_ok v585 v586 v587 v588 v589, trivial⟩) (spec_l06Swap_den v585 v586 v587 v588 v589) hy h0 hA
noncomputable def spec_l06Swap_F : DFn := fun args L =>
  match args with
  | [a1, .int .i64 v588, .int .i64 v589] =>
    optT (genOf L 3 false a1) fun qg0 =>
    (match qg0.2 with
    | [.int .i64 v585, .int .i64 v586, a2] =>
    optT (ownI64 L a2) fun qv587 =>
    (match sepB [qg0.1, qv587.1] [] with
    | true =>
    .call (spec_l06Swap_g v585 v586 qv587.2 v588 v589) fun y => .grd (decide (y.2.2.length = qv587.2.length)) (.leaf (.tup [], setB L [(qg0.1, .gen [.int .i64 y.1, .int .i64 y.2.1, .own qv587.1 (verAt L qv587.1) ((y.2.2).length)] false (verAt L qg0.1)), (qv587.1, .row (.i64 y.2.2) (verAt L qv587.1))] ++ []))
    | false => .fail)
    | _ => .fail)
  | _ => .fail
theorem spec_l06Swap_Fok : COk Try.prog 42 spec_l06Swap_F false := by
  intro F L H args r L' hs ha hr
  unfold spec_l06Swap_F at hr
  split at hr
  · rename_i a1 v588 v589
    obtain ⟨⟨jg0, cg0⟩, hg0, hr⟩ := optT_run hr
    simp only at hr
    split at hr
    · rename_i v585 v586 a2
      obtain ⟨hge0, hgu0, hga0, hgn0, hgc0, hgf0⟩ := genOf_spec hs (DVs.okAt ha 0 rfl) hg0
      obtain ⟨⟨jv587, v587⟩, hqv587, hr⟩ := optT_run hr
      simp only at hr
      split at hr
      · rename_i hsep
        obtain ⟨hnd, hsepv⟩ := sepB_spec hsep
        simp only [Tree.run] at hr
        obtain ⟨y, hy, hr⟩ := Option.bind_eq_some_iff.1 hr
        try simp only [Tree.run] at hr
        obtain ⟨hl0, hr⟩ := ite_run hr
        simp only [Option.some.injEq, Prod.mk.injEq] at hr
        obtain ⟨rfl, rfl⟩ := hr
        obtain ⟨hr1, hu1, ha1, hb1⟩ := (ownR_spec (DVs.okAt hgc0 2 rfl) (ownI64_or hqv587))
        exact mutG_ok hs [a1, a2] ⟨(DVs.okAt ha 0 rfl), (DVs.okAt hgc0 2 rfl), trivial⟩ [a1, .int .i64 v588, .int .i64 v589] [.ptr 0 (0 : Nat) 0 (3 : Nat), .int .i64 v588, .int .i64 v589] [jg0, jv587] [verAt L jg0, verAt L jv587] [.gen [.int .i64 v585, .int .i64 v586, .own 1 0 v587.length] false 0, .row (.i64 v587) 0] [.gen [.int .i64 y.1, .int .i64 y.2.1, .own 1 0 ((y.2.2).length)] false 0, .row (.i64 y.2.2) 0] [.gen [.int .i64 y.1, .int .i64 y.2.1, .own jv587 (verAt L jv587) ((y.2.2).length)] false (verAt L jg0), .row (.i64 y.2.2) (verAt L jv587)] [] hnd rfl rfl (fun j hj => by
            simp at hj
            rcases hj with rfl | rfl
            · exact ex_gen hge0
            · exact ex_row hr1) (fun j hj => by
            simp at hj
            rcases hj with rfl | rfl
            · exact reach_refs (by simp [DVs.refs, DV.refs, hgu0])
            · exact reach_1 (deep_mem (by simp [DVs.refs, DV.refs, hgu0]) hge0 (by simp [DVs.refs, DV.refs, hu1]))) (fun F' h0 hρ ab hpl hS => by
            have ab0 := ab 0 _ rfl; have ab1 := ab 1 _ rfl;
            refine ⟨fun i j b' h1 h2 => ?_, by simp [DBlk.blk, DVs.av, DV.av, BR.av, hρ, Row.len, hga0, ab0, ha1, ab1], fun hst => spec_l06Swap_fn v585 v586 v587 v588 v589 F' hst ⟨⟨_, rfl, Nat.le_refl _, by decide, Nat.le_refl _, fun _ => rfl⟩, trivial, trivial, trivial⟩ hy⟩
            rcases i with _ | _ | i
            · simp at h1 h2; subst h1; subst h2; obtain ⟨ver_, hv_⟩ := hge0; exact ⟨_, hv_, .gen _ _ _ _ _ _, by simp [DBlk.blk, DVs.av, DV.av, BR.av, hρ, Row.len, hga0, ab0, ha1, ab1], ⟨⟨trivial, trivial, ⟨_, rfl, Nat.le_refl _, Nat.le_refl _, fun _ => rfl, (ownR_spec (DVs.okAt hgc0 2 rfl) (ownI64_or hqv587)).2.2.2⟩, trivial⟩, fun hf => by cases hf⟩⟩
            · simp at h1 h2; subst h1; subst h2; obtain ⟨ver_, hv_⟩ := hr1; exact ⟨_, hv_, .row _ _ _, rfl, hb1⟩
            · simp at h1) rfl rfl (fun i j b b' h1 h2 h3 => by
            rcases i with _ | _ | i
            · simp at h1; subst h1; cases h3; exact growG hge0 rfl h2
            · simp at h1; subst h1; cases h3; exact growK hr1 (by first | exact of_decide_eq_true hl0 | rfl) h2
            · simp at h1)
      · cases hr
    · cases hr
  · cases hr
/-! spec.l00Max -/
noncomputable def spec_l00Max_LO (v603 v604 : Int) : LOr := fun id e L =>
  match id with
  | _ => .fail
noncomputable def spec_l00Max_tab : List (FuncId × DFn × Bool) := []
theorem spec_l00Max_hO : OrcOk Try.prog (tabD spec_l00Max_tab) (tabM spec_l00Max_tab) := tabD_nil _
noncomputable def spec_l00Max_T (v603 v604 : Int) : Tree (Int) :=
  (.br (decide (v604 < v603)) (
  .leaf v603
  ) (
  .leaf v604
  ))

noncomputable def spec_l00Max_g (v603 v604 : Int) : Option (Int) := (spec_l00Max_T v603 v604).run
def spec_l00Max_enc (v603 v604 y : Int) : Rs := (.int .i64 y, [])
theorem spec_l00Max_den (v603 v604 : Int) : (den TT (tabD spec_l00Max_tab) (tabM spec_l00Max_tab) (spec_l00Max_LO v603 v604) (codeOf Try.f43) ([.int .i64 v603, .int .i64 v604] ++ List.replicate (Try.f43.ntmps - ([.int .i64 v603, .int .i64 v604] : List DV).length) .undef) []).bind (retD TT Try.f43.results.toList 0) = (spec_l00Max_T v603 v604).bind fun y => .leaf (spec_l00Max_enc v603 v604 y) := by kernel_rfl
theorem spec_l00Max_fn (v603 v604 : Int) (F : Fr) (h0 : St F [] F.H0) (hA : DVs.Ok F [] [.int .i64 v603, .int .i64 v604]) {y : Int} (hy : spec_l00Max_g v603 v604 = some y) : ∃ F' H', Fwd 0 F F' [] (spec_l00Max_enc v603 v604 y).2 ∧ FnOk Try.prog 43 (DVs.av F [.int .i64 v603, .int .i64 v604]) F.H0 ((spec_l00Max_enc v603 v604 y).1.av F') H' ∧ St F' (spec_l00Max_enc v603 v604 y).2 H' ∧ (spec_l00Max_enc v603 v604 y).1.Ok F' (spec_l00Max_enc v603 v604 y).2 :=
  fn_fin tok spec_l00Max_hO mixed Try.func43 Try.call43 (by kernel_rfl) (LoopsOk_eq (l := []) (by kernel_rfl) trivial) (spec_l00Max_den v603 v604) hy h0 hA
def spec_l00Max_v (v603 v604 : Int) : Int :=
  if (decide (v604 < v603)) = true then (
  v603
  ) else (
  v604
  )
theorem spec_l00Max_tot (v603 v604 : Int) : spec_l00Max_g v603 v604 = some (spec_l00Max_v v603 v604) := by
  unfold spec_l00Max_g spec_l00Max_T spec_l00Max_v
  simp only [Tree.run]
  repeat' (first | rfl | split)
noncomputable def spec_l00Max_F : DFn := fun args L =>
  match args with
  | [.int .i64 v603, .int .i64 v604] =>
    .leaf (.int .i64 (spec_l00Max_v v603 v604), L)
  | _ => .fail
theorem spec_l00Max_Fok : COk Try.prog 43 spec_l00Max_F true := by
  intro F L H args r L' hs ha hr
  unfold spec_l00Max_F at hr
  split at hr
  · rename_i v603 v604
    have hy := spec_l00Max_tot v603 v604
    generalize spec_l00Max_v v603 v604 = y at hy hr
    simp only [Tree.run, Option.some.injEq, Prod.mk.injEq] at hr
    obtain ⟨rfl, rfl⟩ := hr
    exact call_ok0 hs (fun k => (([] : List AV)[k]?).getD .top) [.int .i64 v603, .int .i64 v604] [.int .i64 v603, .int .i64 v604] (fun F' h0 hi hρ => ⟨by simp [DVs.av, DV.av, BR.av, hρ], spec_l00Max_fn v603 v604 F' (st_nil hi) ⟨trivial, trivial, trivial⟩ hy⟩) rfl
  · cases hr
/-! spec.l06Give -/
noncomputable def spec_l06Give_LO (v732 v733 : Int) (v734 : List Int) : LOr := fun id e L =>
  match id with
  | _ => .fail
noncomputable def spec_l06Give_tab : List (FuncId × DFn × Bool) := [(57, spec_l06Is_F, true)]
theorem spec_l06Give_hO : OrcOk Try.prog (tabD spec_l06Give_tab) (tabM spec_l06Give_tab) := tabD_cons spec_l06Is_Fok (tabD_nil _)
noncomputable def spec_l06Give_T (v732 v733 : Int) (v734 : List Int) : Tree ((Unit) ⊕ (Int × Int)) :=
  (.call (spec_l06Is_g v732 v733 v734 (1000000 : Int)) fun v735 =>
  (.br (!v735) (
  .leaf (.inl ())
  ) (
  .leaf (.inr (v732, v733))
  )))

noncomputable def spec_l06Give_g (v732 v733 : Int) (v734 : List Int) : Option ((Unit) ⊕ (Int × Int)) := (spec_l06Give_T v732 v733 v734).run
def spec_l06Give_enc (v732 v733 : Int) (v734 : List Int) (y : (Unit) ⊕ (Int × Int)) : Rs := (match y with | .inl y => (.tup [.agg [.int .i64 (0 : Int), .int .i64 (0 : Int), .nilslc], .lit false], []) | .inr y => (.tup [.agg [.int .i64 y.1, .int .i64 y.2, .bslc (BR.root 0) (.i64 v734)], .lit true], []))
theorem spec_l06Give_den (v732 v733 : Int) (v734 : List Int) : (den TT (tabD spec_l06Give_tab) (tabM spec_l06Give_tab) (spec_l06Give_LO v732 v733 v734) (codeOf Try.f44) ([.agg [.int .i64 v732, .int .i64 v733, .bslc (BR.root 0) (.i64 v734)]] ++ List.replicate (Try.f44.ntmps - ([.agg [.int .i64 v732, .int .i64 v733, .bslc (BR.root 0) (.i64 v734)]] : List DV).length) .undef) []).bind (retD TT Try.f44.results.toList 0) = (spec_l06Give_T v732 v733 v734).bind fun y => .leaf (spec_l06Give_enc v732 v733 v734 y) := by kernel_rfl
theorem spec_l06Give_fn (v732 v733 : Int) (v734 : List Int) (F : Fr) (h0 : St F [] F.H0) (hA : DVs.Ok F [] [.agg [.int .i64 v732, .int .i64 v733, .bslc (BR.root 0) (.i64 v734)]]) {y : (Unit) ⊕ (Int × Int)} (hy : spec_l06Give_g v732 v733 v734 = some y) : ∃ F' H', Fwd 0 F F' [] (spec_l06Give_enc v732 v733 v734 y).2 ∧ FnOk Try.prog 44 (DVs.av F [.agg [.int .i64 v732, .int .i64 v733, .bslc (BR.root 0) (.i64 v734)]]) F.H0 ((spec_l06Give_enc v732 v733 v734 y).1.av F') H' ∧ St F' (spec_l06Give_enc v732 v733 v734 y).2 H' ∧ (spec_l06Give_enc v732 v733 v734 y).1.Ok F' (spec_l06Give_enc v732 v733 v734 y).2 :=
  fn_fin tok spec_l06Give_hO mixed Try.func44 Try.call44 (by kernel_rfl) (LoopsOk_eq (l := []) (by kernel_rfl) trivial) (spec_l06Give_den v732 v733 v734) hy h0 hA
noncomputable def spec_l06Give_F : DFn := fun args L =>
  match args with
  | [.agg [.int .i64 v732, .int .i64 v733, a1]] =>
    optT (rowI64 L a1) fun v734 =>
    .call (spec_l06Give_g v732 v733 v734) fun y => .sum y (fun y0 => .leaf (.tup [.agg [.int .i64 (0 : Int), .int .i64 (0 : Int), .nilslc], .lit false], L)) (fun z0 => .leaf (.tup [.agg [.int .i64 z0.1, .int .i64 z0.2, a1], .lit true], L))
  | _ => .fail
theorem spec_l06Give_Fok : COk Try.prog 44 spec_l06Give_F true := by
  intro F L H args r L' hs ha hr
  unfold spec_l06Give_F at hr
  split at hr
  · rename_i v732 v733 a1
    obtain ⟨v734, hv734, hr⟩ := optT_run hr
    simp only [Tree.run] at hr
    obtain ⟨y, hy, hr⟩ := Option.bind_eq_some_iff.1 hr
    cases y with
    | inl y =>
      simp only [Tree.run, Option.some.injEq, Prod.mk.injEq] at hr
      obtain ⟨rfl, rfl⟩ := hr
      exact call_ok0 hs (fun k => (([a1.av F] : List AV)[k]?).getD .top) [.agg [.int .i64 v732, .int .i64 v733, a1]] [.agg [.int .i64 v732, .int .i64 v733, .bslc (BR.root 0) (.i64 v734)]] (fun F' h0 hi hρ => ⟨by simp [DVs.av, DV.av, BR.av, hρ], spec_l06Give_fn v732 v733 v734 F' (st_nil hi) ⟨⟨trivial, trivial, bslc_ok hi (by rw [h0, hρ]; exact rowI64_ok hs (DVs.okAt (DVs.okAt ha 0 rfl) 2 rfl) hv734), trivial⟩, trivial⟩ hy⟩) rfl
    | inr y =>
      simp only [Tree.run, Option.some.injEq, Prod.mk.injEq] at hr
      obtain ⟨rfl, rfl⟩ := hr
      exact call_al0 hs (fun k => (([a1.av F] : List AV)[k]?).getD .top) [.agg [.int .i64 v732, .int .i64 v733, a1]] [.agg [.int .i64 v732, .int .i64 v733, .bslc (BR.root 0) (.i64 v734)]] (fun F' h0 hi hρ => ⟨by simp [DVs.av, DV.av, BR.av, hρ], spec_l06Give_fn v732 v733 v734 F' (st_nil hi) ⟨⟨trivial, trivial, bslc_ok hi (by rw [h0, hρ]; exact rowI64_ok hs (DVs.okAt (DVs.okAt ha 0 rfl) 2 rfl) hv734), trivial⟩, trivial⟩ hy⟩) (fun F' h0 hi hρ => by simp [spec_l06Give_enc, DVs.av, DV.av, BR.av, hρ]) ⟨⟨trivial, trivial, (DVs.okAt (DVs.okAt ha 0 rfl) 2 rfl), trivial⟩, trivial, trivial⟩
  · cases hr
/-! spec.ShortRows -/
noncomputable def spec_ShortRows_l2_T (v707 v708 : Int) (s : Int × Int × Int × (List (List Nat)) × (List Nat) × (List (List Nat)) × (List Nat) × (List Int)) : Tree ((Int × Int × Int × (List (List Nat)) × (List Nat) × (List (List Nat)) × (List Nat) × (List Int)) ⊕ ((Unit) ⊕ (Int × Int × (List (List Nat)) × (List Nat) × (List (List Nat)) × (List Nat) × (List Int)))) :=
  (.br (decide ((0 : Int) ≤ s.1)) (
  (.grd (inb v707 ((s.2.2.2.2.2.2.1).length)) <|
  (.grd (inb s.1 ((nget s.2.2.2.2.2.1 (nth s.2.2.2.2.2.2.1 (Int.toNat v707))).length)) <|
  (.call (math_Floor_g (fadd .f64 (nth (nget s.2.2.2.2.2.1 (nth s.2.2.2.2.2.2.1 (Int.toNat v707))) (Int.toNat s.1)) (4602678819172646912 : Nat))) fun v717 =>
  (.call (ftoint .f64 v717 .i64) fun v718 =>
  (.br (decide (v718 = (0 : Int))) (
  .leaf (.inl (IntKind.i64.wrap (s.1 - (1 : Int)), s.2.1, s.2.2.1, s.2.2.2.1, s.2.2.2.2.1, s.2.2.2.2.2.1, s.2.2.2.2.2.2.1, s.2.2.2.2.2.2.2))
  ) (
  (.call (spec_l06Take_g s.2.1 s.2.2.1 s.2.2.2.2.2.2.2 v707 s.1 v718) fun v719 =>
  (.grd (decide (v719.2.2.length = s.2.2.2.2.2.2.2.length)) <|
  (.call (spec_l06Parts_g v719.1 v719.2.1 v719.2.2) fun v720 =>
  (.sum v720 (fun v721 =>
  .leaf (.inr (.inl ()))
  ) (fun v722 =>
  .leaf (.inl (IntKind.i64.wrap (s.1 - (1 : Int)), v719.1, v719.2.1, v722.1, v722.2.1, v722.2.2.1, v722.2.2.2, v719.2.2))
  )))))
  ))))))
  ) (
  .leaf (.inr (.inr (s.2.1, s.2.2.1, s.2.2.2.1, s.2.2.2.2.1, s.2.2.2.2.2.1, s.2.2.2.2.2.2.1, s.2.2.2.2.2.2.2)))
  ))

noncomputable def spec_ShortRows_l2_g (v707 v708 : Int) (s0 : Int × Int × Int × (List (List Nat)) × (List Nat) × (List (List Nat)) × (List Nat) × (List Int)) : Option ((Unit) ⊕ (Int × Int × (List (List Nat)) × (List Nat) × (List (List Nat)) × (List Nat) × (List Int))) := whileM (fun s => (spec_ShortRows_l2_T v707 v708 s).run) s0
def spec_ShortRows_l2_E (v23 v24 : Int) (v25 : List Int) (v26 v707 v708 : Int) (s : Int × Int × Int × (List (List Nat)) × (List Nat) × (List (List Nat)) × (List Nat) × (List Int)) : Sd := ([Z,.int .i64 v26,Z,Z,.ptr 0 (0 : Nat) 0 (3 : Nat),Z,Z,.ptr 1 (0 : Nat) 0 (3 : Nat),.int .i64 v707,.int .i64 v708,.nest 2 0 1 ((s.2.2.2.2.1).length),.nest 3 0 1 ((s.2.2.2.2.2.2.1).length),Z,.int .i64 s.1,Z,Z,Z,Z,Z,Z,Z,Z,Z,Z,Z,Z,Z,Z,Z,Z,Z,Z,Z,Z,Z,Z,Z,Z,Z,Z,Z,Z,Z,Z,Z,Z,Z,Z,Z,Z,Z,Z,Z,Z,Z,Z,Z,Z,Z,Z,Z,Z,Z,Z,Z,Z,Z,Z,Z,Z,Z,Z,Z,Z,Z,Z,Z,Z,Z,Z,Z,Z,Z,Z,Z,Z,Z,Z,Z,Z,Z,Z,Z,Z,Z,Z,Z,Z,Z,Z,Z,Z,Z,Z,Z,Z,Z,Z,Z,Z,Z,Z,Z,Z,Z,Z,Z,Z,Z,Z,Z,Z,Z,Z,Z,Z,Z,Z,Z,Z,Z,Z,Z,Z,Z,Z,Z,Z,Z,Z,Z,Z,Z,Z,Z,Z,Z,Z,Z,Z], [.gen [.int .i64 (0 : Int), .int .i64 (0 : Int), .nilslc] false 0, .gen [.int .i64 s.2.1, .int .i64 s.2.2.1, .own 4 0 ((s.2.2.2.2.2.2.2).length)] false 0, .nest [.sl (.f64 s.2.2.2.1) s.2.2.2.2.1] false 0, .nest [.sl (.f64 s.2.2.2.2.2.1) s.2.2.2.2.2.2.1] false 0, .row (.i64 s.2.2.2.2.2.2.2) 0])
def spec_ShortRows_l2_X (v23 v24 : Int) (v25 : List Int) (v26 v707 v708 : Int) (x : (Unit) ⊕ (Int × Int × (List (List Nat)) × (List Nat) × (List (List Nat)) × (List Nat) × (List Int))) : Out := (match x with | .inl x => (.ret, [Z,Z,Z,Z,.ptr 0 (0 : Nat) 0 (3 : Nat),.int .i64 (0 : Int),.lit false,Z,Z,Z,Z,Z,Z,Z,Z,Z,Z,Z,Z,Z,Z,Z,Z,Z,Z,Z,Z,Z,Z,Z,Z,Z,Z,Z,Z,Z,Z,Z,Z,Z,Z,Z,Z,Z,Z,Z,Z,Z,Z,Z,Z,Z,Z,Z,Z,Z,Z,Z,Z,Z,Z,Z,Z,Z,Z,Z,Z,Z,Z,Z,Z,Z,Z,Z,Z,Z,Z,Z,Z,Z,Z,Z,Z,Z,Z,Z,Z,Z,Z,Z,Z,Z,Z,Z,Z,Z,Z,Z,Z,Z,Z,Z,Z,Z,Z,Z,Z,Z,Z,Z,Z,Z,Z,Z,Z,Z,Z,Z,Z,Z,Z,Z,Z,Z,Z,Z,Z,Z,Z,Z,Z,Z,Z,Z,Z,Z,Z,Z,Z,Z,Z,Z,Z,Z,Z,Z,Z,Z,Z,Z], [.gen [.int .i64 (0 : Int), .int .i64 (0 : Int), .nilslc] false 0]) | .inr x => (.normal, [Z,.int .i64 v26,Z,Z,.ptr 0 (0 : Nat) 0 (3 : Nat),Z,Z,.ptr 1 (0 : Nat) 0 (3 : Nat),.int .i64 v707,.int .i64 v708,.nest 2 0 1 ((x.2.2.2.1).length),.nest 3 0 1 ((x.2.2.2.2.2.1).length),Z,Z,Z,Z,Z,Z,Z,Z,Z,Z,Z,Z,Z,Z,Z,Z,Z,Z,Z,Z,Z,Z,Z,Z,Z,Z,Z,Z,Z,Z,Z,Z,Z,Z,Z,Z,Z,Z,Z,Z,Z,Z,Z,Z,Z,Z,Z,Z,Z,Z,Z,Z,Z,Z,Z,Z,Z,Z,Z,Z,Z,Z,Z,Z,Z,Z,Z,Z,Z,Z,Z,Z,Z,Z,Z,Z,Z,Z,Z,Z,Z,Z,Z,Z,Z,Z,Z,Z,Z,Z,Z,Z,Z,Z,Z,Z,Z,Z,Z,Z,Z,Z,Z,Z,Z,Z,Z,Z,Z,Z,Z,Z,Z,Z,Z,Z,Z,Z,Z,Z,Z,Z,Z,Z,Z,Z,Z,Z,Z,Z,Z,Z,Z,Z,Z,Z,Z,Z], [.gen [.int .i64 (0 : Int), .int .i64 (0 : Int), .nilslc] false 0, .gen [.int .i64 x.1, .int .i64 x.2.1, .own 4 0 ((x.2.2.2.2.2.2).length)] false 0, .nest [.sl (.f64 x.2.2.1) x.2.2.2.1] false 0, .nest [.sl (.f64 x.2.2.2.2.1) x.2.2.2.2.2.1] false 0, .row (.i64 x.2.2.2.2.2.2) 0]))
def spec_ShortRows_l2_kill : List Nat := KL true [1,1,2,1,2,5,1,1,136]
def spec_ShortRows_l2_nx : Exit → List Nat
  | .exit 0 => KL true [4,1,2,1,1,1,140]
  | .exit 1 => KL true [1,1,2,1,2,3,140]
  | .exit 2 => KL true [1,1,2,1,2,5,138]
  | .ret => KL true [4,3,143]
  | _ => []
noncomputable def spec_ShortRows_l0_T (v23 v24 : Int) (v25 : List Int) (v26 : Int) (s : Int × Int × Int × Int × (List Int)) : Tree ((Int × Int × Int × Int × (List Int)) ⊕ ((Unit) ⊕ (Int × Int × Int × (List Int)))) :=
  (.br (decide (s.2.1 < v26)) (
  (.br (decide (s.1 < s.2.2.1)) (
  (.call (spec_l06Parts_g s.2.2.1 s.2.2.2.1 s.2.2.2.2) fun v672 =>
  (.sum v672 (fun v673 =>
  .leaf (.inr (.inl ()))
  ) (fun v674 =>
  (.need (some (spec_ShortRows_l2_E v23 v24 v25 v26 s.1 s.2.1 (IntKind.i64.wrap (s.1 - (1 : Int)), s.2.2.1, s.2.2.2.1, v674.1, v674.2.1, v674.2.2.1, v674.2.2.2, s.2.2.2.2)) = some (spec_ShortRows_l2_E v23 v24 v25 v26 s.1 s.2.1 (IntKind.i64.wrap (s.1 - (1 : Int)), s.2.2.1, s.2.2.2.1, v674.1, v674.2.1, v674.2.2.1, v674.2.2.2, s.2.2.2.2))) <|
  (.call (spec_ShortRows_l2_g s.1 s.2.1 (IntKind.i64.wrap (s.1 - (1 : Int)), s.2.2.1, s.2.2.2.1, v674.1, v674.2.1, v674.2.2.1, v674.2.2.2, s.2.2.2.2)) fun v723 =>
  (.sum v723 (fun v724 =>
  .leaf (.inr (.inl ()))
  ) (fun v725 =>
  (.grd (inb s.1 ((v725.2.2.2.1).length)) <|
  (.grd (inb s.1 ((v725.2.2.2.1).length)) <|
  (.call (spec_l06Dot_g (nget v725.2.2.1 (nth v725.2.2.2.1 (Int.toNat s.1))) (nget v725.2.2.1 (nth v725.2.2.2.1 (Int.toNat s.1)))) fun v726 =>
  (.grd (inb (IntKind.i64.wrap (s.1 - (1 : Int))) ((v725.2.2.2.1).length)) <|
  (.grd (inb (IntKind.i64.wrap (s.1 - (1 : Int))) ((v725.2.2.2.1).length)) <|
  (.call (spec_l06Dot_g (nget v725.2.2.1 (nth v725.2.2.2.1 (Int.toNat (IntKind.i64.wrap (s.1 - (1 : Int)))))) (nget v725.2.2.1 (nth v725.2.2.2.1 (Int.toNat (IntKind.i64.wrap (s.1 - (1 : Int))))))) fun v727 =>
  (.grd (inb s.1 ((v725.2.2.2.2.2.1).length)) <|
  (.grd (inb (IntKind.i64.wrap (s.1 - (1 : Int))) ((nget v725.2.2.2.2.1 (nth v725.2.2.2.2.2.1 (Int.toNat s.1))).length)) <|
  (.br (fgrt .f64 v726 (fmul .f64 (fsub .f64 (4604930618986332160 : Nat) (fmul .f64 (nth (nget v725.2.2.2.2.1 (nth v725.2.2.2.2.2.1 (Int.toNat s.1))) (Int.toNat (IntKind.i64.wrap (s.1 - (1 : Int))))) (nth (nget v725.2.2.2.2.1 (nth v725.2.2.2.2.2.1 (Int.toNat s.1))) (Int.toNat (IntKind.i64.wrap (s.1 - (1 : Int))))))) v727) || feq .f64 v726 (fmul .f64 (fsub .f64 (4604930618986332160 : Nat) (fmul .f64 (nth (nget v725.2.2.2.2.1 (nth v725.2.2.2.2.2.1 (Int.toNat s.1))) (Int.toNat (IntKind.i64.wrap (s.1 - (1 : Int))))) (nth (nget v725.2.2.2.2.1 (nth v725.2.2.2.2.2.1 (Int.toNat s.1))) (Int.toNat (IntKind.i64.wrap (s.1 - (1 : Int))))))) v727)) (
  .leaf (.inl (IntKind.i64.wrap (s.1 + (1 : Int)), IntKind.i64.wrap (s.2.1 + (1 : Int)), v725.1, v725.2.1, v725.2.2.2.2.2.2))
  ) (
  (.call (spec_l06Swap_g v725.1 v725.2.1 v725.2.2.2.2.2.2 s.1 (IntKind.i64.wrap (s.1 - (1 : Int)))) fun v728 =>
  (.grd (decide (v728.2.2.length = v725.2.2.2.2.2.2.length)) <|
  .leaf (.inl ((spec_l00Max_v (1 : Int) (IntKind.i64.wrap (s.1 - (1 : Int)))), IntKind.i64.wrap (s.2.1 + (1 : Int)), v728.1, v728.2.1, v728.2.2))))
  ))))))))))
  ))))
  )))
  ) (
  .leaf (.inr (.inr (s.2.1, s.2.2.1, s.2.2.2.1, s.2.2.2.2)))
  ))
  ) (
  .leaf (.inr (.inr (s.2.1, s.2.2.1, s.2.2.2.1, s.2.2.2.2)))
  ))

noncomputable def spec_ShortRows_l0_g (v23 v24 : Int) (v25 : List Int) (v26 : Int) (s0 : Int × Int × Int × Int × (List Int)) : Option ((Unit) ⊕ (Int × Int × Int × (List Int))) := whileM (fun s => (spec_ShortRows_l0_T v23 v24 v25 v26 s).run) s0
def spec_ShortRows_l0_E (v23 v24 : Int) (v25 : List Int) (v26 : Int) (s : Int × Int × Int × Int × (List Int)) : Sd := ([Z,.int .i64 v26,Z,Z,.ptr 0 (0 : Nat) 0 (3 : Nat),Z,Z,.ptr 1 (0 : Nat) 0 (3 : Nat),.int .i64 s.1,.int .i64 s.2.1,Z,Z,Z,Z,Z,Z,Z,Z,Z,Z,Z,Z,Z,Z,Z,Z,Z,Z,Z,Z,Z,Z,Z,Z,Z,Z,Z,Z,Z,Z,Z,Z,Z,Z,Z,Z,Z,Z,Z,Z,Z,Z,Z,Z,Z,Z,Z,Z,Z,Z,Z,Z,Z,Z,Z,Z,Z,Z,Z,Z,Z,Z,Z,Z,Z,Z,Z,Z,Z,Z,Z,Z,Z,Z,Z,Z,Z,Z,Z,Z,Z,Z,Z,Z,Z,Z,Z,Z,Z,Z,Z,Z,Z,Z,Z,Z,Z,Z,Z,Z,Z,Z,Z,Z,Z,Z,Z,Z,Z,Z,Z,Z,Z,Z,Z,Z,Z,Z,Z,Z,Z,Z,Z,Z,Z,Z,Z,Z,Z,Z,Z,Z,Z,Z,Z,Z,Z,Z,Z,Z], [.gen [.int .i64 (0 : Int), .int .i64 (0 : Int), .nilslc] false 0, .gen [.int .i64 s.2.2.1, .int .i64 s.2.2.2.1, .own 2 0 ((s.2.2.2.2).length)] false 0, .row (.i64 s.2.2.2.2) 0])
def spec_ShortRows_l0_X (v23 v24 : Int) (v25 : List Int) (v26 : Int) (x : (Unit) ⊕ (Int × Int × Int × (List Int))) : Out := (match x with | .inl x => (.ret, [Z,Z,Z,Z,.ptr 0 (0 : Nat) 0 (3 : Nat),.int .i64 (0 : Int),.lit false,Z,Z,Z,Z,Z,Z,Z,Z,Z,Z,Z,Z,Z,Z,Z,Z,Z,Z,Z,Z,Z,Z,Z,Z,Z,Z,Z,Z,Z,Z,Z,Z,Z,Z,Z,Z,Z,Z,Z,Z,Z,Z,Z,Z,Z,Z,Z,Z,Z,Z,Z,Z,Z,Z,Z,Z,Z,Z,Z,Z,Z,Z,Z,Z,Z,Z,Z,Z,Z,Z,Z,Z,Z,Z,Z,Z,Z,Z,Z,Z,Z,Z,Z,Z,Z,Z,Z,Z,Z,Z,Z,Z,Z,Z,Z,Z,Z,Z,Z,Z,Z,Z,Z,Z,Z,Z,Z,Z,Z,Z,Z,Z,Z,Z,Z,Z,Z,Z,Z,Z,Z,Z,Z,Z,Z,Z,Z,Z,Z,Z,Z,Z,Z,Z,Z,Z,Z,Z,Z,Z,Z,Z,Z], [.gen [.int .i64 (0 : Int), .int .i64 (0 : Int), .nilslc] false 0]) | .inr x => (.normal, [Z,Z,Z,Z,.ptr 0 (0 : Nat) 0 (3 : Nat),Z,Z,.ptr 1 (0 : Nat) 0 (3 : Nat),Z,.int .i64 x.1,Z,Z,Z,Z,Z,Z,Z,Z,Z,Z,Z,Z,Z,Z,Z,Z,Z,Z,Z,Z,Z,Z,Z,Z,Z,Z,Z,Z,Z,Z,Z,Z,Z,Z,Z,Z,Z,Z,Z,Z,Z,Z,Z,Z,Z,Z,Z,Z,Z,Z,Z,Z,Z,Z,Z,Z,Z,Z,Z,Z,Z,Z,Z,Z,Z,Z,Z,Z,Z,Z,Z,Z,Z,Z,Z,Z,Z,Z,Z,Z,Z,Z,Z,Z,Z,Z,Z,Z,Z,Z,Z,Z,Z,Z,Z,Z,Z,Z,Z,Z,Z,Z,Z,Z,Z,Z,Z,Z,Z,Z,Z,Z,Z,Z,Z,Z,Z,Z,Z,Z,Z,Z,Z,Z,Z,Z,Z,Z,Z,Z,Z,Z,Z,Z,Z,Z,Z,Z,Z,Z], [.gen [.int .i64 (0 : Int), .int .i64 (0 : Int), .nilslc] false 0, .gen [.int .i64 x.2.1, .int .i64 x.2.2.1, .own 2 0 ((x.2.2.2).length)] false 0, .row (.i64 x.2.2.2) 0]))
def spec_ShortRows_l0_kill : List Nat := KL true [1,1,2,1,2,3,140]
def spec_ShortRows_l0_nx : Exit → List Nat
  | .exit 0 => KL true [4,1,2,1,1,1,140]
  | .ret => KL true [4,3,143]
  | _ => []
noncomputable def spec_ShortRows_LO (v23 v24 : Int) (v25 : List Int) (v26 : Int) : LOr := fun id e L =>
  match id with
  | 2 => .need (normA 0 spec_ShortRows_l2_kill e L = some (spec_ShortRows_l2_E v23 v24 v25 v26 (gI (vAt e 8)) (gI (vAt e 9)) ((gI (vAt e 13)), (gI (cAt L (vAt e 7) 0)), (gI (cAt L (vAt e 7) 1)), (gPF L (vAt e 10) 0), (gX L (vAt e 10) 0), (gPF L (vAt e 11) 0), (gX L (vAt e 11) 0), (gRI L (cAt L (vAt e 7) 2))))) (.call (spec_ShortRows_l2_g (gI (vAt e 8)) (gI (vAt e 9)) ((gI (vAt e 13)), (gI (cAt L (vAt e 7) 0)), (gI (cAt L (vAt e 7) 1)), (gPF L (vAt e 10) 0), (gX L (vAt e 10) 0), (gPF L (vAt e 11) 0), (gX L (vAt e 11) 0), (gRI L (cAt L (vAt e 7) 2)))) fun x => .sum x (fun b0 => .leaf (spec_ShortRows_l2_X v23 v24 v25 v26 (gI (vAt e 8)) (gI (vAt e 9)) (.inl b0))) (fun c0 => .leaf (spec_ShortRows_l2_X v23 v24 v25 v26 (gI (vAt e 8)) (gI (vAt e 9)) (.inr c0))))
  | 0 => .need (normA 0 spec_ShortRows_l0_kill e L = some (spec_ShortRows_l0_E v23 v24 v25 v26 ((gI (vAt e 8)), (gI (vAt e 9)), (gI (cAt L (vAt e 7) 0)), (gI (cAt L (vAt e 7) 1)), (gRI L (cAt L (vAt e 7) 2))))) (.call (spec_ShortRows_l0_g v23 v24 v25 v26 ((gI (vAt e 8)), (gI (vAt e 9)), (gI (cAt L (vAt e 7) 0)), (gI (cAt L (vAt e 7) 1)), (gRI L (cAt L (vAt e 7) 2)))) fun x => .sum x (fun b0 => .leaf (spec_ShortRows_l0_X v23 v24 v25 v26 (.inl b0))) (fun c0 => .leaf (spec_ShortRows_l0_X v23 v24 v25 v26 (.inr c0))))
  | _ => .fail
noncomputable def spec_ShortRows_tab : List (FuncId × DFn × Bool) := [(36, spec_l06Low_F, true), (37, spec_l00In_F, true), (38, spec_l06Own_F, true), (39, spec_l06Parts_F, true), (24, math_Floor_F, true), (40, spec_l06Take_F, false), (41, spec_l06Dot_F, true), (42, spec_l06Swap_F, false), (43, spec_l00Max_F, true), (44, spec_l06Give_F, true)]
theorem spec_ShortRows_hO : OrcOk Try.prog (tabD spec_ShortRows_tab) (tabM spec_ShortRows_tab) := tabD_cons spec_l06Low_Fok (tabD_cons spec_l00In_Fok (tabD_cons spec_l06Own_Fok (tabD_cons spec_l06Parts_Fok (tabD_cons math_Floor_Fok (tabD_cons spec_l06Take_Fok (tabD_cons spec_l06Dot_Fok (tabD_cons spec_l06Swap_Fok (tabD_cons spec_l00Max_Fok (tabD_cons spec_l06Give_Fok (tabD_nil _))))))))))
theorem spec_ShortRows_l2_be (v23 v24 : Int) (v25 : List Int) (v26 v707 v708 : Int) (s : Int × Int × Int × (List (List Nat)) × (List Nat) × (List (List Nat)) × (List Nat) × (List Int)) : bodyT TT (tabD spec_ShortRows_tab) (tabM spec_ShortRows_tab) (spec_ShortRows_LO v23 v24 v25 v26) 0 spec_ShortRows_l2_kill spec_ShortRows_l2_nx (bodyOf Try.f13 2) 2 (spec_ShortRows_l2_E v23 v24 v25 v26 v707 v708 s) = (spec_ShortRows_l2_T v707 v708 s).bind fun y => .leaf (outS (spec_ShortRows_l2_E v23 v24 v25 v26 v707 v708) (spec_ShortRows_l2_X v23 v24 v25 v26 v707 v708) y) := by kernel_rfl
theorem spec_ShortRows_l2_ok (v23 v24 : Int) (v25 : List Int) (v26 : Int) : LSound Try.prog 0 (spec_ShortRows_LO v23 v24 v25 v26) 2 (bodyOf Try.f13 2) := by
  intro e L out h
  exact lo_ok (E := spec_ShortRows_l2_E v23 v24 v25 v26 (gI (vAt e 8)) (gI (vAt e 9))) (gT := spec_ShortRows_l2_T (gI (vAt e 8)) (gI (vAt e 9))) (X := spec_ShortRows_l2_X v23 v24 v25 v26 (gI (vAt e 8)) (gI (vAt e 9))) (s0 := ((gI (vAt e 13)), (gI (cAt L (vAt e 7) 0)), (gI (cAt L (vAt e 7) 1)), (gPF L (vAt e 10) 0), (gX L (vAt e 10) 0), (gPF L (vAt e 11) 0), (gX L (vAt e 11) 0), (gRI L (cAt L (vAt e 7) 2)))) tok spec_ShortRows_hO mixed (LoopsOk_eq (l := []) (by kernel_rfl) trivial) (spec_ShortRows_l2_be v23 v24 v25 v26 (gI (vAt e 8)) (gI (vAt e 9))) rfl (by intro x; (cases x with | inl b => rfl | inr x => exact rfl)) h
theorem spec_ShortRows_l0_be (v23 v24 : Int) (v25 : List Int) (v26 : Int) (s : Int × Int × Int × Int × (List Int)) : bodyT TT (tabD spec_ShortRows_tab) (tabM spec_ShortRows_tab) (spec_ShortRows_LO v23 v24 v25 v26) 0 spec_ShortRows_l0_kill spec_ShortRows_l0_nx (bodyOf Try.f13 0) 0 (spec_ShortRows_l0_E v23 v24 v25 v26 s) = (spec_ShortRows_l0_T v23 v24 v25 v26 s).bind fun y => .leaf (outS (spec_ShortRows_l0_E v23 v24 v25 v26) (spec_ShortRows_l0_X v23 v24 v25 v26) y) := by kernel_rfl
theorem spec_ShortRows_l0_ok (v23 v24 : Int) (v25 : List Int) (v26 : Int) : LSound Try.prog 0 (spec_ShortRows_LO v23 v24 v25 v26) 0 (bodyOf Try.f13 0) := by
  intro e L out h
  exact lo_ok (E := spec_ShortRows_l0_E v23 v24 v25 v26) (gT := spec_ShortRows_l0_T v23 v24 v25 v26) (X := spec_ShortRows_l0_X v23 v24 v25 v26) (s0 := ((gI (vAt e 8)), (gI (vAt e 9)), (gI (cAt L (vAt e 7) 0)), (gI (cAt L (vAt e 7) 1)), (gRI L (cAt L (vAt e 7) 2)))) tok spec_ShortRows_hO mixed (LoopsOk_eq (l := [(2, bodyOf Try.f13 2)]) (by kernel_rfl) ⟨spec_ShortRows_l2_ok v23 v24 v25 v26, trivial⟩) (spec_ShortRows_l0_be v23 v24 v25 v26) rfl (by intro x; (cases x with | inl b => rfl | inr x => exact rfl)) h
noncomputable def spec_ShortRows_T (v23 v24 : Int) (v25 : List Int) (v26 : Int) : Tree ((Unit) ⊕ (Int × Int × Int × (List Int))) :=
  (.call (spec_l06Low_g v23 v24 v25) fun v47 =>
  (.br (!v47) (
  .leaf (.inl ())
  ) (
  (.br (decide ((4 : Int) < v23)) (
  .leaf (.inl ())
  ) (
  (.br (decide (v24 < v23)) (
  .leaf (.inl ())
  ) (
  (.br (!(spec_l00In_v v26 (0 : Int) (1000 : Int))) (
  .leaf (.inl ())
  ) (
  (.call (spec_l06Own_g v23 v24 v25) fun v51 =>
  (.need (some (spec_ShortRows_l0_E v23 v24 v25 v26 ((1 : Int), (0 : Int), v51.1, v51.2, ([] : List Int) ++ v25)) = some (spec_ShortRows_l0_E v23 v24 v25 v26 ((1 : Int), (0 : Int), v51.1, v51.2, ([] : List Int) ++ v25))) <|
  (.call (spec_ShortRows_l0_g v23 v24 v25 v26 ((1 : Int), (0 : Int), v51.1, v51.2, ([] : List Int) ++ v25)) fun v729 =>
  (.sum v729 (fun v730 =>
  .leaf (.inl ())
  ) (fun v731 =>
  (.call (spec_l06Give_g v731.2.1 v731.2.2.1 v731.2.2.2) fun v736 =>
  (.sum v736 (fun v737 =>
  .leaf (.inl ())
  ) (fun v738 =>
  .leaf (.inr (v738.1, v738.2, v731.1, v731.2.2.2))
  )))
  )))))
  ))
  ))
  ))
  )))

noncomputable def spec_ShortRows_g (v23 v24 : Int) (v25 : List Int) (v26 : Int) : Option ((Unit) ⊕ (Int × Int × Int × (List Int))) := (spec_ShortRows_T v23 v24 v25 v26).run
def spec_ShortRows_enc (v23 v24 : Int) (v25 : List Int) (v26 : Int) (y : (Unit) ⊕ (Int × Int × Int × (List Int))) : Rs := (match y with | .inl y => (.tup [.agg [.int .i64 (0 : Int), .int .i64 (0 : Int), .nilslc], .int .i64 (0 : Int), .lit false], []) | .inr y => (.tup [.agg [.int .i64 y.1, .int .i64 y.2.1, .own 0 0 ((y.2.2.2).length)], .int .i64 y.2.2.1, .lit true], [.row (.i64 y.2.2.2) 0]))
theorem spec_ShortRows_den (v23 v24 : Int) (v25 : List Int) (v26 : Int) : (den TT (tabD spec_ShortRows_tab) (tabM spec_ShortRows_tab) (spec_ShortRows_LO v23 v24 v25 v26) (codeOf Try.f13) ([.agg [.int .i64 v23, .int .i64 v24, .bslc (BR.root 0) (.i64 v25)], .int .i64 v26] ++ List.replicate (Try.f13.ntmps - ([.agg [.int .i64 v23, .int .i64 v24, .bslc (BR.root 0) (.i64 v25)], .int .i64 v26] : List DV).length) .undef) []).bind (retD TT Try.f13.results.toList 0) = (spec_ShortRows_T v23 v24 v25 v26).bind fun y => .leaf (spec_ShortRows_enc v23 v24 v25 v26 y) := by kernel_rfl
theorem spec_ShortRows_fn (v23 v24 : Int) (v25 : List Int) (v26 : Int) (F : Fr) (h0 : St F [] F.H0) (hA : DVs.Ok F [] [.agg [.int .i64 v23, .int .i64 v24, .bslc (BR.root 0) (.i64 v25)], .int .i64 v26]) {y : (Unit) ⊕ (Int × Int × Int × (List Int))} (hy : spec_ShortRows_g v23 v24 v25 v26 = some y) : ∃ F' H', Fwd 0 F F' [] (spec_ShortRows_enc v23 v24 v25 v26 y).2 ∧ FnOk Try.prog 13 (DVs.av F [.agg [.int .i64 v23, .int .i64 v24, .bslc (BR.root 0) (.i64 v25)], .int .i64 v26]) F.H0 ((spec_ShortRows_enc v23 v24 v25 v26 y).1.av F') H' ∧ St F' (spec_ShortRows_enc v23 v24 v25 v26 y).2 H' ∧ (spec_ShortRows_enc v23 v24 v25 v26 y).1.Ok F' (spec_ShortRows_enc v23 v24 v25 v26 y).2 :=
  fn_fin tok spec_ShortRows_hO mixed Try.func13 Try.call13 (by kernel_rfl) (LoopsOk_eq (l := [(0, bodyOf Try.f13 0)]) (by kernel_rfl) ⟨spec_ShortRows_l0_ok v23 v24 v25 v26, trivial⟩) (spec_ShortRows_den v23 v24 v25 v26) hy h0 hA
noncomputable def spec_ShortRows_F : DFn := fun args L =>
  match args with
  | [.agg [.int .i64 v23, .int .i64 v24, a1], .int .i64 v26] =>
    optT (rowI64 L a1) fun v25 =>
    .call (spec_ShortRows_g v23 v24 v25 v26) fun y => .sum y (fun y0 => .leaf (.tup [.agg [.int .i64 (0 : Int), .int .i64 (0 : Int), .nilslc], .int .i64 (0 : Int), .lit false], L)) (fun z0 => .leaf (.tup [.agg [.int .i64 z0.1, .int .i64 z0.2.1, .own (L.length + 0) 0 ((z0.2.2.2).length)], .int .i64 z0.2.2.1, .lit true], L ++ [.row (.i64 z0.2.2.2) 0]))
  | _ => .fail
theorem spec_ShortRows_Fok : COk Try.prog 13 spec_ShortRows_F true := by
  intro F L H args r L' hs ha hr
  unfold spec_ShortRows_F at hr
  split at hr
  · rename_i v23 v24 a1 v26
    obtain ⟨v25, hv25, hr⟩ := optT_run hr
    simp only [Tree.run] at hr
    obtain ⟨y, hy, hr⟩ := Option.bind_eq_some_iff.1 hr
    cases y with
    | inl y =>
      simp only [Tree.run, Option.some.injEq, Prod.mk.injEq] at hr
      obtain ⟨rfl, rfl⟩ := hr
      exact call_ok0 hs (fun k => (([a1.av F] : List AV)[k]?).getD .top) [.agg [.int .i64 v23, .int .i64 v24, a1], .int .i64 v26] [.agg [.int .i64 v23, .int .i64 v24, .bslc (BR.root 0) (.i64 v25)], .int .i64 v26] (fun F' h0 hi hρ => ⟨by simp [DVs.av, DV.av, BR.av, hρ], spec_ShortRows_fn v23 v24 v25 v26 F' (st_nil hi) ⟨⟨trivial, trivial, bslc_ok hi (by rw [h0, hρ]; exact rowI64_ok hs (DVs.okAt (DVs.okAt ha 0 rfl) 2 rfl) hv25), trivial⟩, trivial, trivial⟩ hy⟩) rfl
    | inr y =>
      simp only [Tree.run, Option.some.injEq, Prod.mk.injEq] at hr
      obtain ⟨rfl, rfl⟩ := hr
      exact call_ok1 hs (fun k => (([a1.av F] : List AV)[k]?).getD .top) [.agg [.int .i64 v23, .int .i64 v24, a1], .int .i64 v26] [.agg [.int .i64 v23, .int .i64 v24, .bslc (BR.root 0) (.i64 v25)], .int .i64 v26] (fun F' h0 hi hρ => ⟨by simp [DVs.av, DV.av, BR.av, hρ], spec_ShortRows_fn v23 v24 v25 v26 F' (st_nil hi) ⟨⟨trivial, trivial, bslc_ok hi (by rw [h0, hρ]; exact rowI64_ok hs (DVs.okAt (DVs.okAt ha 0 rfl) 2 rfl) hv25), trivial⟩, trivial, trivial⟩ hy⟩) rfl rfl
  · cases hr
/-! impl.inRange -/
noncomputable def impl_inRange_LO (v754 v755 v756 : Int) : LOr := fun id e L =>
  match id with
  | _ => .fail
noncomputable def impl_inRange_tab : List (FuncId × DFn × Bool) := []
theorem impl_inRange_hO : OrcOk Try.prog (tabD impl_inRange_tab) (tabM impl_inRange_tab) := tabD_nil _
noncomputable def impl_inRange_T (v754 v755 v756 : Int) : Tree (Bool) :=
  (.br (decide (v755 ≤ v754)) (
  .leaf (decide (v754 ≤ v756))
  ) (
  .leaf false
  ))

noncomputable def impl_inRange_g (v754 v755 v756 : Int) : Option (Bool) := (impl_inRange_T v754 v755 v756).run
def impl_inRange_enc (v754 v755 v756 : Int) (y : Bool) : Rs := (.bool y, [])
theorem impl_inRange_den (v754 v755 v756 : Int) : (den TT (tabD impl_inRange_tab) (tabM impl_inRange_tab) (impl_inRange_LO v754 v755 v756) (codeOf Try.f21) ([.int .i64 v754, .int .i64 v755, .int .i64 v756] ++ List.replicate (Try.f21.ntmps - ([.int .i64 v754, .int .i64 v755, .int .i64 v756] : List DV).length) .undef) []).bind (retD TT Try.f21.results.toList 0) = (impl_inRange_T v754 v755 v756).bind fun y => .leaf (impl_inRange_enc v754 v755 v756 y) := by kernel_rfl
theorem impl_inRange_fn (v754 v755 v756 : Int) (F : Fr) (h0 : St F [] F.H0) (hA : DVs.Ok F [] [.int .i64 v754, .int .i64 v755, .int .i64 v756]) {y : Bool} (hy : impl_inRange_g v754 v755 v756 = some y) : ∃ F' H', Fwd 0 F F' [] (impl_inRange_enc v754 v755 v756 y).2 ∧ FnOk Try.prog 21 (DVs.av F [.int .i64 v754, .int .i64 v755, .int .i64 v756]) F.H0 ((impl_inRange_enc v754 v755 v756 y).1.av F') H' ∧ St F' (impl_inRange_enc v754 v755 v756 y).2 H' ∧ (impl_inRange_enc v754 v755 v756 y).1.Ok F' (impl_inRange_enc v754 v755 v756 y).2 :=
  fn_fin tok impl_inRange_hO mixed Try.func21 Try.call21 (by kernel_rfl) (LoopsOk_eq (l := []) (by kernel_rfl) trivial) (impl_inRange_den v754 v755 v756) hy h0 hA
def impl_inRange_v (v754 v755 v756 : Int) : Bool :=
  if (decide (v755 ≤ v754)) = true then (
  decide (v754 ≤ v756)
  ) else (
  false
  )
theorem impl_inRange_tot (v754 v755 v756 : Int) : impl_inRange_g v754 v755 v756 = some (impl_inRange_v v754 v755 v756) := by
  unfold impl_inRange_g impl_inRange_T impl_inRange_v
  simp only [Tree.run]
  repeat' (first | rfl | split)
noncomputable def impl_inRange_F : DFn := fun args L =>
  match args with
  | [.int .i64 v754, .int .i64 v755, .int .i64 v756] =>
    .leaf (.bool (impl_inRange_v v754 v755 v756), L)
  | _ => .fail
theorem impl_inRange_Fok : COk Try.prog 21 impl_inRange_F true := by
  intro F L H args r L' hs ha hr
  unfold impl_inRange_F at hr
  split at hr
  · rename_i v754 v755 v756
    have hy := impl_inRange_tot v754 v755 v756
    generalize impl_inRange_v v754 v755 v756 = y at hy hr
    simp only [Tree.run, Option.some.injEq, Prod.mk.injEq] at hr
    obtain ⟨rfl, rfl⟩ := hr
    exact call_ok0 hs (fun k => (([] : List AV)[k]?).getD .top) [.int .i64 v754, .int .i64 v755, .int .i64 v756] [.int .i64 v754, .int .i64 v755, .int .i64 v756] (fun F' h0 hi hρ => ⟨by simp [DVs.av, DV.av, BR.av, hρ], impl_inRange_fn v754 v755 v756 F' (st_nil hi) ⟨trivial, trivial, trivial, trivial⟩ hy⟩) rfl
  · cases hr
/-! impl.length[int64] -/
noncomputable def impl_lengthI_LO (v757 : List Int) : LOr := fun id e L =>
  match id with
  | _ => .fail
noncomputable def impl_lengthI_tab : List (FuncId × DFn × Bool) := []
theorem impl_lengthI_hO : OrcOk Try.prog (tabD impl_lengthI_tab) (tabM impl_lengthI_tab) := tabD_nil _
noncomputable def impl_lengthI_T (v757 : List Int) : Tree (Int) :=
  .leaf ((v757.length : Nat) : Int)

noncomputable def impl_lengthI_g (v757 : List Int) : Option (Int) := (impl_lengthI_T v757).run
def impl_lengthI_enc (v757 : List Int) (y : Int) : Rs := (.int .i64 y, [])
theorem impl_lengthI_den (v757 : List Int) : (den TT (tabD impl_lengthI_tab) (tabM impl_lengthI_tab) (impl_lengthI_LO v757) (codeOf Try.f60) ([.bslc (BR.root 0) (.i64 v757)] ++ List.replicate (Try.f60.ntmps - ([.bslc (BR.root 0) (.i64 v757)] : List DV).length) .undef) []).bind (retD TT Try.f60.results.toList 0) = (impl_lengthI_T v757).bind fun y => .leaf (impl_lengthI_enc v757 y) := by kernel_rfl
theorem impl_lengthI_fn (v757 : List Int) (F : Fr) (h0 : St F [] F.H0) (hA : DVs.Ok F [] [.bslc (BR.root 0) (.i64 v757)]) {y : Int} (hy : impl_lengthI_g v757 = some y) : ∃ F' H', Fwd 0 F F' [] (impl_lengthI_enc v757 y).2 ∧ FnOk Try.prog 60 (DVs.av F [.bslc (BR.root 0) (.i64 v757)]) F.H0 ((impl_lengthI_enc v757 y).1.av F') H' ∧ St F' (impl_lengthI_enc v757 y).2 H' ∧ (impl_lengthI_enc v757 y).1.Ok F' (impl_lengthI_enc v757 y).2 :=
  fn_fin tok impl_lengthI_hO mixed Try.func60 Try.call60 (by kernel_rfl) (LoopsOk_eq (l := []) (by kernel_rfl) trivial) (impl_lengthI_den v757) hy h0 hA
def impl_lengthI_v (v757 : List Int) : Int :=
  ((v757.length : Nat) : Int)
theorem impl_lengthI_tot (v757 : List Int) : impl_lengthI_g v757 = some (impl_lengthI_v v757) := by
  unfold impl_lengthI_g impl_lengthI_T impl_lengthI_v
  simp only [Tree.run]
  repeat' (first | rfl | split)
noncomputable def impl_lengthI_F : DFn := fun args L =>
  match args with
  | [a1] =>
    optT (rowI64 L a1) fun v757 =>
    .leaf (.int .i64 (impl_lengthI_v v757), L)
  | _ => .fail
theorem impl_lengthI_Fok : COk Try.prog 60 impl_lengthI_F true := by
  intro F L H args r L' hs ha hr
  unfold impl_lengthI_F at hr
  split at hr
  · rename_i a1
    obtain ⟨v757, hv757, hr⟩ := optT_run hr
    have hy := impl_lengthI_tot v757
    generalize impl_lengthI_v v757 = y at hy hr
    simp only [Tree.run, Option.some.injEq, Prod.mk.injEq] at hr
    obtain ⟨rfl, rfl⟩ := hr
    exact call_ok0 hs (fun k => (([a1.av F] : List AV)[k]?).getD .top) [a1] [.bslc (BR.root 0) (.i64 v757)] (fun F' h0 hi hρ => ⟨by simp [DVs.av, DV.av, BR.av, hρ], impl_lengthI_fn v757 F' (st_nil hi) ⟨bslc_ok hi (by rw [h0, hρ]; exact rowI64_ok hs (DVs.okAt ha 0 rfl) hv757), trivial⟩ hy⟩) rfl
  · cases hr
/-! impl.allIn$1 -/
noncomputable def impl_allIn_1_LO (v768 v769 v770 : Int) : LOr := fun id e L =>
  match id with
  | _ => .fail
noncomputable def impl_allIn_1_tab : List (FuncId × DFn × Bool) := [(21, impl_inRange_F, true)]
theorem impl_allIn_1_hO : OrcOk Try.prog (tabD impl_allIn_1_tab) (tabM impl_allIn_1_tab) := tabD_cons impl_inRange_Fok (tabD_nil _)
noncomputable def impl_allIn_1_T (v768 v769 v770 : Int) : Tree (Bool) :=
  .leaf (!(impl_inRange_v v768 v769 v770))

noncomputable def impl_allIn_1_g (v768 v769 v770 : Int) : Option (Bool) := (impl_allIn_1_T v768 v769 v770).run
def impl_allIn_1_enc (v768 v769 v770 : Int) (y : Bool) : Rs := (.bool y, [])
theorem impl_allIn_1_den (v768 v769 v770 : Int) : (den TT (tabD impl_allIn_1_tab) (tabM impl_allIn_1_tab) (impl_allIn_1_LO v768 v769 v770) (codeOf Try.f69) ([.int .i64 v768, .bptr (BR.root 0) [.int .i64 v769], .bptr (BR.root 1) [.int .i64 v770]] ++ List.replicate (Try.f69.ntmps - ([.int .i64 v768, .bptr (BR.root 0) [.int .i64 v769], .bptr (BR.root 1) [.int .i64 v770]] : List DV).length) .undef) []).bind (retD TT Try.f69.results.toList 0) = (impl_allIn_1_T v768 v769 v770).bind fun y => .leaf (impl_allIn_1_enc v768 v769 v770 y) := by kernel_rfl
theorem impl_allIn_1_fn (v768 v769 v770 : Int) (F : Fr) (h0 : St F [] F.H0) (hA : DVs.Ok F [] [.int .i64 v768, .bptr (BR.root 0) [.int .i64 v769], .bptr (BR.root 1) [.int .i64 v770]]) {y : Bool} (hy : impl_allIn_1_g v768 v769 v770 = some y) : ∃ F' H', Fwd 0 F F' [] (impl_allIn_1_enc v768 v769 v770 y).2 ∧ FnOk Try.prog 69 (DVs.av F [.int .i64 v768, .bptr (BR.root 0) [.int .i64 v769], .bptr (BR.root 1) [.int .i64 v770]]) F.H0 ((impl_allIn_1_enc v768 v769 v770 y).1.av F') H' ∧ St F' (impl_allIn_1_enc v768 v769 v770 y).2 H' ∧ (impl_allIn_1_enc v768 v769 v770 y).1.Ok F' (impl_allIn_1_enc v768 v769 v770 y).2 :=
  fn_fin tok impl_allIn_1_hO mixed Try.func69 Try.call69 (by kernel_rfl) (LoopsOk_eq (l := []) (by kernel_rfl) trivial) (impl_allIn_1_den v768 v769 v770) hy h0 hA
def impl_allIn_1_v (v768 v769 v770 : Int) : Bool :=
  !(impl_inRange_v v768 v769 v770)
theorem impl_allIn_1_tot (v768 v769 v770 : Int) : impl_allIn_1_g v768 v769 v770 = some (impl_allIn_1_v v768 v769 v770) := by
  unfold impl_allIn_1_g impl_allIn_1_T impl_allIn_1_v
  simp only [Tree.run]
  repeat' (first | rfl | split)
noncomputable def impl_allIn_1_F : DFn := fun args L =>
  match args with
  | [.int .i64 v768, a1, a2] =>
    optT (cellsOf L 1 a1) fun cs0 =>
    (match cs0 with
    | [.int .i64 v769] =>
    optT (cellsOf L 1 a2) fun cs1 =>
    (match cs1 with
    | [.int .i64 v770] =>
    .leaf (.bool (impl_allIn_1_v v768 v769 v770), L)
    | _ => .fail)
    | _ => .fail)
  | _ => .fail
theorem impl_allIn_1_Fok : COk Try.prog 69 impl_allIn_1_F true := by
  intro F L H args r L' hs ha hr
  unfold impl_allIn_1_F at hr
  split at hr
  · rename_i v768 a1 a2
    obtain ⟨cs0, hcp0, hr⟩ := optT_run hr
    split at hr
    · rename_i v769
      obtain ⟨cs1, hcp1, hr⟩ := optT_run hr
      split at hr
      · rename_i v770
        have hy := impl_allIn_1_tot v768 v769 v770
        generalize impl_allIn_1_v v768 v769 v770 = y at hy hr
        simp only [Tree.run, Option.some.injEq, Prod.mk.injEq] at hr
        obtain ⟨rfl, rfl⟩ := hr
        exact call_ok0 hs (fun k => (([a1.av F, a2.av F] : List AV)[k]?).getD .top) [.int .i64 v768, a1, a2] [.int .i64 v768, .bptr (BR.root 0) [.int .i64 v769], .bptr (BR.root 1) [.int .i64 v770]] (fun F' h0 hi hρ => ⟨by simp [DVs.av, DV.av, BR.av, hρ], impl_allIn_1_fn v768 v769 v770 F' (st_nil hi) ⟨trivial, bptr_ok hi (by rw [h0]; simpa [DVs.av, DV.av, BR.av, hρ] using (cellsOf_ok hs (DVs.okAt ha 1 rfl) hcp0).1) ⟨trivial, trivial⟩, bptr_ok hi (by rw [h0]; simpa [DVs.av, DV.av, BR.av, hρ] using (cellsOf_ok hs (DVs.okAt ha 2 rfl) hcp1).1) ⟨trivial, trivial⟩, trivial⟩ hy⟩) rfl
      · cases hr
    · cases hr
  · cases hr
/-! slices.IndexFunc[list of int64,int64] -/
noncomputable def slices_IndexFuncI_l0_T (v764 : List Int) (v765 v766 s : Int) : Tree ((Int) ⊕ ((Int) ⊕ (Unit))) :=
  (.br (decide (s < ((v764.length : Nat) : Int))) (
  (.grd (inb s v764.length) <|
  (.br (impl_allIn_1_v (nth v764 (Int.toNat s)) v765 v766) (
  .leaf (.inr (.inl s))
  ) (
  .leaf (.inl (IntKind.i64.wrap (s + (1 : Int))))
  )))
  ) (
  .leaf (.inr (.inr ()))
  ))

noncomputable def slices_IndexFuncI_l0_g (v764 : List Int) (v765 v766 s0 : Int) : Option ((Int) ⊕ (Unit)) := whileM (fun s => (slices_IndexFuncI_l0_T v764 v765 v766 s).run) s0
def slices_IndexFuncI_l0_E (v764 : List Int) (v765 v766 s : Int) : Sd := ([.bslc (BR.root 0) (.i64 v764),.fn 69 [.bptr (BR.root 1) [.int .i64 v765], .bptr (BR.root 2) [.int .i64 v766]],Z,Z,Z,Z,Z,.int .i64 ((v764.length : Nat) : Int),.int .i64 s,Z,Z,Z,Z,Z,Z,Z,Z,Z,Z], [])
def slices_IndexFuncI_l0_X (v764 : List Int) (v765 v766 : Int) (x : (Int) ⊕ (Unit)) : Out := (match x with | .inl x => (.ret, [Z,Z,Z,Z,.int .i64 x,Z,Z,Z,Z,Z,Z,Z,Z,Z,Z,Z,Z,Z,Z], []) | .inr x => (.normal, [Z,Z,Z,Z,Z,Z,Z,Z,Z,Z,Z,Z,Z,Z,Z,Z,Z,Z,Z], []))
def slices_IndexFuncI_l0_kill : List Nat := KL true [0,2,5,2,10]
def slices_IndexFuncI_l0_nx : Exit → List Nat
  | .exit 0 => KL true [19]
  | .ret => KL true [4,1,14]
  | _ => []
noncomputable def slices_IndexFuncI_LO (v764 : List Int) (v765 v766 : Int) : LOr := fun id e L =>
  match id with
  | 0 => .need (normA 0 slices_IndexFuncI_l0_kill e L = some (slices_IndexFuncI_l0_E v764 v765 v766 (gI (vAt e 8)))) (.call (slices_IndexFuncI_l0_g v764 v765 v766 (gI (vAt e 8))) fun x => .sum x (fun b0 => .leaf (slices_IndexFuncI_l0_X v764 v765 v766 (.inl b0))) (fun c0 => .leaf (slices_IndexFuncI_l0_X v764 v765 v766 (.inr c0))))
  | _ => .fail
noncomputable def slices_IndexFuncI_tab : List (FuncId × DFn × Bool) := [(69, impl_allIn_1_F, true)]
theorem slices_IndexFuncI_hO : OrcOk Try.prog (tabD slices_IndexFuncI_tab) (tabM slices_IndexFuncI_tab) := tabD_cons impl_allIn_1_Fok (tabD_nil _)
theorem slices_IndexFuncI_l0_be (v764 : List Int) (v765 v766 s : Int) : bodyT TT (tabD slices_IndexFuncI_tab) (tabM slices_IndexFuncI_tab) (slices_IndexFuncI_LO v764 v765 v766) 0 slices_IndexFuncI_l0_kill slices_IndexFuncI_l0_nx (bodyOf Try.f73 0) 0 (slices_IndexFuncI_l0_E v764 v765 v766 s) = (slices_IndexFuncI_l0_T v764 v765 v766 s).bind fun y => .leaf (outS (slices_IndexFuncI_l0_E v764 v765 v766) (slices_IndexFuncI_l0_X v764 v765 v766) y) := by kernel_rfl
theorem slices_IndexFuncI_l0_ok (v764 : List Int) (v765 v766 : Int) : LSound Try.prog 0 (slices_IndexFuncI_LO v764 v765 v766) 0 (bodyOf Try.f73 0) := by
  intro e L out h
  exact lo_ok (E := slices_IndexFuncI_l0_E v764 v765 v766) (gT := slices_IndexFuncI_l0_T v764 v765 v766) (X := slices_IndexFuncI_l0_X v764 v765 v766) (s0 := (gI (vAt e 8))) tok slices_IndexFuncI_hO mixed (LoopsOk_eq (l := []) (by kernel_rfl) trivial) (slices_IndexFuncI_l0_be v764 v765 v766) rfl (by intro x; (cases x with | inl b => rfl | inr x => exact rfl)) h
noncomputable def slices_IndexFuncI_T (v764 : List Int) (v765 v766 : Int) : Tree (Int) :=
  (.need (some (slices_IndexFuncI_l0_E v764 v765 v766 (0 : Int)) = some (slices_IndexFuncI_l0_E v764 v765 v766 (0 : Int))) <|
  (.call (slices_IndexFuncI_l0_g v764 v765 v766 (0 : Int)) fun v773 =>
  (.sum v773 (fun v774 =>
  .leaf v774
  ) (fun v775 =>
  .leaf (-1 : Int)
  ))))

noncomputable def slices_IndexFuncI_g (v764 : List Int) (v765 v766 : Int) : Option (Int) := (slices_IndexFuncI_T v764 v765 v766).run
def slices_IndexFuncI_enc (v764 : List Int) (v765 v766 y : Int) : Rs := (.int .i64 y, [])
theorem slices_IndexFuncI_den (v764 : List Int) (v765 v766 : Int) : (den TT (tabD slices_IndexFuncI_tab) (tabM slices_IndexFuncI_tab) (slices_IndexFuncI_LO v764 v765 v766) (codeOf Try.f73) ([.bslc (BR.root 0) (.i64 v764), .fn 69 [.bptr (BR.root 1) [.int .i64 v765], .bptr (BR.root 2) [.int .i64 v766]]] ++ List.replicate (Try.f73.ntmps - ([.bslc (BR.root 0) (.i64 v764), .fn 69 [.bptr (BR.root 1) [.int .i64 v765], .bptr (BR.root 2) [.int .i64 v766]]] : List DV).length) .undef) []).bind (retD TT Try.f73.results.toList 0) = (slices_IndexFuncI_T v764 v765 v766).bind fun y => .leaf (slices_IndexFuncI_enc v764 v765 v766 y) := by kernel_rfl
theorem slices_IndexFuncI_fn (v764 : List Int) (v765 v766 : Int) (F : Fr) (h0 : St F [] F.H0) (hA : DVs.Ok F [] [.bslc (BR.root 0) (.i64 v764), .fn 69 [.bptr (BR.root 1) [.int .i64 v765], .bptr (BR.root 2) [.int .i64 v766]]]) {y : Int} (hy : slices_IndexFuncI_g v764 v765 v766 = some y) : ∃ F' H', Fwd 0 F F' [] (slices_IndexFuncI_enc v764 v765 v766 y).2 ∧ FnOk Try.prog 73 (DVs.av F [.bslc (BR.root 0) (.i64 v764), .fn 69 [.bptr (BR.root 1) [.int .i64 v765], .bptr (BR.root 2) [.int .i64 v766]]]) F.H0 ((slices_IndexFuncI_enc v764 v765 v766 y).1.av F') H' ∧ St F' (slices_IndexFuncI_enc v764 v765 v766 y).2 H' ∧ (slices_IndexFuncI_enc v764 v765 v766 y).1.Ok F' (slices_IndexFuncI_enc v764 v765 v766 y).2 :=
  fn_fin tok slices_IndexFuncI_hO mixed Try.func73 Try.call73 (by kernel_rfl) (LoopsOk_eq (l := [(0, bodyOf Try.f73 0)]) (by kernel_rfl) ⟨slices_IndexFuncI_l0_ok v764 v765 v766, trivial⟩) (slices_IndexFuncI_den v764 v765 v766) hy h0 hA
noncomputable def slices_IndexFuncI_F : DFn := fun args L =>
  match args with
  | [a1, .fn 69 [a2, a3]] =>
    optT (rowI64 L a1) fun v764 =>
    optT (cellsOf L 1 a2) fun cs1 =>
    (match cs1 with
    | [.int .i64 v765] =>
    optT (cellsOf L 1 a3) fun cs2 =>
    (match cs2 with
    | [.int .i64 v766] =>
    .call (slices_IndexFuncI_g v764 v765 v766) fun y => .leaf (.int .i64 y, L)
    | _ => .fail)
    | _ => .fail)
  | _ => .fail
theorem slices_IndexFuncI_Fok : COk Try.prog 73 slices_IndexFuncI_F true := by
  intro F L H args r L' hs ha hr
  unfold slices_IndexFuncI_F at hr
  split at hr
  · rename_i a1 a2 a3
    obtain ⟨v764, hv764, hr⟩ := optT_run hr
    obtain ⟨cs1, hcp1, hr⟩ := optT_run hr
    split at hr
    · rename_i v765
      obtain ⟨cs2, hcp2, hr⟩ := optT_run hr
      split at hr
      · rename_i v766
        simp only [Tree.run] at hr
        obtain ⟨y, hy, hr⟩ := Option.bind_eq_some_iff.1 hr
        simp only [Tree.run, Option.some.injEq, Prod.mk.injEq] at hr
        obtain ⟨rfl, rfl⟩ := hr
        exact call_ok0 hs (fun k => (([a1.av F, a2.av F, a3.av F] : List AV)[k]?).getD .top) [a1, .fn 69 [a2, a3]] [.bslc (BR.root 0) (.i64 v764), .fn 69 [.bptr (BR.root 1) [.int .i64 v765], .bptr (BR.root 2) [.int .i64 v766]]] (fun F' h0 hi hρ => ⟨by simp [DVs.av, DV.av, BR.av, hρ], slices_IndexFuncI_fn v764 v765 v766 F' (st_nil hi) ⟨bslc_ok hi (by rw [h0, hρ]; exact rowI64_ok hs (DVs.okAt ha 0 rfl) hv764), ⟨bptr_ok hi (by rw [h0]; simpa [DVs.av, DV.av, BR.av, hρ] using (cellsOf_ok hs (DVs.okAt (DVs.okAt ha 1 rfl) 0 rfl) hcp1).1) ⟨trivial, trivial⟩, bptr_ok hi (by rw [h0]; simpa [DVs.av, DV.av, BR.av, hρ] using (cellsOf_ok hs (DVs.okAt (DVs.okAt ha 1 rfl) 1 rfl) hcp2).1) ⟨trivial, trivial⟩, trivial⟩, trivial⟩ hy⟩) rfl
      · cases hr
    · cases hr
  · cases hr
/-! slices.ContainsFunc[list of int64,int64] -/
noncomputable def slices_ContainsFuncI_LO (v761 : List Int) (v762 v763 : Int) : LOr := fun id e L =>
  match id with
  | _ => .fail
noncomputable def slices_ContainsFuncI_tab : List (FuncId × DFn × Bool) := [(73, slices_IndexFuncI_F, true)]
theorem slices_ContainsFuncI_hO : OrcOk Try.prog (tabD slices_ContainsFuncI_tab) (tabM slices_ContainsFuncI_tab) := tabD_cons slices_IndexFuncI_Fok (tabD_nil _)
noncomputable def slices_ContainsFuncI_T (v761 : List Int) (v762 v763 : Int) : Tree (Bool) :=
  (.call (slices_IndexFuncI_g v761 v762 v763) fun v776 =>
  .leaf (decide ((0 : Int) ≤ v776)))

noncomputable def slices_ContainsFuncI_g (v761 : List Int) (v762 v763 : Int) : Option (Bool) := (slices_ContainsFuncI_T v761 v762 v763).run
def slices_ContainsFuncI_enc (v761 : List Int) (v762 v763 : Int) (y : Bool) : Rs := (.bool y, [])
theorem slices_ContainsFuncI_den (v761 : List Int) (v762 v763 : Int) : (den TT (tabD slices_ContainsFuncI_tab) (tabM slices_ContainsFuncI_tab) (slices_ContainsFuncI_LO v761 v762 v763) (codeOf Try.f68) ([.bslc (BR.root 0) (.i64 v761), .fn 69 [.bptr (BR.root 1) [.int .i64 v762], .bptr (BR.root 2) [.int .i64 v763]]] ++ List.replicate (Try.f68.ntmps - ([.bslc (BR.root 0) (.i64 v761), .fn 69 [.bptr (BR.root 1) [.int .i64 v762], .bptr (BR.root 2) [.int .i64 v763]]] : List DV).length) .undef) []).bind (retD TT Try.f68.results.toList 0) = (slices_ContainsFuncI_T v761 v762 v763).bind fun y => .leaf (slices_ContainsFuncI_enc v761 v762 v763 y) := by kernel_rfl
theorem slices_ContainsFuncI_fn (v761 : List Int) (v762 v763 : Int) (F : Fr) (h0 : St F [] F.H0) (hA : DVs.Ok F [] [.bslc (BR.root 0) (.i64 v761), .fn 69 [.bptr (BR.root 1) [.int .i64 v762], .bptr (BR.root 2) [.int .i64 v763]]]) {y : Bool} (hy : slices_ContainsFuncI_g v761 v762 v763 = some y) : ∃ F' H', Fwd 0 F F' [] (slices_ContainsFuncI_enc v761 v762 v763 y).2 ∧ FnOk Try.prog 68 (DVs.av F [.bslc (BR.root 0) (.i64 v761), .fn 69 [.bptr (BR.root 1) [.int .i64 v762], .bptr (BR.root 2) [.int .i64 v763]]]) F.H0 ((slices_ContainsFuncI_enc v761 v762 v763 y).1.av F') H' ∧ St F' (slices_ContainsFuncI_enc v761 v762 v763 y).2 H' ∧ (slices_ContainsFuncI_enc v761 v762 v763 y).1.Ok F' (slices_ContainsFuncI_enc v761 v762 v763 y).2 :=
  fn_fin tok slices_ContainsFuncI_hO mixed Try.func68 Try.call68 (by kernel_rfl) (LoopsOk_eq (l := []) (by kernel_rfl) trivial) (slices_ContainsFuncI_den v761 v762 v763) hy h0 hA
noncomputable def slices_ContainsFuncI_F : DFn := fun args L =>
  match args with
  | [a1, .fn 69 [a2, a3]] =>
    optT (rowI64 L a1) fun v761 =>
    optT (cellsOf L 1 a2) fun cs1 =>
    (match cs1 with
    | [.int .i64 v762] =>
    optT (cellsOf L 1 a3) fun cs2 =>
    (match cs2 with
    | [.int .i64 v763] =>
    .call (slices_ContainsFuncI_g v761 v762 v763) fun y => .leaf (.bool y, L)
    | _ => .fail)
    | _ => .fail)
  | _ => .fail
theorem slices_ContainsFuncI_Fok : COk Try.prog 68 slices_ContainsFuncI_F true := by
  intro F L H args r L' hs ha hr
  unfold slices_ContainsFuncI_F at hr
  split at hr
  · rename_i a1 a2 a3
    obtain ⟨v761, hv761, hr⟩ := optT_run hr
    obtain ⟨cs1, hcp1, hr⟩ := optT_run hr
    split at hr
    · rename_i v762
      obtain ⟨cs2, hcp2, hr⟩ := optT_run hr
      split at hr
      · rename_i v763
        simp only [Tree.run] at hr
        obtain ⟨y, hy, hr⟩ := Option.bind_eq_some_iff.1 hr
        simp only [Tree.run, Option.some.injEq, Prod.mk.injEq] at hr
        obtain ⟨rfl, rfl⟩ := hr
        exact call_ok0 hs (fun k => (([a1.av F, a2.av F, a3.av F] : List AV)[k]?).getD .top) [a1, .fn 69 [a2, a3]] [.bslc (BR.root 0) (.i64 v761), .fn 69 [.bptr (BR.root 1) [.int .i64 v762], .bptr (BR.root 2) [.int .i64 v763]]] (fun F' h0 hi hρ => ⟨by simp [DVs.av, DV.av, BR.av, hρ], slices_ContainsFuncI_fn v761 v762 v763 F' (st_nil hi) ⟨bslc_ok hi (by rw [h0, hρ]; exact rowI64_ok hs (DVs.okAt ha 0 rfl) hv761), ⟨bptr_ok hi (by rw [h0]; simpa [DVs.av, DV.av, BR.av, hρ] using (cellsOf_ok hs (DVs.okAt (DVs.okAt ha 1 rfl) 0 rfl) hcp1).1) ⟨trivial, trivial⟩, bptr_ok hi (by rw [h0]; simpa [DVs.av, DV.av, BR.av, hρ] using (cellsOf_ok hs (DVs.okAt (DVs.okAt ha 1 rfl) 1 rfl) hcp2).1) ⟨trivial, trivial⟩, trivial⟩, trivial⟩ hy⟩) rfl
      · cases hr
    · cases hr
  · cases hr
/-! impl.allIn -/
noncomputable def impl_allIn_LO (v758 : List Int) (v759 v760 : Int) : LOr := fun id e L =>
  match id with
  | _ => .fail
noncomputable def impl_allIn_tab : List (FuncId × DFn × Bool) := [(68, slices_ContainsFuncI_F, true)]
theorem impl_allIn_hO : OrcOk Try.prog (tabD impl_allIn_tab) (tabM impl_allIn_tab) := tabD_cons slices_ContainsFuncI_Fok (tabD_nil _)
noncomputable def impl_allIn_T (v758 : List Int) (v759 v760 : Int) : Tree (Bool) :=
  (.call (slices_ContainsFuncI_g v758 v759 v760) fun v777 =>
  .leaf (!v777))

noncomputable def impl_allIn_g (v758 : List Int) (v759 v760 : Int) : Option (Bool) := (impl_allIn_T v758 v759 v760).run
def impl_allIn_enc (v758 : List Int) (v759 v760 : Int) (y : Bool) : Rs := (.bool y, [])
theorem impl_allIn_den (v758 : List Int) (v759 v760 : Int) : (den TT (tabD impl_allIn_tab) (tabM impl_allIn_tab) (impl_allIn_LO v758 v759 v760) (codeOf Try.f61) ([.bslc (BR.root 0) (.i64 v758), .int .i64 v759, .int .i64 v760] ++ List.replicate (Try.f61.ntmps - ([.bslc (BR.root 0) (.i64 v758), .int .i64 v759, .int .i64 v760] : List DV).length) .undef) []).bind (retD TT Try.f61.results.toList 0) = (impl_allIn_T v758 v759 v760).bind fun y => .leaf (impl_allIn_enc v758 v759 v760 y) := by kernel_rfl
theorem impl_allIn_fn (v758 : List Int) (v759 v760 : Int) (F : Fr) (h0 : St F [] F.H0) (hA : DVs.Ok F [] [.bslc (BR.root 0) (.i64 v758), .int .i64 v759, .int .i64 v760]) {y : Bool} (hy : impl_allIn_g v758 v759 v760 = some y) : ∃ F' H', Fwd 0 F F' [] (impl_allIn_enc v758 v759 v760 y).2 ∧ FnOk Try.prog 61 (DVs.av F [.bslc (BR.root 0) (.i64 v758), .int .i64 v759, .int .i64 v760]) F.H0 ((impl_allIn_enc v758 v759 v760 y).1.av F') H' ∧ St F' (impl_allIn_enc v758 v759 v760 y).2 H' ∧ (impl_allIn_enc v758 v759 v760 y).1.Ok F' (impl_allIn_enc v758 v759 v760 y).2 :=
  fn_fin tok impl_allIn_hO mixed Try.func61 Try.call61 (by kernel_rfl) (LoopsOk_eq (l := []) (by kernel_rfl) trivial) (impl_allIn_den v758 v759 v760) hy h0 hA
noncomputable def impl_allIn_F : DFn := fun args L =>
  match args with
  | [a1, .int .i64 v759, .int .i64 v760] =>
    optT (rowI64 L a1) fun v758 =>
    .call (impl_allIn_g v758 v759 v760) fun y => .leaf (.bool y, L)
  | _ => .fail
theorem impl_allIn_Fok : COk Try.prog 61 impl_allIn_F true := by
  intro F L H args r L' hs ha hr
  unfold impl_allIn_F at hr
  split at hr
  · rename_i a1 v759 v760
    obtain ⟨v758, hv758, hr⟩ := optT_run hr
    simp only [Tree.run] at hr
    obtain ⟨y, hy, hr⟩ := Option.bind_eq_some_iff.1 hr
    simp only [Tree.run, Option.some.injEq, Prod.mk.injEq] at hr
    obtain ⟨rfl, rfl⟩ := hr
    exact call_ok0 hs (fun k => (([a1.av F] : List AV)[k]?).getD .top) [a1, .int .i64 v759, .int .i64 v760] [.bslc (BR.root 0) (.i64 v758), .int .i64 v759, .int .i64 v760] (fun F' h0 hi hρ => ⟨by simp [DVs.av, DV.av, BR.av, hρ], impl_allIn_fn v758 v759 v760 F' (st_nil hi) ⟨bslc_ok hi (by rw [h0, hρ]; exact rowI64_ok hs (DVs.okAt ha 0 rfl) hv758), trivial, trivial, trivial⟩ hy⟩) rfl
  · cases hr
/-! impl.isWhole -/
noncomputable def impl_isWhole_LO (v750 v751 : Int) (v752 : List Int) (v753 : Int) : LOr := fun id e L =>
  match id with
  | _ => .fail
noncomputable def impl_isWhole_tab : List (FuncId × DFn × Bool) := [(21, impl_inRange_F, true), (60, impl_lengthI_F, true), (61, impl_allIn_F, true)]
theorem impl_isWhole_hO : OrcOk Try.prog (tabD impl_isWhole_tab) (tabM impl_isWhole_tab) := tabD_cons impl_inRange_Fok (tabD_cons impl_lengthI_Fok (tabD_cons impl_allIn_Fok (tabD_nil _)))
noncomputable def impl_isWhole_T (v750 v751 : Int) (v752 : List Int) (v753 : Int) : Tree (Bool) :=
  (.br (impl_inRange_v v750 (1 : Int) (6 : Int)) (
  (.br (impl_inRange_v v751 (1 : Int) (6 : Int)) (
  (.br (decide ((impl_lengthI_v v752) = IntKind.i64.wrap (v750 * v751))) (
  (.call (impl_allIn_g v752 (IntKind.i64.wrap (0 - v753)) v753) fun v778 =>
  .leaf v778)
  ) (
  .leaf false
  ))
  ) (
  .leaf false
  ))
  ) (
  .leaf false
  ))

noncomputable def impl_isWhole_g (v750 v751 : Int) (v752 : List Int) (v753 : Int) : Option (Bool) := (impl_isWhole_T v750 v751 v752 v753).run
def impl_isWhole_enc (v750 v751 : Int) (v752 : List Int) (v753 : Int) (y : Bool) : Rs := (.bool y, [])
theorem impl_isWhole_den (v750 v751 : Int) (v752 : List Int) (v753 : Int) : (den TT (tabD impl_isWhole_tab) (tabM impl_isWhole_tab) (impl_isWhole_LO v750 v751 v752 v753) (codeOf Try.f50) ([.agg [.int .i64 v750, .int .i64 v751, .bslc (BR.root 0) (.i64 v752)], .int .i64 v753] ++ List.replicate (Try.f50.ntmps - ([.agg [.int .i64 v750, .int .i64 v751, .bslc (BR.root 0) (.i64 v752)], .int .i64 v753] : List DV).length) .undef) []).bind (retD TT Try.f50.results.toList 0) = (impl_isWhole_T v750 v751 v752 v753).bind fun y => .leaf (impl_isWhole_enc v750 v751 v752 v753 y) := by kernel_rfl
theorem impl_isWhole_fn (v750 v751 : Int) (v752 : List Int) (v753 : Int) (F : Fr) (h0 : St F [] F.H0) (hA : DVs.Ok F [] [.agg [.int .i64 v750, .int .i64 v751, .bslc (BR.root 0) (.i64 v752)], .int .i64 v753]) {y : Bool} (hy : impl_isWhole_g v750 v751 v752 v753 = some y) : ∃ F' H', Fwd 0 F F' [] (impl_isWhole_enc v750 v751 v752 v753 y).2 ∧ FnOk Try.prog 50 (DVs.av F [.agg [.int .i64 v750, .int .i64 v751, .bslc (BR.root 0) (.i64 v752)], .int .i64 v753]) F.H0 ((impl_isWhole_enc v750 v751 v752 v753 y).1.av F') H' ∧ St F' (impl_isWhole_enc v750 v751 v752 v753 y).2 H' ∧ (impl_isWhole_enc v750 v751 v752 v753 y).1.Ok F' (impl_isWhole_enc v750 v751 v752 v753 y).2 :=
  fn_fin tok impl_isWhole_hO mixed Try.func50 Try.call50 (by kernel_rfl) (LoopsOk_eq (l := []) (by kernel_rfl) trivial) (impl_isWhole_den v750 v751 v752 v753) hy h0 hA
noncomputable def impl_isWhole_F : DFn := fun args L =>
  match args with
  | [.agg [.int .i64 v750, .int .i64 v751, a1], .int .i64 v753] =>
    optT (rowI64 L a1) fun v752 =>
    .call (impl_isWhole_g v750 v751 v752 v753) fun y => .leaf (.bool y, L)
  | _ => .fail
theorem impl_isWhole_Fok : COk Try.prog 50 impl_isWhole_F true := by
  intro F L H args r L' hs ha hr
  unfold impl_isWhole_F at hr
  split at hr
  · rename_i v750 v751 a1 v753
    obtain ⟨v752, hv752, hr⟩ := optT_run hr
    simp only [Tree.run] at hr
    obtain ⟨y, hy, hr⟩ := Option.bind_eq_some_iff.1 hr
    simp only [Tree.run, Option.some.injEq, Prod.mk.injEq] at hr
    obtain ⟨rfl, rfl⟩ := hr
    exact call_ok0 hs (fun k => (([a1.av F] : List AV)[k]?).getD .top) [.agg [.int .i64 v750, .int .i64 v751, a1], .int .i64 v753] [.agg [.int .i64 v750, .int .i64 v751, .bslc (BR.root 0) (.i64 v752)], .int .i64 v753] (fun F' h0 hi hρ => ⟨by simp [DVs.av, DV.av, BR.av, hρ], impl_isWhole_fn v750 v751 v752 v753 F' (st_nil hi) ⟨⟨trivial, trivial, bslc_ok hi (by rw [h0, hρ]; exact rowI64_ok hs (DVs.okAt (DVs.okAt ha 0 rfl) 2 rfl) hv752), trivial⟩, trivial, trivial⟩ hy⟩) rfl
  · cases hr
/-! impl.isLow -/
noncomputable def impl_isLow_LO (v747 v748 : Int) (v749 : List Int) : LOr := fun id e L =>
  match id with
  | _ => .fail
noncomputable def impl_isLow_tab : List (FuncId × DFn × Bool) := [(50, impl_isWhole_F, true)]
theorem impl_isLow_hO : OrcOk Try.prog (tabD impl_isLow_tab) (tabM impl_isLow_tab) := tabD_cons impl_isWhole_Fok (tabD_nil _)
noncomputable def impl_isLow_T (v747 v748 : Int) (v749 : List Int) : Tree (Bool) :=
  (.call (impl_isWhole_g v747 v748 v749 (100 : Int)) fun v779 =>
  .leaf v779)

noncomputable def impl_isLow_g (v747 v748 : Int) (v749 : List Int) : Option (Bool) := (impl_isLow_T v747 v748 v749).run
def impl_isLow_enc (v747 v748 : Int) (v749 : List Int) (y : Bool) : Rs := (.bool y, [])
theorem impl_isLow_den (v747 v748 : Int) (v749 : List Int) : (den TT (tabD impl_isLow_tab) (tabM impl_isLow_tab) (impl_isLow_LO v747 v748 v749) (codeOf Try.f20) ([.agg [.int .i64 v747, .int .i64 v748, .bslc (BR.root 0) (.i64 v749)]] ++ List.replicate (Try.f20.ntmps - ([.agg [.int .i64 v747, .int .i64 v748, .bslc (BR.root 0) (.i64 v749)]] : List DV).length) .undef) []).bind (retD TT Try.f20.results.toList 0) = (impl_isLow_T v747 v748 v749).bind fun y => .leaf (impl_isLow_enc v747 v748 v749 y) := by kernel_rfl
theorem impl_isLow_fn (v747 v748 : Int) (v749 : List Int) (F : Fr) (h0 : St F [] F.H0) (hA : DVs.Ok F [] [.agg [.int .i64 v747, .int .i64 v748, .bslc (BR.root 0) (.i64 v749)]]) {y : Bool} (hy : impl_isLow_g v747 v748 v749 = some y) : ∃ F' H', Fwd 0 F F' [] (impl_isLow_enc v747 v748 v749 y).2 ∧ FnOk Try.prog 20 (DVs.av F [.agg [.int .i64 v747, .int .i64 v748, .bslc (BR.root 0) (.i64 v749)]]) F.H0 ((impl_isLow_enc v747 v748 v749 y).1.av F') H' ∧ St F' (impl_isLow_enc v747 v748 v749 y).2 H' ∧ (impl_isLow_enc v747 v748 v749 y).1.Ok F' (impl_isLow_enc v747 v748 v749 y).2 :=
  fn_fin tok impl_isLow_hO mixed Try.func20 Try.call20 (by kernel_rfl) (LoopsOk_eq (l := []) (by kernel_rfl) trivial) (impl_isLow_den v747 v748 v749) hy h0 hA
noncomputable def impl_isLow_F : DFn := fun args L =>
  match args with
  | [.agg [.int .i64 v747, .int .i64 v748, a1]] =>
    optT (rowI64 L a1) fun v749 =>
    .call (impl_isLow_g v747 v748 v749) fun y => .leaf (.bool y, L)
  | _ => .fail
theorem impl_isLow_Fok : COk Try.prog 20 impl_isLow_F true := by
  intro F L H args r L' hs ha hr
  unfold impl_isLow_F at hr
  split at hr
  · rename_i v747 v748 a1
    obtain ⟨v749, hv749, hr⟩ := optT_run hr
    simp only [Tree.run] at hr
    obtain ⟨y, hy, hr⟩ := Option.bind_eq_some_iff.1 hr
    simp only [Tree.run, Option.some.injEq, Prod.mk.injEq] at hr
    obtain ⟨rfl, rfl⟩ := hr
    exact call_ok0 hs (fun k => (([a1.av F] : List AV)[k]?).getD .top) [.agg [.int .i64 v747, .int .i64 v748, a1]] [.agg [.int .i64 v747, .int .i64 v748, .bslc (BR.root 0) (.i64 v749)]] (fun F' h0 hi hρ => ⟨by simp [DVs.av, DV.av, BR.av, hρ], impl_isLow_fn v747 v748 v749 F' (st_nil hi) ⟨⟨trivial, trivial, bslc_ok hi (by rw [h0, hρ]; exact rowI64_ok hs (DVs.okAt (DVs.okAt ha 0 rfl) 2 rfl) hv749), trivial⟩, trivial⟩ hy⟩) rfl
  · cases hr
/-! slices.Clone[list of int64,int64] -/
noncomputable def slices_CloneI_LO (v781 : List Int) : LOr := fun id e L =>
  match id with
  | _ => .fail
noncomputable def slices_CloneI_tab : List (FuncId × DFn × Bool) := []
theorem slices_CloneI_hO : OrcOk Try.prog (tabD slices_CloneI_tab) (tabM slices_CloneI_tab) := tabD_nil _
noncomputable def slices_CloneI_T (v781 : List Int) : Tree (Unit) :=
  (.grd (decide (0 < v781.length)) <|
  (.grd (fits (([] : List Int) ++ v781).length) <|
  .leaf ()))

noncomputable def slices_CloneI_g (v781 : List Int) : Option (Unit) := (slices_CloneI_T v781).run
def slices_CloneI_enc (v781 : List Int) (y : Unit) : Rs := (.own 0 0 ((([] : List Int) ++ v781).length), [.row (.i64 (([] : List Int) ++ v781)) 0])
theorem slices_CloneI_den (v781 : List Int) : (den TT (tabD slices_CloneI_tab) (tabM slices_CloneI_tab) (slices_CloneI_LO v781) (codeOf Try.f22) ([.bslc (BR.root 0) (.i64 v781)] ++ List.replicate (Try.f22.ntmps - ([.bslc (BR.root 0) (.i64 v781)] : List DV).length) .undef) []).bind (retD TT Try.f22.results.toList 0) = (slices_CloneI_T v781).bind fun y => .leaf (slices_CloneI_enc v781 y) := by kernel_rfl
theorem slices_CloneI_fn (v781 : List Int) (F : Fr) (h0 : St F [] F.H0) (hA : DVs.Ok F [] [.bslc (BR.root 0) (.i64 v781)]) {y : Unit} (hy : slices_CloneI_g v781 = some y) : ∃ F' H', Fwd 0 F F' [] (slices_CloneI_enc v781 y).2 ∧ FnOk Try.prog 22 (DVs.av F [.bslc (BR.root 0) (.i64 v781)]) F.H0 ((slices_CloneI_enc v781 y).1.av F') H' ∧ St F' (slices_CloneI_enc v781 y).2 H' ∧ (slices_CloneI_enc v781 y).1.Ok F' (slices_CloneI_enc v781 y).2 :=
  fn_fin tok slices_CloneI_hO mixed Try.func22 Try.call22 (by kernel_rfl) (LoopsOk_eq (l := []) (by kernel_rfl) trivial) (slices_CloneI_den v781) hy h0 hA
noncomputable def slices_CloneI_F : DFn := fun args L =>
  match args with
  | [a1] =>
    optT (rowI64 L a1) fun v781 =>
    .call (slices_CloneI_g v781) fun y => .leaf (.own (L.length + 0) 0 ((([] : List Int) ++ v781).length), L ++ [.row (.i64 (([] : List Int) ++ v781)) 0])
  | _ => .fail
theorem slices_CloneI_Fok : COk Try.prog 22 slices_CloneI_F true := by
  intro F L H args r L' hs ha hr
  unfold slices_CloneI_F at hr
  split at hr
  · rename_i a1
    obtain ⟨v781, hv781, hr⟩ := optT_run hr
    simp only [Tree.run] at hr
    obtain ⟨y, hy, hr⟩ := Option.bind_eq_some_iff.1 hr
    simp only [Tree.run, Option.some.injEq, Prod.mk.injEq] at hr
    obtain ⟨rfl, rfl⟩ := hr
    exact call_ok1 hs (fun k => (([a1.av F] : List AV)[k]?).getD .top) [a1] [.bslc (BR.root 0) (.i64 v781)] (fun F' h0 hi hρ => ⟨by simp [DVs.av, DV.av, BR.av, hρ], slices_CloneI_fn v781 F' (st_nil hi) ⟨bslc_ok hi (by rw [h0, hρ]; exact rowI64_ok hs (DVs.okAt ha 0 rfl) hv781), trivial⟩ hy⟩) rfl rfl
  · cases hr
/-! (impl.Whole).row -/
noncomputable def impl_Whole_row_LO (v789 v790 : Int) (v791 : List Int) (v792 : Int) : LOr := fun id e L =>
  match id with
  | _ => .fail
noncomputable def impl_Whole_row_tab : List (FuncId × DFn × Bool) := [(22, slices_CloneI_F, true)]
theorem impl_Whole_row_hO : OrcOk Try.prog (tabD impl_Whole_row_tab) (tabM impl_Whole_row_tab) := tabD_cons slices_CloneI_Fok (tabD_nil _)
noncomputable def impl_Whole_row_T (v790 : Int) (v791 : List Int) (v792 : Int) : Tree (Unit) :=
  (.grd (sok (IntKind.i64.wrap (v792 * v790)) (IntKind.i64.wrap ((IntKind.i64.wrap (v792 + (1 : Int))) * v790)) v791.length) <|
  (.call (slices_CloneI_g (AM.sub v791 (IntKind.i64.wrap (v792 * v790)) (IntKind.i64.wrap ((IntKind.i64.wrap (v792 + (1 : Int))) * v790)))) fun v793 =>
  .leaf ()))

noncomputable def impl_Whole_row_g (v790 : Int) (v791 : List Int) (v792 : Int) : Option (Unit) := (impl_Whole_row_T v790 v791 v792).run
def impl_Whole_row_enc (v789 v790 : Int) (v791 : List Int) (v792 : Int) (y : Unit) : Rs := (.own 0 0 ((([] : List Int) ++ (AM.sub v791 (IntKind.i64.wrap (v792 * v790)) (IntKind.i64.wrap ((IntKind.i64.wrap (v792 + (1 : Int))) * v790)))).length), [.row (.i64 (([] : List Int) ++ (AM.sub v791 (IntKind.i64.wrap (v792 * v790)) (IntKind.i64.wrap ((IntKind.i64.wrap (v792 + (1 : Int))) * v790))))) 0])
theorem impl_Whole_row_den (v789 v790 : Int) (v791 : List Int) (v792 : Int) : (den TT (tabD impl_Whole_row_tab) (tabM impl_Whole_row_tab) (impl_Whole_row_LO v789 v790 v791 v792) (codeOf Try.f51) ([.agg [.int .i64 v789, .int .i64 v790, .bslc (BR.root 0) (.i64 v791)], .int .i64 v792] ++ List.replicate (Try.f51.ntmps - ([.agg [.int .i64 v789, .int .i64 v790, .bslc (BR.root 0) (.i64 v791)], .int .i64 v792] : List DV).length) .undef) []).bind (retD TT Try.f51.results.toList 0) = (impl_Whole_row_T v790 v791 v792).bind fun y => .leaf (impl_Whole_row_enc v789 v790 v791 v792 y) := by kernel_rfl
theorem impl_Whole_row_fn (v789 v790 : Int) (v791 : List Int) (v792 : Int) (F : Fr) (h0 : St F [] F.H0) (hA : DVs.Ok F [] [.agg [.int .i64 v789, .int .i64 v790, .bslc (BR.root 0) (.i64 v791)], .int .i64 v792]) {y : Unit} (hy : impl_Whole_row_g v790 v791 v792 = some y) : ∃ F' H', Fwd 0 F F' [] (impl_Whole_row_enc v789 v790 v791 v792 y).2 ∧ FnOk Try.prog 51 (DVs.av F [.agg [.int .i64 v789, .int .i64 v790, .bslc (BR.root 0) (.i64 v791)], .int .i64 v792]) F.H0 ((impl_Whole_row_enc v789 v790 v791 v792 y).1.av F') H' ∧ St F' (impl_Whole_row_enc v789 v790 v791 v792 y).2 H' ∧ (impl_Whole_row_enc v789 v790 v791 v792 y).1.Ok F' (impl_Whole_row_enc v789 v790 v791 v792 y).2 :=
  fn_fin tok impl_Whole_row_hO mixed Try.func51 Try.call51 (by kernel_rfl) (LoopsOk_eq (l := []) (by kernel_rfl) trivial) (impl_Whole_row_den v789 v790 v791 v792) hy h0 hA
noncomputable def impl_Whole_row_F : DFn := fun args L =>
  match args with
  | [.agg [.int .i64 v789, .int .i64 v790, a1], .int .i64 v792] =>
    optT (rowI64 L a1) fun v791 =>
    .call (impl_Whole_row_g v790 v791 v792) fun y => .leaf (.own (L.length + 0) 0 ((([] : List Int) ++ (AM.sub v791 (IntKind.i64.wrap (v792 * v790)) (IntKind.i64.wrap ((IntKind.i64.wrap (v792 + (1 : Int))) * v790)))).length), L ++ [.row (.i64 (([] : List Int) ++ (AM.sub v791 (IntKind.i64.wrap (v792 * v790)) (IntKind.i64.wrap ((IntKind.i64.wrap (v792 + (1 : Int))) * v790))))) 0])
  | _ => .fail
theorem impl_Whole_row_Fok : COk Try.prog 51 impl_Whole_row_F true := by
  intro F L H args r L' hs ha hr
  unfold impl_Whole_row_F at hr
  split at hr
  · rename_i v789 v790 a1 v792
    obtain ⟨v791, hv791, hr⟩ := optT_run hr
    simp only [Tree.run] at hr
    obtain ⟨y, hy, hr⟩ := Option.bind_eq_some_iff.1 hr
    simp only [Tree.run, Option.some.injEq, Prod.mk.injEq] at hr
    obtain ⟨rfl, rfl⟩ := hr
    exact call_ok1 hs (fun k => (([a1.av F] : List AV)[k]?).getD .top) [.agg [.int .i64 v789, .int .i64 v790, a1], .int .i64 v792] [.agg [.int .i64 v789, .int .i64 v790, .bslc (BR.root 0) (.i64 v791)], .int .i64 v792] (fun F' h0 hi hρ => ⟨by simp [DVs.av, DV.av, BR.av, hρ], impl_Whole_row_fn v789 v790 v791 v792 F' (st_nil hi) ⟨⟨trivial, trivial, bslc_ok hi (by rw [h0, hρ]; exact rowI64_ok hs (DVs.okAt (DVs.okAt ha 0 rfl) 2 rfl) hv791), trivial⟩, trivial, trivial⟩ hy⟩) rfl rfl
  · cases hr
/-! slices.Clone[list of float64,float64] -/
noncomputable def slices_Clone_float64_float64_LO (v810 : List Nat) : LOr := fun id e L =>
  match id with
  | _ => .fail
noncomputable def slices_Clone_float64_float64_tab : List (FuncId × DFn × Bool) := []
theorem slices_Clone_float64_float64_hO : OrcOk Try.prog (tabD slices_Clone_float64_float64_tab) (tabM slices_Clone_float64_float64_tab) := tabD_nil _
noncomputable def slices_Clone_float64_float64_T (v810 : List Nat) : Tree (Unit) :=
  (.grd (decide (0 < v810.length)) <|
  (.grd (fits (([] : List Nat) ++ v810).length) <|
  .leaf ()))

noncomputable def slices_Clone_float64_float64_g (v810 : List Nat) : Option (Unit) := (slices_Clone_float64_float64_T v810).run
def slices_Clone_float64_float64_enc (v810 : List Nat) (y : Unit) : Rs := (.own 0 0 ((([] : List Nat) ++ v810).length), [.row (.f64 (([] : List Nat) ++ v810)) 0])
theorem slices_Clone_float64_float64_den (v810 : List Nat) : (den TT (tabD slices_Clone_float64_float64_tab) (tabM slices_Clone_float64_float64_tab) (slices_Clone_float64_float64_LO v810) (codeOf Try.f52) ([.bslc (BR.root 0) (.f64 v810)] ++ List.replicate (Try.f52.ntmps - ([.bslc (BR.root 0) (.f64 v810)] : List DV).length) .undef) []).bind (retD TT Try.f52.results.toList 0) = (slices_Clone_float64_float64_T v810).bind fun y => .leaf (slices_Clone_float64_float64_enc v810 y) := by kernel_rfl
theorem slices_Clone_float64_float64_fn (v810 : List Nat) (F : Fr) (h0 : St F [] F.H0) (hA : DVs.Ok F [] [.bslc (BR.root 0) (.f64 v810)]) {y : Unit} (hy : slices_Clone_float64_float64_g v810 = some y) : ∃ F' H', Fwd 0 F F' [] (slices_Clone_float64_float64_enc v810 y).2 ∧ FnOk Try.prog 52 (DVs.av F [.bslc (BR.root 0) (.f64 v810)]) F.H0 ((slices_Clone_float64_float64_enc v810 y).1.av F') H' ∧ St F' (slices_Clone_float64_float64_enc v810 y).2 H' ∧ (slices_Clone_float64_float64_enc v810 y).1.Ok F' (slices_Clone_float64_float64_enc v810 y).2 :=
  fn_fin tok slices_Clone_float64_float64_hO mixed Try.func52 Try.call52 (by kernel_rfl) (LoopsOk_eq (l := []) (by kernel_rfl) trivial) (slices_Clone_float64_float64_den v810) hy h0 hA
noncomputable def slices_Clone_float64_float64_F : DFn := fun args L =>
  match args with
  | [a1] =>
    optT (rowF64 L a1) fun v810 =>
    .call (slices_Clone_float64_float64_g v810) fun y => .leaf (.own (L.length + 0) 0 ((([] : List Nat) ++ v810).length), L ++ [.row (.f64 (([] : List Nat) ++ v810)) 0])
  | _ => .fail
theorem slices_Clone_float64_float64_Fok : COk Try.prog 52 slices_Clone_float64_float64_F true := by
  intro F L H args r L' hs ha hr
  unfold slices_Clone_float64_float64_F at hr
  split at hr
  · rename_i a1
    obtain ⟨v810, hv810, hr⟩ := optT_run hr
    simp only [Tree.run] at hr
    obtain ⟨y, hy, hr⟩ := Option.bind_eq_some_iff.1 hr
    simp only [Tree.run, Option.some.injEq, Prod.mk.injEq] at hr
    obtain ⟨rfl, rfl⟩ := hr
    exact call_ok1 hs (fun k => (([a1.av F] : List AV)[k]?).getD .top) [a1] [.bslc (BR.root 0) (.f64 v810)] (fun F' h0 hi hρ => ⟨by simp [DVs.av, DV.av, BR.av, hρ], slices_Clone_float64_float64_fn v810 F' (st_nil hi) ⟨bslc_ok hi (by rw [h0, hρ]; exact rowF64_ok hs (DVs.okAt ha 0 rfl) hv810), trivial⟩ hy⟩) rfl rfl
  · cases hr
/-! impl.mul64 -/
noncomputable def impl_mul64_LO (v820 v821 : Nat) : LOr := fun id e L =>
  match id with
  | _ => .fail
noncomputable def impl_mul64_tab : List (FuncId × DFn × Bool) := []
theorem impl_mul64_hO : OrcOk Try.prog (tabD impl_mul64_tab) (tabM impl_mul64_tab) := tabD_nil _
noncomputable def impl_mul64_T (v820 v821 : Nat) : Tree (Nat) :=
  .leaf (fmul .f64 v820 v821)

noncomputable def impl_mul64_g (v820 v821 : Nat) : Option (Nat) := (impl_mul64_T v820 v821).run
def impl_mul64_enc (v820 v821 y : Nat) : Rs := (.flt .f64 y, [])
theorem impl_mul64_den (v820 v821 : Nat) : (den TT (tabD impl_mul64_tab) (tabM impl_mul64_tab) (impl_mul64_LO v820 v821) (codeOf Try.f27) ([.flt .f64 v820, .flt .f64 v821] ++ List.replicate (Try.f27.ntmps - ([.flt .f64 v820, .flt .f64 v821] : List DV).length) .undef) []).bind (retD TT Try.f27.results.toList 0) = (impl_mul64_T v820 v821).bind fun y => .leaf (impl_mul64_enc v820 v821 y) := by kernel_rfl
theorem impl_mul64_fn (v820 v821 : Nat) (F : Fr) (h0 : St F [] F.H0) (hA : DVs.Ok F [] [.flt .f64 v820, .flt .f64 v821]) {y : Nat} (hy : impl_mul64_g v820 v821 = some y) : ∃ F' H', Fwd 0 F F' [] (impl_mul64_enc v820 v821 y).2 ∧ FnOk Try.prog 27 (DVs.av F [.flt .f64 v820, .flt .f64 v821]) F.H0 ((impl_mul64_enc v820 v821 y).1.av F') H' ∧ St F' (impl_mul64_enc v820 v821 y).2 H' ∧ (impl_mul64_enc v820 v821 y).1.Ok F' (impl_mul64_enc v820 v821 y).2 :=
  fn_fin tok impl_mul64_hO mixed Try.func27 Try.call27 (by kernel_rfl) (LoopsOk_eq (l := []) (by kernel_rfl) trivial) (impl_mul64_den v820 v821) hy h0 hA
def impl_mul64_v (v820 v821 : Nat) : Nat :=
  fmul .f64 v820 v821
theorem impl_mul64_tot (v820 v821 : Nat) : impl_mul64_g v820 v821 = some (impl_mul64_v v820 v821) := by
  unfold impl_mul64_g impl_mul64_T impl_mul64_v
  simp only [Tree.run]
  repeat' (first | rfl | split)
noncomputable def impl_mul64_F : DFn := fun args L =>
  match args with
  | [.flt .f64 v820, .flt .f64 v821] =>
    .leaf (.flt .f64 (impl_mul64_v v820 v821), L)
  | _ => .fail
theorem impl_mul64_Fok : COk Try.prog 27 impl_mul64_F true := by
  intro F L H args r L' hs ha hr
  unfold impl_mul64_F at hr
  split at hr
  · rename_i v820 v821
    have hy := impl_mul64_tot v820 v821
    generalize impl_mul64_v v820 v821 = y at hy hr
    simp only [Tree.run, Option.some.injEq, Prod.mk.injEq] at hr
    obtain ⟨rfl, rfl⟩ := hr
    exact call_ok0 hs (fun k => (([] : List AV)[k]?).getD .top) [.flt .f64 v820, .flt .f64 v821] [.flt .f64 v820, .flt .f64 v821] (fun F' h0 hi hρ => ⟨by simp [DVs.av, DV.av, BR.av, hρ], impl_mul64_fn v820 v821 F' (st_nil hi) ⟨trivial, trivial, trivial⟩ hy⟩) rfl
  · cases hr
/-! impl.dot64 -/
noncomputable def impl_dot64_l0_T (v816 v817 : List Nat) (s : Nat × Int) : Tree ((Nat × Int) ⊕ (Nat)) :=
  (.br (decide (s.2 < ((v816.length : Nat) : Int))) (
  (.grd (inb s.2 v816.length) <|
  (.grd (inb s.2 v817.length) <|
  .leaf (.inl (fadd .f64 s.1 (impl_mul64_v (nth v816 (Int.toNat s.2)) (nth v817 (Int.toNat s.2))), IntKind.i64.wrap (s.2 + (1 : Int))))))
  ) (
  .leaf (.inr s.1)
  ))

noncomputable def impl_dot64_l0_g (v816 v817 : List Nat) (s0 : Nat × Int) : Option (Nat) := whileM (fun s => (impl_dot64_l0_T v816 v817 s).run) s0
def impl_dot64_l0_E (v816 v817 : List Nat) (s : Nat × Int) : Sd := ([Z,.bslc (BR.root 1) (.f64 v817),Z,Z,Z,.flt .f64 s.1,Z,Z,.bslc (BR.root 0) (.f64 v816),.int .i64 ((v816.length : Nat) : Int),.int .i64 s.2,Z,Z,Z,Z,Z,Z,Z,Z,Z,Z,Z,Z,Z,Z], [])
def impl_dot64_l0_X (v816 v817 : List Nat) (x : Nat) : Out := (.normal, [Z,Z,Z,Z,Z,.flt .f64 x,Z,Z,Z,Z,Z,Z,Z,Z,Z,Z,Z,Z,Z,Z,Z,Z,Z,Z,Z], [])
def impl_dot64_l0_kill : List Nat := KL true [1,1,3,1,2,3,14]
def impl_dot64_l0_nx : Exit → List Nat
  | .exit 0 => KL true [5,1,19]
  | .ret => KL true [4,1,20]
  | _ => []
noncomputable def impl_dot64_LO (v816 v817 : List Nat) : LOr := fun id e L =>
  match id with
  | 0 => .need (normA 0 impl_dot64_l0_kill e L = some (impl_dot64_l0_E v816 v817 ((gF (vAt e 5)), (gI (vAt e 10))))) (.call (impl_dot64_l0_g v816 v817 ((gF (vAt e 5)), (gI (vAt e 10)))) fun x => .leaf (impl_dot64_l0_X v816 v817 x))
  | _ => .fail
noncomputable def impl_dot64_tab : List (FuncId × DFn × Bool) := [(27, impl_mul64_F, true)]
theorem impl_dot64_hO : OrcOk Try.prog (tabD impl_dot64_tab) (tabM impl_dot64_tab) := tabD_cons impl_mul64_Fok (tabD_nil _)
theorem impl_dot64_l0_be (v816 v817 : List Nat) (s : Nat × Int) : bodyT TT (tabD impl_dot64_tab) (tabM impl_dot64_tab) (impl_dot64_LO v816 v817) 0 impl_dot64_l0_kill impl_dot64_l0_nx (bodyOf Try.f26 0) 0 (impl_dot64_l0_E v816 v817 s) = (impl_dot64_l0_T v816 v817 s).bind fun y => .leaf (outS (impl_dot64_l0_E v816 v817) (impl_dot64_l0_X v816 v817) y) := by kernel_rfl
theorem impl_dot64_l0_ok (v816 v817 : List Nat) : LSound Try.prog 0 (impl_dot64_LO v816 v817) 0 (bodyOf Try.f26 0) := by
  intro e L out h
  exact lo_ok (E := impl_dot64_l0_E v816 v817) (gT := impl_dot64_l0_T v816 v817) (X := impl_dot64_l0_X v816 v817) (s0 := ((gF (vAt e 5)), (gI (vAt e 10)))) tok impl_dot64_hO mixed (LoopsOk_eq (l := []) (by kernel_rfl) trivial) (impl_dot64_l0_be v816 v817) rfl (by intro x; rfl) h
noncomputable def impl_dot64_T (v816 v817 : List Nat) : Tree (Nat) :=
  (.need (some (impl_dot64_l0_E v816 v817 ((0 : Nat), (0 : Int))) = some (impl_dot64_l0_E v816 v817 ((0 : Nat), (0 : Int)))) <|
  (.call (impl_dot64_l0_g v816 v817 ((0 : Nat), (0 : Int))) fun v826 =>
  .leaf v826))

noncomputable def impl_dot64_g (v816 v817 : List Nat) : Option (Nat) := (impl_dot64_T v816 v817).run
def impl_dot64_enc (v816 v817 : List Nat) (y : Nat) : Rs := (.flt .f64 y, [])
theorem impl_dot64_den (v816 v817 : List Nat) : (den TT (tabD impl_dot64_tab) (tabM impl_dot64_tab) (impl_dot64_LO v816 v817) (codeOf Try.f26) ([.bslc (BR.root 0) (.f64 v816), .bslc (BR.root 1) (.f64 v817)] ++ List.replicate (Try.f26.ntmps - ([.bslc (BR.root 0) (.f64 v816), .bslc (BR.root 1) (.f64 v817)] : List DV).length) .undef) []).bind (retD TT Try.f26.results.toList 0) = (impl_dot64_T v816 v817).bind fun y => .leaf (impl_dot64_enc v816 v817 y) := by kernel_rfl
theorem impl_dot64_fn (v816 v817 : List Nat) (F : Fr) (h0 : St F [] F.H0) (hA : DVs.Ok F [] [.bslc (BR.root 0) (.f64 v816), .bslc (BR.root 1) (.f64 v817)]) {y : Nat} (hy : impl_dot64_g v816 v817 = some y) : ∃ F' H', Fwd 0 F F' [] (impl_dot64_enc v816 v817 y).2 ∧ FnOk Try.prog 26 (DVs.av F [.bslc (BR.root 0) (.f64 v816), .bslc (BR.root 1) (.f64 v817)]) F.H0 ((impl_dot64_enc v816 v817 y).1.av F') H' ∧ St F' (impl_dot64_enc v816 v817 y).2 H' ∧ (impl_dot64_enc v816 v817 y).1.Ok F' (impl_dot64_enc v816 v817 y).2 :=
  fn_fin tok impl_dot64_hO mixed Try.func26 Try.call26 (by kernel_rfl) (LoopsOk_eq (l := [(0, bodyOf Try.f26 0)]) (by kernel_rfl) ⟨impl_dot64_l0_ok v816 v817, trivial⟩) (impl_dot64_den v816 v817) hy h0 hA
noncomputable def impl_dot64_F : DFn := fun args L =>
  match args with
  | [a1, a2] =>
    optT (rowF64 L a1) fun v816 =>
    optT (rowF64 L a2) fun v817 =>
    .call (impl_dot64_g v816 v817) fun y => .leaf (.flt .f64 y, L)
  | _ => .fail
theorem impl_dot64_Fok : COk Try.prog 26 impl_dot64_F true := by
  intro F L H args r L' hs ha hr
  unfold impl_dot64_F at hr
  split at hr
  · rename_i a1 a2
    obtain ⟨v816, hv816, hr⟩ := optT_run hr
    obtain ⟨v817, hv817, hr⟩ := optT_run hr
    simp only [Tree.run] at hr
    obtain ⟨y, hy, hr⟩ := Option.bind_eq_some_iff.1 hr
    simp only [Tree.run, Option.some.injEq, Prod.mk.injEq] at hr
    obtain ⟨rfl, rfl⟩ := hr
    exact call_ok0 hs (fun k => (([a1.av F, a2.av F] : List AV)[k]?).getD .top) [a1, a2] [.bslc (BR.root 0) (.f64 v816), .bslc (BR.root 1) (.f64 v817)] (fun F' h0 hi hρ => ⟨by simp [DVs.av, DV.av, BR.av, hρ], impl_dot64_fn v816 v817 F' (st_nil hi) ⟨bslc_ok hi (by rw [h0, hρ]; exact rowF64_ok hs (DVs.okAt ha 0 rfl) hv816), bslc_ok hi (by rw [h0, hρ]; exact rowF64_ok hs (DVs.okAt ha 1 rfl) hv817), trivial⟩ hy⟩) rfl
  · cases hr
/-! (impl.Whole).upright -/
noncomputable def impl_Whole_upright_l2_T (v1146 v1147 : Int) (v1149 : List (List Nat)) (v1150 : List Nat) (v1151 : List (List Nat)) (v1152 : List Nat) (v1154 : List Int) (s : Int × (List Nat)) : Tree ((Int × (List Nat)) ⊕ ((List Nat))) :=
  (.br (decide (s.1 < v1147)) (
  (.grd (inb s.1 ((v1154).length)) <|
  (.grd (fits (s.2 ++ ([fofint .f64 (nth v1154 (Int.toNat s.1))] : List Nat)).length) <|
  .leaf (.inl (IntKind.i64.wrap (s.1 + (1 : Int)), s.2 ++ ([fofint .f64 (nth v1154 (Int.toNat s.1))] : List Nat)))))
  ) (
  .leaf (.inr s.2)
  ))

noncomputable def impl_Whole_upright_l2_g (v1146 v1147 : Int) (v1149 : List (List Nat)) (v1150 : List Nat) (v1151 : List (List Nat)) (v1152 : List Nat) (v1154 : List Int) (s0 : Int × (List Nat)) : Option ((List Nat)) := whileM (fun s => (impl_Whole_upright_l2_T v1146 v1147 v1149 v1150 v1151 v1152 v1154 s).run) s0
def impl_Whole_upright_l2_E (v785 v786 : Int) (v787 : List Int) (v1146 v1147 : Int) (v1149 : List (List Nat)) (v1150 : List Nat) (v1151 : List (List Nat)) (v1152 : List Nat) (v1154 : List Int) (s : Int × (List Nat)) : Sd := ([Z,.ptr 0 (0 : Nat) 0 (3 : Nat),Z,Z,Z,.nest 1 0 1 ((v1150).length),.nest 2 0 1 ((v1152).length),Z,.own 3 0 ((s.2).length),Z,Z,Z,Z,Z,Z,Z,Z,Z,Z,Z,.int .i64 v785,.int .i64 v1146,Z,Z,Z,Z,Z,.own 4 0 ((v1154).length),.int .i64 v1147,.int .i64 s.1,Z,Z,Z,Z,Z,Z,Z,Z,Z,Z,Z,Z,Z,Z,Z,Z,Z,Z,Z,Z,Z,Z,Z,Z,Z,Z,Z,Z,Z,Z,Z,Z,Z,Z,Z,Z,Z,Z,Z,Z,Z,Z,Z,Z,Z,Z,Z,Z,Z,Z,Z,Z,Z,Z,Z,Z,Z,Z,Z,Z,Z,Z,Z,Z], [.gen [.int .i64 v785, .int .i64 v786, .bslc (BR.root 0) (.i64 v787)] false 0, .nest [.sl (.f64 v1149) v1150] false 0, .nest [.sl (.f64 v1151) v1152] false 0, .row (.f64 s.2) 0, .row (.i64 v1154) 0])
def impl_Whole_upright_l2_X (v785 v786 : Int) (v787 : List Int) (v1146 v1147 : Int) (v1149 : List (List Nat)) (v1150 : List Nat) (v1151 : List (List Nat)) (v1152 : List Nat) (v1154 : List Int) (x : (List Nat)) : Out := (.normal, [Z,.ptr 0 (0 : Nat) 0 (3 : Nat),Z,Z,Z,.nest 1 0 1 ((v1150).length),.nest 2 0 1 ((v1152).length),Z,.own 3 0 ((x).length),Z,Z,Z,Z,Z,Z,Z,Z,Z,Z,Z,.int .i64 v785,.int .i64 v1146,Z,Z,Z,Z,Z,Z,Z,Z,Z,Z,Z,Z,Z,Z,Z,Z,Z,Z,Z,Z,Z,Z,Z,Z,Z,Z,Z,Z,Z,Z,Z,Z,Z,Z,Z,Z,Z,Z,Z,Z,Z,Z,Z,Z,Z,Z,Z,Z,Z,Z,Z,Z,Z,Z,Z,Z,Z,Z,Z,Z,Z,Z,Z,Z,Z,Z,Z,Z,Z,Z,Z,Z], [.gen [.int .i64 v785, .int .i64 v786, .bslc (BR.root 0) (.i64 v787)] false 0, .nest [.sl (.f64 v1149) v1150] false 0, .nest [.sl (.f64 v1151) v1152] false 0, .row (.f64 x) 0])
def impl_Whole_upright_l2_kill : List Nat := KL true [1,1,3,2,1,1,11,2,5,3,64]
def impl_Whole_upright_l2_nx : Exit → List Nat
  | .exit 0 => KL true [5,2,87]
  | .exit 1 => KL true [1,1,3,2,13,2,72]
  | .exit 2 => KL true [1,1,3,2,1,1,11,2,72]
  | .ret => KL true [2,3,89]
  | _ => []
noncomputable def impl_Whole_upright_l6_T (v1303 v1304 : Nat) (v1305 v1306 v1307 v1308 : Int) (v1310 : List (List Nat)) (v1311 : List Nat) (v1312 : List (List Nat)) (v1313 v1314 v1316 : List Nat) (s : Int × (List Nat)) : Tree ((Int × (List Nat)) ⊕ ((List Nat))) :=
  (.br (decide (s.1 < v1308)) (
  (.grd (inb s.1 ((s.2).length)) <|
  (.grd (inb s.1 ((nget v1310 v1303).length)) <|
  (.grd (inb s.1 ((s.2).length)) <|
  .leaf (.inl (IntKind.i64.wrap (s.1 + (1 : Int)), List.set s.2 (Int.toNat s.1) (fsub .f64 (nth s.2 (Int.toNat s.1)) (impl_mul64_v v1304 (nth (nget v1310 v1303) (Int.toNat s.1)))))))))
  ) (
  .leaf (.inr s.2)
  ))

noncomputable def impl_Whole_upright_l6_g (v1303 v1304 : Nat) (v1305 v1306 v1307 v1308 : Int) (v1310 : List (List Nat)) (v1311 : List Nat) (v1312 : List (List Nat)) (v1313 v1314 v1316 : List Nat) (s0 : Int × (List Nat)) : Option ((List Nat)) := whileM (fun s => (impl_Whole_upright_l6_T v1303 v1304 v1305 v1306 v1307 v1308 v1310 v1311 v1312 v1313 v1314 v1316 s).run) s0
def impl_Whole_upright_l6_E (v785 v786 : Int) (v787 : List Int) (v1303 v1304 : Nat) (v1305 v1306 v1307 v1308 : Int) (v1310 : List (List Nat)) (v1311 : List Nat) (v1312 : List (List Nat)) (v1313 v1314 v1316 : List Nat) (s : Int × (List Nat)) : Sd := ([Z,.ptr 0 (0 : Nat) 0 (3 : Nat),Z,Z,Z,.nest 1 0 1 ((v1311).length),.nest 2 0 1 ((v1313).length),Z,.own 3 0 ((v1314).length),Z,Z,.own 4 0 ((s.2).length),.own 5 0 ((v1316).length),Z,.inn 1 0 v1303 ((nget v1310 v1303).length),.flt .f64 v1304,Z,Z,Z,Z,.int .i64 v785,.int .i64 v1305,Z,Z,Z,Z,Z,Z,Z,Z,Z,Z,Z,Z,Z,Z,Z,Z,Z,Z,Z,Z,.nest 1 0 1 ((v1311).length),.int .i64 v1306,.int .i64 v1307,Z,Z,Z,Z,Z,Z,Z,Z,Z,Z,Z,.int .i64 v1308,.int .i64 s.1,Z,Z,Z,Z,Z,Z,Z,Z,Z,Z,Z,Z,Z,Z,Z,Z,Z,Z,Z,Z,Z,Z,Z,Z,Z,Z,Z,Z,Z,Z,Z,Z,Z,Z,Z,Z], [.gen [.int .i64 v785, .int .i64 v786, .bslc (BR.root 0) (.i64 v787)] false 0, .nest [.sl (.f64 v1310) v1311] false 0, .nest [.sl (.f64 v1312) v1313] false 0, .row (.f64 v1314) 0, .row (.f64 s.2) 0, .row (.f64 v1316) 0])
def impl_Whole_upright_l6_X (v785 v786 : Int) (v787 : List Int) (v1303 v1304 : Nat) (v1305 v1306 v1307 v1308 : Int) (v1310 : List (List Nat)) (v1311 : List Nat) (v1312 : List (List Nat)) (v1313 v1314 v1316 : List Nat) (x : (List Nat)) : Out := (.normal, [Z,.ptr 0 (0 : Nat) 0 (3 : Nat),Z,Z,Z,.nest 1 0 1 ((v1311).length),.nest 2 0 1 ((v1313).length),Z,.own 3 0 ((v1314).length),Z,Z,.own 4 0 ((x).length),.own 5 0 ((v1316).length),Z,Z,.flt .f64 v1304,Z,Z,Z,Z,.int .i64 v785,.int .i64 v1305,Z,Z,Z,Z,Z,Z,Z,Z,Z,Z,Z,Z,Z,Z,Z,Z,Z,Z,Z,Z,.nest 1 0 1 ((v1311).length),.int .i64 v1306,.int .i64 v1307,Z,Z,Z,Z,Z,Z,Z,Z,Z,Z,Z,Z,Z,Z,Z,Z,Z,Z,Z,Z,Z,Z,Z,Z,Z,Z,Z,Z,Z,Z,Z,Z,Z,Z,Z,Z,Z,Z,Z,Z,Z,Z,Z,Z,Z,Z,Z,Z,Z], [.gen [.int .i64 v785, .int .i64 v786, .bslc (BR.root 0) (.i64 v787)] false 0, .nest [.sl (.f64 v1310) v1311] false 0, .nest [.sl (.f64 v1312) v1313] false 0, .row (.f64 v1314) 0, .row (.f64 x) 0, .row (.f64 v1316) 0])
def impl_Whole_upright_l6_kill : List Nat := KL true [1,1,3,2,1,1,2,2,1,2,4,2,20,3,11,2,36]
def impl_Whole_upright_l6_nx : Exit → List Nat
  | .exit 0 => KL true [5,2,87]
  | .exit 1 => KL true [1,1,3,2,13,2,72]
  | .exit 4 => KL true [1,1,3,2,4,2,7,2,72]
  | .exit 5 => KL true [1,1,3,2,1,1,2,2,7,2,20,3,49]
  | .exit 6 => KL true [1,1,3,2,1,1,2,2,2,1,4,2,20,3,49]
  | .ret => KL true [2,3,89]
  | _ => []
noncomputable def impl_Whole_upright_l4_T (v785 v786 : Int) (v787 : List Int) (v1263 v1264 : Int) (v1266 : List (List Nat)) (v1267 : List Nat) (v1268 : List (List Nat)) (v1269 v1270 : List Nat) (s : Int × (List Nat) × (List Nat)) : Tree ((Int × (List Nat) × (List Nat)) ⊕ ((List Nat) × (List Nat))) :=
  (.br (decide (s.1 < v1264)) (
  (.grd (inb s.1 ((v1267).length)) <|
  (.call (impl_dot64_g v1270 (nget v1266 (nth v1267 (Int.toNat s.1)))) fun v1273 =>
  (.call (impl_dot64_g (nget v1266 (nth v1267 (Int.toNat s.1))) (nget v1266 (nth v1267 (Int.toNat s.1)))) fun v1274 =>
  (.need (some (impl_Whole_upright_l6_E v785 v786 v787 (nth v1267 (Int.toNat s.1)) (fdiv .f64 v1273 v1274) v1263 v1264 s.1 (((s.2.1).length : Nat) : Int) v1266 v1267 v1268 v1269 v1270 s.2.2 ((0 : Int), s.2.1)) = some (impl_Whole_upright_l6_E v785 v786 v787 (nth v1267 (Int.toNat s.1)) (fdiv .f64 v1273 v1274) v1263 v1264 s.1 (((s.2.1).length : Nat) : Int) v1266 v1267 v1268 v1269 v1270 s.2.2 ((0 : Int), s.2.1))) <|
  (.call (impl_Whole_upright_l6_g (nth v1267 (Int.toNat s.1)) (fdiv .f64 v1273 v1274) v1263 v1264 s.1 (((s.2.1).length : Nat) : Int) v1266 v1267 v1268 v1269 v1270 s.2.2 ((0 : Int), s.2.1)) fun v1317 =>
  (.grd (fits (s.2.2 ++ ([(fdiv .f64 v1273 v1274)] : List Nat)).length) <|
  .leaf (.inl (IntKind.i64.wrap (s.1 + (1 : Int)), v1317, s.2.2 ++ ([(fdiv .f64 v1273 v1274)] : List Nat)))))))))
  ) (
  .leaf (.inr (s.2.1, s.2.2))
  ))

noncomputable def impl_Whole_upright_l4_g (v785 v786 : Int) (v787 : List Int) (v1263 v1264 : Int) (v1266 : List (List Nat)) (v1267 : List Nat) (v1268 : List (List Nat)) (v1269 v1270 : List Nat) (s0 : Int × (List Nat) × (List Nat)) : Option ((List Nat) × (List Nat)) := whileM (fun s => (impl_Whole_upright_l4_T v785 v786 v787 v1263 v1264 v1266 v1267 v1268 v1269 v1270 s).run) s0
def impl_Whole_upright_l4_E (v785 v786 : Int) (v787 : List Int) (v1263 v1264 : Int) (v1266 : List (List Nat)) (v1267 : List Nat) (v1268 : List (List Nat)) (v1269 v1270 : List Nat) (s : Int × (List Nat) × (List Nat)) : Sd := ([Z,.ptr 0 (0 : Nat) 0 (3 : Nat),Z,Z,Z,.nest 1 0 1 ((v1267).length),.nest 2 0 1 ((v1269).length),Z,.own 3 0 ((v1270).length),Z,Z,.own 4 0 ((s.2.1).length),.own 5 0 ((s.2.2).length),Z,Z,Z,Z,Z,Z,Z,.int .i64 v785,.int .i64 v1263,Z,Z,Z,Z,Z,Z,Z,Z,Z,Z,Z,Z,Z,Z,Z,Z,Z,Z,Z,Z,.nest 1 0 1 ((v1267).length),.int .i64 v1264,.int .i64 s.1,Z,Z,Z,Z,Z,Z,Z,Z,Z,Z,Z,Z,Z,Z,Z,Z,Z,Z,Z,Z,Z,Z,Z,Z,Z,Z,Z,Z,Z,Z,Z,Z,Z,Z,Z,Z,Z,Z,Z,Z,Z,Z,Z,Z,Z,Z,Z,Z,Z], [.gen [.int .i64 v785, .int .i64 v786, .bslc (BR.root 0) (.i64 v787)] false 0, .nest [.sl (.f64 v1266) v1267] false 0, .nest [.sl (.f64 v1268) v1269] false 0, .row (.f64 v1270) 0, .row (.f64 s.2.1) 0, .row (.f64 s.2.2) 0])
def impl_Whole_upright_l4_X (v785 v786 : Int) (v787 : List Int) (v1263 v1264 : Int) (v1266 : List (List Nat)) (v1267 : List Nat) (v1268 : List (List Nat)) (v1269 v1270 : List Nat) (x : (List Nat) × (List Nat)) : Out := (.normal, [Z,.ptr 0 (0 : Nat) 0 (3 : Nat),Z,Z,Z,.nest 1 0 1 ((v1267).length),.nest 2 0 1 ((v1269).length),Z,Z,Z,Z,.own 3 0 ((x.1).length),.own 4 0 ((x.2).length),Z,Z,Z,Z,Z,Z,Z,.int .i64 v785,.int .i64 v1263,Z,Z,Z,Z,Z,Z,Z,Z,Z,Z,Z,Z,Z,Z,Z,Z,Z,Z,Z,Z,Z,Z,Z,Z,Z,Z,Z,Z,Z,Z,Z,Z,Z,Z,Z,Z,Z,Z,Z,Z,Z,Z,Z,Z,Z,Z,Z,Z,Z,Z,Z,Z,Z,Z,Z,Z,Z,Z,Z,Z,Z,Z,Z,Z,Z,Z,Z,Z,Z,Z,Z,Z], [.gen [.int .i64 v785, .int .i64 v786, .bslc (BR.root 0) (.i64 v787)] false 0, .nest [.sl (.f64 v1266) v1267] false 0, .nest [.sl (.f64 v1268) v1269] false 0, .row (.f64 x.1) 0, .row (.f64 x.2) 0])
def impl_Whole_upright_l4_kill : List Nat := KL true [1,1,3,2,1,1,2,2,7,2,20,3,49]
def impl_Whole_upright_l4_nx : Exit → List Nat
  | .exit 0 => KL true [5,2,87]
  | .exit 1 => KL true [1,1,3,2,13,2,72]
  | .exit 4 => KL true [1,1,3,2,4,2,7,2,72]
  | .ret => KL true [2,3,89]
  | _ => []
noncomputable def impl_Whole_upright_l0_T (v785 v786 : Int) (v787 : List Int) (s : Int × (List (List Nat)) × (List Nat) × (List (List Nat)) × (List Nat)) : Tree ((Int × (List (List Nat)) × (List Nat) × (List (List Nat)) × (List Nat)) ⊕ ((Unit) ⊕ ((List (List Nat)) × (List Nat) × (List (List Nat)) × (List Nat)))) :=
  (.br (decide (s.1 < v785)) (
  (.call (impl_Whole_row_g v786 v787 s.1) fun v1128 =>
  (.need (some (impl_Whole_upright_l2_E v785 v786 v787 s.1 (((([] : List Int) ++ (AM.sub v787 (IntKind.i64.wrap (s.1 * v786)) (IntKind.i64.wrap ((IntKind.i64.wrap (s.1 + (1 : Int))) * v786)))).length : Nat) : Int) s.2.1 s.2.2.1 s.2.2.2.1 s.2.2.2.2 (([] : List Int) ++ (AM.sub v787 (IntKind.i64.wrap (s.1 * v786)) (IntKind.i64.wrap ((IntKind.i64.wrap (s.1 + (1 : Int))) * v786)))) ((0 : Int), ([] : List Nat))) = some (impl_Whole_upright_l2_E v785 v786 v787 s.1 (((([] : List Int) ++ (AM.sub v787 (IntKind.i64.wrap (s.1 * v786)) (IntKind.i64.wrap ((IntKind.i64.wrap (s.1 + (1 : Int))) * v786)))).length : Nat) : Int) s.2.1 s.2.2.1 s.2.2.2.1 s.2.2.2.2 (([] : List Int) ++ (AM.sub v787 (IntKind.i64.wrap (s.1 * v786)) (IntKind.i64.wrap ((IntKind.i64.wrap (s.1 + (1 : Int))) * v786)))) ((0 : Int), ([] : List Nat)))) <|
  (.call (impl_Whole_upright_l2_g s.1 (((([] : List Int) ++ (AM.sub v787 (IntKind.i64.wrap (s.1 * v786)) (IntKind.i64.wrap ((IntKind.i64.wrap (s.1 + (1 : Int))) * v786)))).length : Nat) : Int) s.2.1 s.2.2.1 s.2.2.2.1 s.2.2.2.2 (([] : List Int) ++ (AM.sub v787 (IntKind.i64.wrap (s.1 * v786)) (IntKind.i64.wrap ((IntKind.i64.wrap (s.1 + (1 : Int))) * v786)))) ((0 : Int), ([] : List Nat))) fun v1155 =>
  (.call (slices_Clone_float64_float64_g v1155) fun v1156 =>
  (.need (some (impl_Whole_upright_l4_E v785 v786 v787 s.1 (((s.2.2.1).length : Nat) : Int) s.2.1 s.2.2.1 s.2.2.2.1 s.2.2.2.2 v1155 ((0 : Int), ([] : List Nat) ++ v1155, ([] : List Nat))) = some (impl_Whole_upright_l4_E v785 v786 v787 s.1 (((s.2.2.1).length : Nat) : Int) s.2.1 s.2.2.1 s.2.2.2.1 s.2.2.2.2 v1155 ((0 : Int), ([] : List Nat) ++ v1155, ([] : List Nat)))) <|
  (.call (impl_Whole_upright_l4_g v785 v786 v787 s.1 (((s.2.2.1).length : Nat) : Int) s.2.1 s.2.2.1 s.2.2.2.1 s.2.2.2.2 v1155 ((0 : Int), ([] : List Nat) ++ v1155, ([] : List Nat))) fun v1318 =>
  (.call (impl_dot64_g v1318.1 v1318.1) fun v1319 =>
  (.br (!(fgrt .f64 v1319 (0 : Nat))) (
  .leaf (.inr (.inl ()))
  ) (
  (.grd (fits (((s.2.2.1).length) + (1 : Nat))) <|
  (.grd (fits (((s.2.2.2.2).length) + (1 : Nat))) <|
  .leaf (.inl (IntKind.i64.wrap (s.1 + (1 : Int)), s.2.1 ++ ([v1318.1] : List (List Nat)), s.2.2.1 ++ [s.2.1.length + 1], s.2.2.2.1 ++ ([v1318.2] : List (List Nat)), s.2.2.2.2 ++ [s.2.2.2.1.length + 1]))))
  )))))))))
  ) (
  .leaf (.inr (.inr (s.2.1, s.2.2.1, s.2.2.2.1, s.2.2.2.2)))
  ))

noncomputable def impl_Whole_upright_l0_g (v785 v786 : Int) (v787 : List Int) (s0 : Int × (List (List Nat)) × (List Nat) × (List (List Nat)) × (List Nat)) : Option ((Unit) ⊕ ((List (List Nat)) × (List Nat) × (List (List Nat)) × (List Nat))) := whileM (fun s => (impl_Whole_upright_l0_T v785 v786 v787 s).run) s0
def impl_Whole_upright_l0_E (v785 v786 : Int) (v787 : List Int) (s : Int × (List (List Nat)) × (List Nat) × (List (List Nat)) × (List Nat)) : Sd := ([Z,.ptr 0 (0 : Nat) 0 (3 : Nat),Z,Z,Z,.nest 1 0 1 ((s.2.2.1).length),.nest 2 0 1 ((s.2.2.2.2).length),Z,Z,Z,Z,Z,Z,Z,Z,Z,Z,Z,Z,Z,.int .i64 v785,.int .i64 s.1,Z,Z,Z,Z,Z,Z,Z,Z,Z,Z,Z,Z,Z,Z,Z,Z,Z,Z,Z,Z,Z,Z,Z,Z,Z,Z,Z,Z,Z,Z,Z,Z,Z,Z,Z,Z,Z,Z,Z,Z,Z,Z,Z,Z,Z,Z,Z,Z,Z,Z,Z,Z,Z,Z,Z,Z,Z,Z,Z,Z,Z,Z,Z,Z,Z,Z,Z,Z,Z,Z,Z,Z], [.gen [.int .i64 v785, .int .i64 v786, .bslc (BR.root 0) (.i64 v787)] false 0, .nest [.sl (.f64 s.2.1) s.2.2.1] false 0, .nest [.sl (.f64 s.2.2.2.1) s.2.2.2.2] false 0])
def impl_Whole_upright_l0_X (v785 v786 : Int) (v787 : List Int) (x : (Unit) ⊕ ((List (List Nat)) × (List Nat) × (List (List Nat)) × (List Nat))) : Out := (match x with | .inl x => (.ret, [Z,Z,.nilslc,.nilslc,.lit false,Z,Z,Z,Z,Z,Z,Z,Z,Z,Z,Z,Z,Z,Z,Z,Z,Z,Z,Z,Z,Z,Z,Z,Z,Z,Z,Z,Z,Z,Z,Z,Z,Z,Z,Z,Z,Z,Z,Z,Z,Z,Z,Z,Z,Z,Z,Z,Z,Z,Z,Z,Z,Z,Z,Z,Z,Z,Z,Z,Z,Z,Z,Z,Z,Z,Z,Z,Z,Z,Z,Z,Z,Z,Z,Z,Z,Z,Z,Z,Z,Z,Z,Z,Z,Z,Z,Z,Z,Z], []) | .inr x => (.normal, [Z,Z,Z,Z,Z,.nest 0 0 1 ((x.2.1).length),.nest 1 0 1 ((x.2.2.2).length),Z,Z,Z,Z,Z,Z,Z,Z,Z,Z,Z,Z,Z,Z,Z,Z,Z,Z,Z,Z,Z,Z,Z,Z,Z,Z,Z,Z,Z,Z,Z,Z,Z,Z,Z,Z,Z,Z,Z,Z,Z,Z,Z,Z,Z,Z,Z,Z,Z,Z,Z,Z,Z,Z,Z,Z,Z,Z,Z,Z,Z,Z,Z,Z,Z,Z,Z,Z,Z,Z,Z,Z,Z,Z,Z,Z,Z,Z,Z,Z,Z,Z,Z,Z,Z,Z,Z], [.nest [.sl (.f64 x.1) x.2.1] false 0, .nest [.sl (.f64 x.2.2.1) x.2.2.2] false 0]))
def impl_Whole_upright_l0_kill : List Nat := KL true [1,1,3,2,13,2,72]
def impl_Whole_upright_l0_nx : Exit → List Nat
  | .exit 0 => KL true [5,2,87]
  | .ret => KL true [2,3,89]
  | _ => []
noncomputable def impl_Whole_upright_LO (v785 v786 : Int) (v787 : List Int) : LOr := fun id e L =>
  match id with
  | 2 => .need (normA 0 impl_Whole_upright_l2_kill e L = some (impl_Whole_upright_l2_E v785 v786 v787 (gI (vAt e 21)) (gI (vAt e 28)) (gPF L (vAt e 5) 0) (gX L (vAt e 5) 0) (gPF L (vAt e 6) 0) (gX L (vAt e 6) 0) (gRI L (vAt e 27)) ((gI (vAt e 29)), (gRF L (vAt e 8))))) (.call (impl_Whole_upright_l2_g (gI (vAt e 21)) (gI (vAt e 28)) (gPF L (vAt e 5) 0) (gX L (vAt e 5) 0) (gPF L (vAt e 6) 0) (gX L (vAt e 6) 0) (gRI L (vAt e 27)) ((gI (vAt e 29)), (gRF L (vAt e 8)))) fun x => .leaf (impl_Whole_upright_l2_X v785 v786 v787 (gI (vAt e 21)) (gI (vAt e 28)) (gPF L (vAt e 5) 0) (gX L (vAt e 5) 0) (gPF L (vAt e 6) 0) (gX L (vAt e 6) 0) (gRI L (vAt e 27)) x))
  | 6 => .need (normA 0 impl_Whole_upright_l6_kill e L = some (impl_Whole_upright_l6_E v785 v786 v787 (gK (vAt e 14)) (gF (vAt e 15)) (gI (vAt e 21)) (gI (vAt e 43)) (gI (vAt e 44)) (gI (vAt e 56)) (gPF L (vAt e 5) 0) (gX L (vAt e 5) 0) (gPF L (vAt e 6) 0) (gX L (vAt e 6) 0) (gRF L (vAt e 8)) (gRF L (vAt e 12)) ((gI (vAt e 57)), (gRF L (vAt e 11))))) (.call (impl_Whole_upright_l6_g (gK (vAt e 14)) (gF (vAt e 15)) (gI (vAt e 21)) (gI (vAt e 43)) (gI (vAt e 44)) (gI (vAt e 56)) (gPF L (vAt e 5) 0) (gX L (vAt e 5) 0) (gPF L (vAt e 6) 0) (gX L (vAt e 6) 0) (gRF L (vAt e 8)) (gRF L (vAt e 12)) ((gI (vAt e 57)), (gRF L (vAt e 11)))) fun x => .leaf (impl_Whole_upright_l6_X v785 v786 v787 (gK (vAt e 14)) (gF (vAt e 15)) (gI (vAt e 21)) (gI (vAt e 43)) (gI (vAt e 44)) (gI (vAt e 56)) (gPF L (vAt e 5) 0) (gX L (vAt e 5) 0) (gPF L (vAt e 6) 0) (gX L (vAt e 6) 0) (gRF L (vAt e 8)) (gRF L (vAt e 12)) x))
  | 4 => .need (normA 0 impl_Whole_upright_l4_kill e L = some (impl_Whole_upright_l4_E v785 v786 v787 (gI (vAt e 21)) (gI (vAt e 43)) (gPF L (vAt e 5) 0) (gX L (vAt e 5) 0) (gPF L (vAt e 6) 0) (gX L (vAt e 6) 0) (gRF L (vAt e 8)) ((gI (vAt e 44)), (gRF L (vAt e 11)), (gRF L (vAt e 12))))) (.call (impl_Whole_upright_l4_g v785 v786 v787 (gI (vAt e 21)) (gI (vAt e 43)) (gPF L (vAt e 5) 0) (gX L (vAt e 5) 0) (gPF L (vAt e 6) 0) (gX L (vAt e 6) 0) (gRF L (vAt e 8)) ((gI (vAt e 44)), (gRF L (vAt e 11)), (gRF L (vAt e 12)))) fun x => .leaf (impl_Whole_upright_l4_X v785 v786 v787 (gI (vAt e 21)) (gI (vAt e 43)) (gPF L (vAt e 5) 0) (gX L (vAt e 5) 0) (gPF L (vAt e 6) 0) (gX L (vAt e 6) 0) (gRF L (vAt e 8)) x))
  | 0 => .need (normA 0 impl_Whole_upright_l0_kill e L = some (impl_Whole_upright_l0_E v785 v786 v787 ((gI (vAt e 21)), (gPF L (vAt e 5) 0), (gX L (vAt e 5) 0), (gPF L (vAt e 6) 0), (gX L (vAt e 6) 0)))) (.call (impl_Whole_upright_l0_g v785 v786 v787 ((gI (vAt e 21)), (gPF L (vAt e 5) 0), (gX L (vAt e 5) 0), (gPF L (vAt e 6) 0), (gX L (vAt e 6) 0))) fun x => .sum x (fun b0 => .leaf (impl_Whole_upright_l0_X v785 v786 v787 (.inl b0))) (fun c0 => .leaf (impl_Whole_upright_l0_X v785 v786 v787 (.inr c0))))
  | _ => .fail
noncomputable def impl_Whole_upright_tab : List (FuncId × DFn × Bool) := [(51, impl_Whole_row_F, true), (52, slices_Clone_float64_float64_F, true), (26, impl_dot64_F, true), (27, impl_mul64_F, true)]
theorem impl_Whole_upright_hO : OrcOk Try.prog (tabD impl_Whole_upright_tab) (tabM impl_Whole_upright_tab) := tabD_cons impl_Whole_row_Fok (tabD_cons slices_Clone_float64_float64_Fok (tabD_cons impl_dot64_Fok (tabD_cons impl_mul64_Fok (tabD_nil _))))
theorem impl_Whole_upright_l2_be (v785 v786 : Int) (v787 : List Int) (v1146 v1147 : Int) (v1149 : List (List Nat)) (v1150 : List Nat) (v1151 : List (List Nat)) (v1152 : List Nat) (v1154 : List Int) (s : Int × (List Nat)) : bodyT TT (tabD impl_Whole_upright_tab) (tabM impl_Whole_upright_tab) (impl_Whole_upright_LO v785 v786 v787) 0 impl_Whole_upright_l2_kill impl_Whole_upright_l2_nx (bodyOf Try.f23 2) 2 (impl_Whole_upright_l2_E v785 v786 v787 v1146 v1147 v1149 v1150 v1151 v1152 v1154 s) = (impl_Whole_upright_l2_T v1146 v1147 v1149 v1150 v1151 v1152 v1154 s).bind fun y => .leaf (outS (impl_Whole_upright_l2_E v785 v786 v787 v1146 v1147 v1149 v1150 v1151 v1152 v1154) (impl_Whole_upright_l2_X v785 v786 v787 v1146 v1147 v1149 v1150 v1151 v1152 v1154) y) := by kernel_rfl
theorem impl_Whole_upright_l2_ok (v785 v786 : Int) (v787 : List Int) : LSound Try.prog 0 (impl_Whole_upright_LO v785 v786 v787) 2 (bodyOf Try.f23 2) := by
  intro e L out h
  exact lo_ok (E := impl_Whole_upright_l2_E v785 v786 v787 (gI (vAt e 21)) (gI (vAt e 28)) (gPF L (vAt e 5) 0) (gX L (vAt e 5) 0) (gPF L (vAt e 6) 0) (gX L (vAt e 6) 0) (gRI L (vAt e 27))) (gT := impl_Whole_upright_l2_T (gI (vAt e 21)) (gI (vAt e 28)) (gPF L (vAt e 5) 0) (gX L (vAt e 5) 0) (gPF L (vAt e 6) 0) (gX L (vAt e 6) 0) (gRI L (vAt e 27))) (X := impl_Whole_upright_l2_X v785 v786 v787 (gI (vAt e 21)) (gI (vAt e 28)) (gPF L (vAt e 5) 0) (gX L (vAt e 5) 0) (gPF L (vAt e 6) 0) (gX L (vAt e 6) 0) (gRI L (vAt e 27))) (s0 := ((gI (vAt e 29)), (gRF L (vAt e 8)))) tok impl_Whole_upright_hO mixed (LoopsOk_eq (l := []) (by kernel_rfl) trivial) (impl_Whole_upright_l2_be v785 v786 v787 (gI (vAt e 21)) (gI (vAt e 28)) (gPF L (vAt e 5) 0) (gX L (vAt e 5) 0) (gPF L (vAt e 6) 0) (gX L (vAt e 6) 0) (gRI L (vAt e 27))) rfl (by intro x; rfl) h
theorem impl_Whole_upright_l6_be (v785 v786 : Int) (v787 : List Int) (v1303 v1304 : Nat) (v1305 v1306 v1307 v1308 : Int) (v1310 : List (List Nat)) (v1311 : List Nat) (v1312 : List (List Nat)) (v1313 v1314 v1316 : List Nat) (s : Int × (List Nat)) : bodyT TT (tabD impl_Whole_upright_tab) (tabM impl_Whole_upright_tab) (impl_Whole_upright_LO v785 v786 v787) 0 impl_Whole_upright_l6_kill impl_Whole_upright_l6_nx (bodyOf Try.f23 6) 6 (impl_Whole_upright_l6_E v785 v786 v787 v1303 v1304 v1305 v1306 v1307 v1308 v1310 v1311 v1312 v1313 v1314 v1316 s) = (impl_Whole_upright_l6_T v1303 v1304 v1305 v1306 v1307 v1308 v1310 v1311 v1312 v1313 v1314 v1316 s).bind fun y => .leaf (outS (impl_Whole_upright_l6_E v785 v786 v787 v1303 v1304 v1305 v1306 v1307 v1308 v1310 v1311 v1312 v1313 v1314 v1316) (impl_Whole_upright_l6_X v785 v786 v787 v1303 v1304 v1305 v1306 v1307 v1308 v1310 v1311 v1312 v1313 v1314 v1316) y) := by kernel_rfl
theorem impl_Whole_upright_l6_ok (v785 v786 : Int) (v787 : List Int) : LSound Try.prog 0 (impl_Whole_upright_LO v785 v786 v787) 6 (bodyOf Try.f23 6) := by
  intro e L out h
  exact lo_ok (E := impl_Whole_upright_l6_E v785 v786 v787 (gK (vAt e 14)) (gF (vAt e 15)) (gI (vAt e 21)) (gI (vAt e 43)) (gI (vAt e 44)) (gI (vAt e 56)) (gPF L (vAt e 5) 0) (gX L (vAt e 5) 0) (gPF L (vAt e 6) 0) (gX L (vAt e 6) 0) (gRF L (vAt e 8)) (gRF L (vAt e 12))) (gT := impl_Whole_upright_l6_T (gK (vAt e 14)) (gF (vAt e 15)) (gI (vAt e 21)) (gI (vAt e 43)) (gI (vAt e 44)) (gI (vAt e 56)) (gPF L (vAt e 5) 0) (gX L (vAt e 5) 0) (gPF L (vAt e 6) 0) (gX L (vAt e 6) 0) (gRF L (vAt e 8)) (gRF L (vAt e 12))) (X := impl_Whole_upright_l6_X v785 v786 v787 (gK (vAt e 14)) (gF (vAt e 15)) (gI (vAt e 21)) (gI (vAt e 43)) (gI (vAt e 44)) (gI (vAt e 56)) (gPF L (vAt e 5) 0) (gX L (vAt e 5) 0) (gPF L (vAt e 6) 0) (gX L (vAt e 6) 0) (gRF L (vAt e 8)) (gRF L (vAt e 12))) (s0 := ((gI (vAt e 57)), (gRF L (vAt e 11)))) tok impl_Whole_upright_hO mixed (LoopsOk_eq (l := []) (by kernel_rfl) trivial) (impl_Whole_upright_l6_be v785 v786 v787 (gK (vAt e 14)) (gF (vAt e 15)) (gI (vAt e 21)) (gI (vAt e 43)) (gI (vAt e 44)) (gI (vAt e 56)) (gPF L (vAt e 5) 0) (gX L (vAt e 5) 0) (gPF L (vAt e 6) 0) (gX L (vAt e 6) 0) (gRF L (vAt e 8)) (gRF L (vAt e 12))) rfl (by intro x; rfl) h
theorem impl_Whole_upright_l4_be (v785 v786 : Int) (v787 : List Int) (v1263 v1264 : Int) (v1266 : List (List Nat)) (v1267 : List Nat) (v1268 : List (List Nat)) (v1269 v1270 : List Nat) (s : Int × (List Nat) × (List Nat)) : bodyT TT (tabD impl_Whole_upright_tab) (tabM impl_Whole_upright_tab) (impl_Whole_upright_LO v785 v786 v787) 0 impl_Whole_upright_l4_kill impl_Whole_upright_l4_nx (bodyOf Try.f23 4) 4 (impl_Whole_upright_l4_E v785 v786 v787 v1263 v1264 v1266 v1267 v1268 v1269 v1270 s) = (impl_Whole_upright_l4_T v785 v786 v787 v1263 v1264 v1266 v1267 v1268 v1269 v1270 s).bind fun y => .leaf (outS (impl_Whole_upright_l4_E v785 v786 v787 v1263 v1264 v1266 v1267 v1268 v1269 v1270) (impl_Whole_upright_l4_X v785 v786 v787 v1263 v1264 v1266 v1267 v1268 v1269 v1270) y) := by kernel_rfl
theorem impl_Whole_upright_l4_ok (v785 v786 : Int) (v787 : List Int) : LSound Try.prog 0 (impl_Whole_upright_LO v785 v786 v787) 4 (bodyOf Try.f23 4) := by
  intro e L out h
  exact lo_ok (E := impl_Whole_upright_l4_E v785 v786 v787 (gI (vAt e 21)) (gI (vAt e 43)) (gPF L (vAt e 5) 0) (gX L (vAt e 5) 0) (gPF L (vAt e 6) 0) (gX L (vAt e 6) 0) (gRF L (vAt e 8))) (gT := impl_Whole_upright_l4_T v785 v786 v787 (gI (vAt e 21)) (gI (vAt e 43)) (gPF L (vAt e 5) 0) (gX L (vAt e 5) 0) (gPF L (vAt e 6) 0) (gX L (vAt e 6) 0) (gRF L (vAt e 8))) (X := impl_Whole_upright_l4_X v785 v786 v787 (gI (vAt e 21)) (gI (vAt e 43)) (gPF L (vAt e 5) 0) (gX L (vAt e 5) 0) (gPF L (vAt e 6) 0) (gX L (vAt e 6) 0) (gRF L (vAt e 8))) (s0 := ((gI (vAt e 44)), (gRF L (vAt e 11)), (gRF L (vAt e 12)))) tok impl_Whole_upright_hO mixed (LoopsOk_eq (l := [(6, bodyOf Try.f23 6)]) (by kernel_rfl) ⟨impl_Whole_upright_l6_ok v785 v786 v787, trivial⟩) (impl_Whole_upright_l4_be v785 v786 v787 (gI (vAt e 21)) (gI (vAt e 43)) (gPF L (vAt e 5) 0) (gX L (vAt e 5) 0) (gPF L (vAt e 6) 0) (gX L (vAt e 6) 0) (gRF L (vAt e 8))) rfl (by intro x; rfl) h
theorem impl_Whole_upright_l0_be (v785 v786 : Int) (v787 : List Int) (s : Int × (List (List Nat)) × (List Nat) × (List (List Nat)) × (List Nat)) : bodyT TT (tabD impl_Whole_upright_tab) (tabM impl_Whole_upright_tab) (impl_Whole_upright_LO v785 v786 v787) 0 impl_Whole_upright_l0_kill impl_Whole_upright_l0_nx (bodyOf Try.f23 0) 0 (impl_Whole_upright_l0_E v785 v786 v787 s) = (impl_Whole_upright_l0_T v785 v786 v787 s).bind fun y => .leaf (outS (impl_Whole_upright_l0_E v785 v786 v787) (impl_Whole_upright_l0_X v785 v786 v787) y) := by kernel_rfl
theorem impl_Whole_upright_l0_ok (v785 v786 : Int) (v787 : List Int) : LSound Try.prog 0 (impl_Whole_upright_LO v785 v786 v787) 0 (bodyOf Try.f23 0) := by
  intro e L out h
  exact lo_ok (E := impl_Whole_upright_l0_E v785 v786 v787) (gT := impl_Whole_upright_l0_T v785 v786 v787) (X := impl_Whole_upright_l0_X v785 v786 v787) (s0 := ((gI (vAt e 21)), (gPF L (vAt e 5) 0), (gX L (vAt e 5) 0), (gPF L (vAt e 6) 0), (gX L (vAt e 6) 0))) tok impl_Whole_upright_hO mixed (LoopsOk_eq (l := [(2, bodyOf Try.f23 2), (4, bodyOf Try.f23 4)]) (by kernel_rfl) ⟨impl_Whole_upright_l2_ok v785 v786 v787, impl_Whole_upright_l4_ok v785 v786 v787, trivial⟩) (impl_Whole_upright_l0_be v785 v786 v787) rfl (by intro x; (cases x with | inl b => rfl | inr x => exact rfl)) h
noncomputable def impl_Whole_upright_T (v785 v786 : Int) (v787 : List Int) : Tree ((Unit) ⊕ ((List (List Nat)) × (List Nat) × (List (List Nat)) × (List Nat))) :=
  (.need (some (impl_Whole_upright_l0_E v785 v786 v787 ((0 : Int), ([] : List (List Nat)), ([] : List Nat), ([] : List (List Nat)), ([] : List Nat))) = some (impl_Whole_upright_l0_E v785 v786 v787 ((0 : Int), ([] : List (List Nat)), ([] : List Nat), ([] : List (List Nat)), ([] : List Nat)))) <|
  (.call (impl_Whole_upright_l0_g v785 v786 v787 ((0 : Int), ([] : List (List Nat)), ([] : List Nat), ([] : List (List Nat)), ([] : List Nat))) fun v1320 =>
  (.sum v1320 (fun v1321 =>
  .leaf (.inl ())
  ) (fun v1322 =>
  .leaf (.inr (v1322.1, v1322.2.1, v1322.2.2.1, v1322.2.2.2))
  ))))

noncomputable def impl_Whole_upright_g (v785 v786 : Int) (v787 : List Int) : Option ((Unit) ⊕ ((List (List Nat)) × (List Nat) × (List (List Nat)) × (List Nat))) := (impl_Whole_upright_T v785 v786 v787).run
def impl_Whole_upright_enc (v785 v786 : Int) (v787 : List Int) (y : (Unit) ⊕ ((List (List Nat)) × (List Nat) × (List (List Nat)) × (List Nat))) : Rs := (match y with | .inl y => (.tup [.nilslc, .nilslc, .lit false], []) | .inr y => (.tup [.nest 0 0 1 ((y.2.1).length), .nest 1 0 1 ((y.2.2.2).length), .lit true], [.nest [.sl (.f64 y.1) y.2.1] false 0, .nest [.sl (.f64 y.2.2.1) y.2.2.2] false 0]))
theorem impl_Whole_upright_den (v785 v786 : Int) (v787 : List Int) : (den TT (tabD impl_Whole_upright_tab) (tabM impl_Whole_upright_tab) (impl_Whole_upright_LO v785 v786 v787) (codeOf Try.f23) ([.agg [.int .i64 v785, .int .i64 v786, .bslc (BR.root 0) (.i64 v787)]] ++ List.replicate (Try.f23.ntmps - ([.agg [.int .i64 v785, .int .i64 v786, .bslc (BR.root 0) (.i64 v787)]] : List DV).length) .undef) []).bind (retD TT Try.f23.results.toList 0) = (impl_Whole_upright_T v785 v786 v787).bind fun y => .leaf (impl_Whole_upright_enc v785 v786 v787 y) := by kernel_rfl
theorem impl_Whole_upright_fn (v785 v786 : Int) (v787 : List Int) (F : Fr) (h0 : St F [] F.H0) (hA : DVs.Ok F [] [.agg [.int .i64 v785, .int .i64 v786, .bslc (BR.root 0) (.i64 v787)]]) {y : (Unit) ⊕ ((List (List Nat)) × (List Nat) × (List (List Nat)) × (List Nat))} (hy : impl_Whole_upright_g v785 v786 v787 = some y) : ∃ F' H', Fwd 0 F F' [] (impl_Whole_upright_enc v785 v786 v787 y).2 ∧ FnOk Try.prog 23 (DVs.av F [.agg [.int .i64 v785, .int .i64 v786, .bslc (BR.root 0) (.i64 v787)]]) F.H0 ((impl_Whole_upright_enc v785 v786 v787 y).1.av F') H' ∧ St F' (impl_Whole_upright_enc v785 v786 v787 y).2 H' ∧ (impl_Whole_upright_enc v785 v786 v787 y).1.Ok F' (impl_Whole_upright_enc v785 v786 v787 y).2 :=
  fn_fin tok impl_Whole_upright_hO mixed Try.func23 Try.call23 (by kernel_rfl) (LoopsOk_eq (l := [(0, bodyOf Try.f23 0)]) (by kernel_rfl) ⟨impl_Whole_upright_l0_ok v785 v786 v787, trivial⟩) (impl_Whole_upright_den v785 v786 v787) hy h0 hA
noncomputable def impl_Whole_upright_F : DFn := fun args L =>
  match args with
  | [.agg [.int .i64 v785, .int .i64 v786, a1]] =>
    optT (rowI64 L a1) fun v787 =>
    .call (impl_Whole_upright_g v785 v786 v787) fun y => .sum y (fun y0 => .leaf (.tup [.nilslc, .nilslc, .lit false], L)) (fun z0 => .leaf (.tup [.nest (L.length + 0) 0 1 ((z0.2.1).length), .nest (L.length + 1) 0 1 ((z0.2.2.2).length), .lit true], L ++ [.nest [.sl (.f64 z0.1) z0.2.1] false 0, .nest [.sl (.f64 z0.2.2.1) z0.2.2.2] false 0]))
  | _ => .fail
theorem impl_Whole_upright_Fok : COk Try.prog 23 impl_Whole_upright_F true := by
  intro F L H args r L' hs ha hr
  unfold impl_Whole_upright_F at hr
  split at hr
  · rename_i v785 v786 a1
    obtain ⟨v787, hv787, hr⟩ := optT_run hr
    simp only [Tree.run] at hr
    obtain ⟨y, hy, hr⟩ := Option.bind_eq_some_iff.1 hr
    cases y with
    | inl y =>
      simp only [Tree.run, Option.some.injEq, Prod.mk.injEq] at hr
      obtain ⟨rfl, rfl⟩ := hr
      exact call_ok0 hs (fun k => (([a1.av F] : List AV)[k]?).getD .top) [.agg [.int .i64 v785, .int .i64 v786, a1]] [.agg [.int .i64 v785, .int .i64 v786, .bslc (BR.root 0) (.i64 v787)]] (fun F' h0 hi hρ => ⟨by simp [DVs.av, DV.av, BR.av, hρ], impl_Whole_upright_fn v785 v786 v787 F' (st_nil hi) ⟨⟨trivial, trivial, bslc_ok hi (by rw [h0, hρ]; exact rowI64_ok hs (DVs.okAt (DVs.okAt ha 0 rfl) 2 rfl) hv787), trivial⟩, trivial⟩ hy⟩) rfl
    | inr y =>
      simp only [Tree.run, Option.some.injEq, Prod.mk.injEq] at hr
      obtain ⟨rfl, rfl⟩ := hr
      exact call_ok1 hs (fun k => (([a1.av F] : List AV)[k]?).getD .top) [.agg [.int .i64 v785, .int .i64 v786, a1]] [.agg [.int .i64 v785, .int .i64 v786, .bslc (BR.root 0) (.i64 v787)]] (fun F' h0 hi hρ => ⟨by simp [DVs.av, DV.av, BR.av, hρ], impl_Whole_upright_fn v785 v786 v787 F' (st_nil hi) ⟨⟨trivial, trivial, bslc_ok hi (by rw [h0, hρ]; exact rowI64_ok hs (DVs.okAt (DVs.okAt ha 0 rfl) 2 rfl) hv787), trivial⟩, trivial⟩ hy⟩) rfl rfl
  · cases hr
/-! (impl.Whole).at -/
noncomputable def impl_Whole_at_LO (v1342 v1343 : Int) (v1344 : List Int) (v1345 v1346 : Int) : LOr := fun id e L =>
  match id with
  | _ => .fail
noncomputable def impl_Whole_at_tab : List (FuncId × DFn × Bool) := []
theorem impl_Whole_at_hO : OrcOk Try.prog (tabD impl_Whole_at_tab) (tabM impl_Whole_at_tab) := tabD_nil _
noncomputable def impl_Whole_at_T (v1343 : Int) (v1344 : List Int) (v1345 v1346 : Int) : Tree (Int) :=
  (.grd (inb (IntKind.i64.wrap ((IntKind.i64.wrap (v1345 * v1343)) + v1346)) v1344.length) <|
  .leaf (nth v1344 (Int.toNat (IntKind.i64.wrap ((IntKind.i64.wrap (v1345 * v1343)) + v1346)))))

noncomputable def impl_Whole_at_g (v1343 : Int) (v1344 : List Int) (v1345 v1346 : Int) : Option (Int) := (impl_Whole_at_T v1343 v1344 v1345 v1346).run
def impl_Whole_at_enc (v1342 v1343 : Int) (v1344 : List Int) (v1345 v1346 y : Int) : Rs := (.int .i64 y, [])
theorem impl_Whole_at_den (v1342 v1343 : Int) (v1344 : List Int) (v1345 v1346 : Int) : (den TT (tabD impl_Whole_at_tab) (tabM impl_Whole_at_tab) (impl_Whole_at_LO v1342 v1343 v1344 v1345 v1346) (codeOf Try.f33) ([.agg [.int .i64 v1342, .int .i64 v1343, .bslc (BR.root 0) (.i64 v1344)], .int .i64 v1345, .int .i64 v1346] ++ List.replicate (Try.f33.ntmps - ([.agg [.int .i64 v1342, .int .i64 v1343, .bslc (BR.root 0) (.i64 v1344)], .int .i64 v1345, .int .i64 v1346] : List DV).length) .undef) []).bind (retD TT Try.f33.results.toList 0) = (impl_Whole_at_T v1343 v1344 v1345 v1346).bind fun y => .leaf (impl_Whole_at_enc v1342 v1343 v1344 v1345 v1346 y) := by kernel_rfl
theorem impl_Whole_at_fn (v1342 v1343 : Int) (v1344 : List Int) (v1345 v1346 : Int) (F : Fr) (h0 : St F [] F.H0) (hA : DVs.Ok F [] [.agg [.int .i64 v1342, .int .i64 v1343, .bslc (BR.root 0) (.i64 v1344)], .int .i64 v1345, .int .i64 v1346]) {y : Int} (hy : impl_Whole_at_g v1343 v1344 v1345 v1346 = some y) : ∃ F' H', Fwd 0 F F' [] (impl_Whole_at_enc v1342 v1343 v1344 v1345 v1346 y).2 ∧ FnOk Try.prog 33 (DVs.av F [.agg [.int .i64 v1342, .int .i64 v1343, .bslc (BR.root 0) (.i64 v1344)], .int .i64 v1345, .int .i64 v1346]) F.H0 ((impl_Whole_at_enc v1342 v1343 v1344 v1345 v1346 y).1.av F') H' ∧ St F' (impl_Whole_at_enc v1342 v1343 v1344 v1345 v1346 y).2 H' ∧ (impl_Whole_at_enc v1342 v1343 v1344 v1345 v1346 y).1.Ok F' (impl_Whole_at_enc v1342 v1343 v1344 v1345 v1346 y).2 :=
  fn_fin tok impl_Whole_at_hO mixed Try.func33 Try.call33 (by kernel_rfl) (LoopsOk_eq (l := []) (by kernel_rfl) trivial) (impl_Whole_at_den v1342 v1343 v1344 v1345 v1346) hy h0 hA
noncomputable def impl_Whole_at_F : DFn := fun args L =>
  match args with
  | [.agg [.int .i64 v1342, .int .i64 v1343, a1], .int .i64 v1345, .int .i64 v1346] =>
    optT (rowI64 L a1) fun v1344 =>
    .call (impl_Whole_at_g v1343 v1344 v1345 v1346) fun y => .leaf (.int .i64 y, L)
  | _ => .fail
theorem impl_Whole_at_Fok : COk Try.prog 33 impl_Whole_at_F true := by
  intro F L H args r L' hs ha hr
  unfold impl_Whole_at_F at hr
  split at hr
  · rename_i v1342 v1343 a1 v1345 v1346
    obtain ⟨v1344, hv1344, hr⟩ := optT_run hr
    simp only [Tree.run] at hr
    obtain ⟨y, hy, hr⟩ := Option.bind_eq_some_iff.1 hr
    simp only [Tree.run, Option.some.injEq, Prod.mk.injEq] at hr
    obtain ⟨rfl, rfl⟩ := hr
    exact call_ok0 hs (fun k => (([a1.av F] : List AV)[k]?).getD .top) [.agg [.int .i64 v1342, .int .i64 v1343, a1], .int .i64 v1345, .int .i64 v1346] [.agg [.int .i64 v1342, .int .i64 v1343, .bslc (BR.root 0) (.i64 v1344)], .int .i64 v1345, .int .i64 v1346] (fun F' h0 hi hρ => ⟨by simp [DVs.av, DV.av, BR.av, hρ], impl_Whole_at_fn v1342 v1343 v1344 v1345 v1346 F' (st_nil hi) ⟨⟨trivial, trivial, bslc_ok hi (by rw [h0, hρ]; exact rowI64_ok hs (DVs.okAt (DVs.okAt ha 0 rfl) 2 rfl) hv1344), trivial⟩, trivial, trivial, trivial⟩ hy⟩) rfl
  · cases hr
/-! (impl.Whole).takeRow -/
noncomputable def impl_Whole_takeRow_l0_T (v1349 v1351 v1352 v1353 : Int) (s : Int × (List Int)) : Tree ((Int × (List Int)) ⊕ ((List Int))) :=
  (.br (decide (s.1 < v1349)) (
  (.grd (inb (IntKind.i64.wrap ((IntKind.i64.wrap (v1351 * v1349)) + s.1)) ((s.2).length)) <|
  (.call (impl_Whole_at_g v1349 s.2 v1352 s.1) fun v1361 =>
  (.grd (inb (IntKind.i64.wrap ((IntKind.i64.wrap (v1351 * v1349)) + s.1)) ((s.2).length)) <|
  .leaf (.inl (IntKind.i64.wrap (s.1 + (1 : Int)), List.set s.2 (Int.toNat (IntKind.i64.wrap ((IntKind.i64.wrap (v1351 * v1349)) + s.1))) (IntKind.i64.wrap ((nth s.2 (Int.toNat (IntKind.i64.wrap ((IntKind.i64.wrap (v1351 * v1349)) + s.1)))) - (IntKind.i64.wrap (v1353 * v1361)))))))))
  ) (
  .leaf (.inr s.2)
  ))

noncomputable def impl_Whole_takeRow_l0_g (v1349 v1351 v1352 v1353 : Int) (s0 : Int × (List Int)) : Option ((List Int)) := whileM (fun s => (impl_Whole_takeRow_l0_T v1349 v1351 v1352 v1353 s).run) s0
def impl_Whole_takeRow_l0_E (v1348 v1349 : Int) (v1350 : List Int) (v1351 v1352 v1353 : Int) (s : Int × (List Int)) : Sd := ([Z,.int .i64 v1351,.int .i64 v1352,.int .i64 v1353,.ptr 1 (0 : Nat) 0 (3 : Nat),Z,Z,Z,Z,Z,.int .i64 v1349,.int .i64 s.1,Z,Z,Z,Z,Z,Z,Z,Z,Z,Z,Z,Z,Z,Z,Z,Z,Z,Z,Z,Z,Z], [.row (.i64 s.2) 0, .gen [.int .i64 v1348, .int .i64 v1349, .own 0 0 ((s.2).length)] false 0])
def impl_Whole_takeRow_l0_X (v1348 v1349 : Int) (v1350 : List Int) (v1351 v1352 v1353 : Int) (x : (List Int)) : Out := (.normal, [Z,Z,Z,Z,Z,Z,Z,Z,Z,Z,Z,Z,Z,Z,Z,Z,Z,Z,Z,Z,Z,Z,Z,Z,Z,Z,Z,Z,Z,Z,Z,Z,Z], [.row (.i64 x) 0])
def impl_Whole_takeRow_l0_kill : List Nat := KL true [1,4,5,2,21]
def impl_Whole_takeRow_l0_nx : Exit → List Nat
  | .exit 0 => KL true [33]
  | .ret => KL true [33]
  | _ => []
noncomputable def impl_Whole_takeRow_LO (v1348 v1349 : Int) (v1350 : List Int) (v1351 v1352 v1353 : Int) : LOr := fun id e L =>
  match id with
  | 0 => .need (normA 1 impl_Whole_takeRow_l0_kill e L = some (impl_Whole_takeRow_l0_E v1348 v1349 v1350 v1351 v1352 v1353 ((gI (vAt e 11)), (gRI L (cAt L (vAt e 4) 2))))) (.call (impl_Whole_takeRow_l0_g v1349 v1351 v1352 v1353 ((gI (vAt e 11)), (gRI L (cAt L (vAt e 4) 2)))) fun x => .leaf (impl_Whole_takeRow_l0_X v1348 v1349 v1350 v1351 v1352 v1353 x))
  | _ => .fail
noncomputable def impl_Whole_takeRow_tab : List (FuncId × DFn × Bool) := [(33, impl_Whole_at_F, true)]
theorem impl_Whole_takeRow_hO : OrcOk Try.prog (tabD impl_Whole_takeRow_tab) (tabM impl_Whole_takeRow_tab) := tabD_cons impl_Whole_at_Fok (tabD_nil _)
theorem impl_Whole_takeRow_l0_be (v1348 v1349 : Int) (v1350 : List Int) (v1351 v1352 v1353 : Int) (s : Int × (List Int)) : bodyT TT (tabD impl_Whole_takeRow_tab) (tabM impl_Whole_takeRow_tab) (impl_Whole_takeRow_LO v1348 v1349 v1350 v1351 v1352 v1353) 1 impl_Whole_takeRow_l0_kill impl_Whole_takeRow_l0_nx (bodyOf Try.f25 0) 0 (impl_Whole_takeRow_l0_E v1348 v1349 v1350 v1351 v1352 v1353 s) = (impl_Whole_takeRow_l0_T v1349 v1351 v1352 v1353 s).bind fun y => .leaf (outS (impl_Whole_takeRow_l0_E v1348 v1349 v1350 v1351 v1352 v1353) (impl_Whole_takeRow_l0_X v1348 v1349 v1350 v1351 v1352 v1353) y) := by kernel_rfl
theorem impl_Whole_takeRow_l0_ok (v1348 v1349 : Int) (v1350 : List Int) (v1351 v1352 v1353 : Int) : LSound Try.prog 1 (impl_Whole_takeRow_LO v1348 v1349 v1350 v1351 v1352 v1353) 0 (bodyOf Try.f25 0) := by
  intro e L out h
  exact lo_ok (E := impl_Whole_takeRow_l0_E v1348 v1349 v1350 v1351 v1352 v1353) (gT := impl_Whole_takeRow_l0_T v1349 v1351 v1352 v1353) (X := impl_Whole_takeRow_l0_X v1348 v1349 v1350 v1351 v1352 v1353) (s0 := ((gI (vAt e 11)), (gRI L (cAt L (vAt e 4) 2)))) tok impl_Whole_takeRow_hO mixed (LoopsOk_eq (l := []) (by kernel_rfl) trivial) (impl_Whole_takeRow_l0_be v1348 v1349 v1350 v1351 v1352 v1353) rfl (by intro x; rfl) h
noncomputable def impl_Whole_takeRow_T (v1348 v1349 : Int) (v1350 : List Int) (v1351 v1352 v1353 : Int) : Tree ((List Int)) :=
  (.need (some (impl_Whole_takeRow_l0_E v1348 v1349 v1350 v1351 v1352 v1353 ((0 : Int), v1350)) = some (impl_Whole_takeRow_l0_E v1348 v1349 v1350 v1351 v1352 v1353 ((0 : Int), v1350))) <|
  (.call (impl_Whole_takeRow_l0_g v1349 v1351 v1352 v1353 ((0 : Int), v1350)) fun v1362 =>
  .leaf v1362))

noncomputable def impl_Whole_takeRow_g (v1348 v1349 : Int) (v1350 : List Int) (v1351 v1352 v1353 : Int) : Option ((List Int)) := (impl_Whole_takeRow_T v1348 v1349 v1350 v1351 v1352 v1353).run
def impl_Whole_takeRow_enc (v1348 v1349 : Int) (v1350 : List Int) (v1351 v1352 v1353 : Int) (y : (List Int)) : Rs := (.tup [], [.row (.i64 y) 0])
theorem impl_Whole_takeRow_den (v1348 v1349 : Int) (v1350 : List Int) (v1351 v1352 v1353 : Int) : (den TT (tabD impl_Whole_takeRow_tab) (tabM impl_Whole_takeRow_tab) (impl_Whole_takeRow_LO v1348 v1349 v1350 v1351 v1352 v1353) (codeOf Try.f25) ([.agg [.int .i64 v1348, .int .i64 v1349, .own 0 0 v1350.length], .int .i64 v1351, .int .i64 v1352, .int .i64 v1353] ++ List.replicate (Try.f25.ntmps - ([.agg [.int .i64 v1348, .int .i64 v1349, .own 0 0 v1350.length], .int .i64 v1351, .int .i64 v1352, .int .i64 v1353] : List DV).length) .undef) [.row (.i64 v1350) 0]).bind (retD TT Try.f25.results.toList 1) = (impl_Whole_takeRow_T v1348 v1349 v1350 v1351 v1352 v1353).bind fun y => .leaf (impl_Whole_takeRow_enc v1348 v1349 v1350 v1351 v1352 v1353 y) := by kernel_rfl
theorem impl_Whole_takeRow_fn (v1348 v1349 : Int) (v1350 : List Int) (v1351 v1352 v1353 : Int) (F : Fr) (h0 : St F [.row (.i64 v1350) 0] F.H0) (hA : DVs.Ok F [.row (.i64 v1350) 0] [.agg [.int .i64 v1348, .int .i64 v1349, .own 0 0 v1350.length], .int .i64 v1351, .int .i64 v1352, .int .i64 v1353]) {y : (List Int)} (hy : impl_Whole_takeRow_g v1348 v1349 v1350 v1351 v1352 v1353 = some y) : ∃ F' H', Fwd 1 F F' [.row (.i64 v1350) 0] (impl_Whole_takeRow_enc v1348 v1349 v1350 v1351 v1352 v1353 y).2 ∧ FnOk Try.prog 25 (DVs.av F [.agg [.int .i64 v1348, .int .i64 v1349, .own 0 0 v1350.length], .int .i64 v1351, .int .i64 v1352, .int .i64 v1353]) F.H0 ((impl_Whole_takeRow_enc v1348 v1349 v1350 v1351 v1352 v1353 y).1.av F') H' ∧ St F' (impl_Whole_takeRow_enc v1348 v1349 v1350 v1351 v1352 v1353 y).2 H' ∧ (impl_Whole_takeRow_enc v1348 v1349 v1350 v1351 v1352 v1353 y).1.Ok F' (impl_Whole_takeRow_enc v1348 v1349 v1350 v1351 v1352 v1353 y).2 :=
  fn_fin tok impl_Whole_takeRow_hO mixed Try.func25 Try.call25 (by kernel_rfl) (LoopsOk_eq (l := [(0, bodyOf Try.f25 0)]) (by kernel_rfl) ⟨impl_Whole_takeRow_l0_ok v1348 v1349 v1350 v1351 v1352 v1353, trivial⟩) (impl_Whole_takeRow_den v1348 v1349 v1350 v1351 v1352 v1353) hy h0 hA
noncomputable def impl_Whole_takeRow_F : DFn := fun args L =>
  match args with
  | [.agg [.int .i64 v1348, .int .i64 v1349, a1], .int .i64 v1351, .int .i64 v1352, .int .i64 v1353] =>
    optT (ownI64 L a1) fun qv1350 =>
    (match sepB [qv1350.1] [] with
    | true =>
    .call (impl_Whole_takeRow_g v1348 v1349 qv1350.2 v1351 v1352 v1353) fun y => .grd (decide (y.length = qv1350.2.length)) (.leaf (.tup [], setRows L ([qv1350.1].zip [.i64 y])))
    | false => .fail)
  | _ => .fail
theorem impl_Whole_takeRow_Fok : COk Try.prog 25 impl_Whole_takeRow_F false := by
  intro F L H args r L' hs ha hr
  unfold impl_Whole_takeRow_F at hr
  split at hr
  · rename_i v1348 v1349 a1 v1351 v1352 v1353
    obtain ⟨⟨jv1350, v1350⟩, hqv1350, hr⟩ := optT_run hr
    simp only at hr
    split at hr
    · rename_i hsep
      obtain ⟨hnd, hsepv⟩ := sepB_spec hsep
      simp only [Tree.run] at hr
      obtain ⟨y, hy, hr⟩ := Option.bind_eq_some_iff.1 hr
      try simp only [Tree.run] at hr
      obtain ⟨hl0, hr⟩ := ite_run hr
      simp only [Option.some.injEq, Prod.mk.injEq] at hr
      obtain ⟨rfl, rfl⟩ := hr
      obtain ⟨hr0, hu0, ha0, hb0⟩ := (ownR_spec (DVs.okAt (DVs.okAt ha 0 rfl) 2 rfl) (ownI64_or hqv1350))
      exact mut_ok hs (fun k => (([a1.av F] : List AV)[k]?).getD .top) [.agg [.int .i64 v1348, .int .i64 v1349, a1], .int .i64 v1351, .int .i64 v1352, .int .i64 v1353] [.agg [.int .i64 v1348, .int .i64 v1349, .own 0 0 v1350.length], .int .i64 v1351, .int .i64 v1352, .int .i64 v1353] [jv1350] [.i64 v1350] [.i64 y] hnd rfl rfl (fun i j q h1 h2 => by
          rcases i with _ | i
          · simp at h1 h2; subst h1; subst h2; exact hr0
          · simp at h1) (fun i q q' h1 h2 => by
          rcases i with _ | i
          · simp at h1 h2; subst h1; subst h2; first | exact of_decide_eq_true hl0 | rfl
          · simp at h1) (fun j hj => by simp at hj; subst hj; simp [DVs.refs, DV.refs, hu0]) (fun F' h0 hρ ab hst hS => ⟨by (have ab0 := ab 0 _ rfl; simp [DVs.av, DV.av, BR.av, hρ, Row.len, ha0, ab0]), by
          obtain ⟨F1, H1, k0, k1, k2, _⟩ := impl_Whole_takeRow_fn v1348 v1349 v1350 v1351 v1352 v1353 F' hst ⟨⟨trivial, trivial, ⟨_, rfl, Nat.le_refl _, Nat.le_refl _, fun _ => rfl, (ownR_spec (DVs.okAt (DVs.okAt ha 0 rfl) 2 rfl) (ownI64_or hqv1350)).2.2.2⟩, trivial⟩, trivial, trivial, trivial, trivial⟩ hy
          exact ⟨F1, H1, k0, k1, k2⟩⟩) (fun F1 F2 => rfl) (fun F L' => trivial)
    · cases hr
  · cases hr
/-! (impl.Whole).swapRows -/
noncomputable def impl_Whole_swapRows_l0_T (v1407 v1409 v1410 : Int) (s : Int × (List Int)) : Tree ((Int × (List Int)) ⊕ ((List Int))) :=
  (.br (decide (s.1 < v1407)) (
  (.grd (inb (IntKind.i64.wrap ((IntKind.i64.wrap (v1410 * v1407)) + s.1)) ((s.2).length)) <|
  (.grd (inb (IntKind.i64.wrap ((IntKind.i64.wrap (v1409 * v1407)) + s.1)) ((s.2).length)) <|
  (.grd (inb (IntKind.i64.wrap ((IntKind.i64.wrap (v1409 * v1407)) + s.1)) ((s.2).length)) <|
  (.grd (inb (IntKind.i64.wrap ((IntKind.i64.wrap (v1410 * v1407)) + s.1)) ((s.2).length)) <|
  .leaf (.inl (IntKind.i64.wrap (s.1 + (1 : Int)), List.set (List.set s.2 (Int.toNat (IntKind.i64.wrap ((IntKind.i64.wrap (v1409 * v1407)) + s.1))) (nth s.2 (Int.toNat (IntKind.i64.wrap ((IntKind.i64.wrap (v1410 * v1407)) + s.1))))) (Int.toNat (IntKind.i64.wrap ((IntKind.i64.wrap (v1410 * v1407)) + s.1))) (nth s.2 (Int.toNat (IntKind.i64.wrap ((IntKind.i64.wrap (v1409 * v1407)) + s.1))))))))))
  ) (
  .leaf (.inr s.2)
  ))

noncomputable def impl_Whole_swapRows_l0_g (v1407 v1409 v1410 : Int) (s0 : Int × (List Int)) : Option ((List Int)) := whileM (fun s => (impl_Whole_swapRows_l0_T v1407 v1409 v1410 s).run) s0
def impl_Whole_swapRows_l0_E (v1406 v1407 : Int) (v1408 : List Int) (v1409 v1410 : Int) (s : Int × (List Int)) : Sd := ([Z,.int .i64 v1409,.int .i64 v1410,.ptr 1 (0 : Nat) 0 (3 : Nat),Z,Z,Z,Z,Z,Z,.int .i64 v1407,.int .i64 s.1,Z,Z,Z,Z,Z,Z,Z,Z,Z,Z,Z,Z,Z,Z,Z,Z,Z,Z,Z,Z,Z,Z,Z,Z,Z,Z,Z,Z,Z,Z,Z,Z,Z], [.row (.i64 s.2) 0, .gen [.int .i64 v1406, .int .i64 v1407, .own 0 0 ((s.2).length)] false 0])
def impl_Whole_swapRows_l0_X (v1406 v1407 : Int) (v1408 : List Int) (v1409 v1410 : Int) (x : (List Int)) : Out := (.normal, [Z,Z,Z,Z,Z,Z,Z,Z,Z,Z,Z,Z,Z,Z,Z,Z,Z,Z,Z,Z,Z,Z,Z,Z,Z,Z,Z,Z,Z,Z,Z,Z,Z,Z,Z,Z,Z,Z,Z,Z,Z,Z,Z,Z,Z], [.row (.i64 x) 0])
def impl_Whole_swapRows_l0_kill : List Nat := KL true [1,3,6,2,33]
def impl_Whole_swapRows_l0_nx : Exit → List Nat
  | .exit 0 => KL true [45]
  | .ret => KL true [45]
  | _ => []
noncomputable def impl_Whole_swapRows_LO (v1406 v1407 : Int) (v1408 : List Int) (v1409 v1410 : Int) : LOr := fun id e L =>
  match id with
  | 0 => .need (normA 1 impl_Whole_swapRows_l0_kill e L = some (impl_Whole_swapRows_l0_E v1406 v1407 v1408 v1409 v1410 ((gI (vAt e 11)), (gRI L (cAt L (vAt e 3) 2))))) (.call (impl_Whole_swapRows_l0_g v1407 v1409 v1410 ((gI (vAt e 11)), (gRI L (cAt L (vAt e 3) 2)))) fun x => .leaf (impl_Whole_swapRows_l0_X v1406 v1407 v1408 v1409 v1410 x))
  | _ => .fail
noncomputable def impl_Whole_swapRows_tab : List (FuncId × DFn × Bool) := []
theorem impl_Whole_swapRows_hO : OrcOk Try.prog (tabD impl_Whole_swapRows_tab) (tabM impl_Whole_swapRows_tab) := tabD_nil _
theorem impl_Whole_swapRows_l0_be (v1406 v1407 : Int) (v1408 : List Int) (v1409 v1410 : Int) (s : Int × (List Int)) : bodyT TT (tabD impl_Whole_swapRows_tab) (tabM impl_Whole_swapRows_tab) (impl_Whole_swapRows_LO v1406 v1407 v1408 v1409 v1410) 1 impl_Whole_swapRows_l0_kill impl_Whole_swapRows_l0_nx (bodyOf Try.f28 0) 0 (impl_Whole_swapRows_l0_E v1406 v1407 v1408 v1409 v1410 s) = (impl_Whole_swapRows_l0_T v1407 v1409 v1410 s).bind fun y => .leaf (outS (impl_Whole_swapRows_l0_E v1406 v1407 v1408 v1409 v1410) (impl_Whole_swapRows_l0_X v1406 v1407 v1408 v1409 v1410) y) := by kernel_rfl
theorem impl_Whole_swapRows_l0_ok (v1406 v1407 : Int) (v1408 : List Int) (v1409 v1410 : Int) : LSound Try.prog 1 (impl_Whole_swapRows_LO v1406 v1407 v1408 v1409 v1410) 0 (bodyOf Try.f28 0) := by
  intro e L out h
  exact lo_ok (E := impl_Whole_swapRows_l0_E v1406 v1407 v1408 v1409 v1410) (gT := impl_Whole_swapRows_l0_T v1407 v1409 v1410) (X := impl_Whole_swapRows_l0_X v1406 v1407 v1408 v1409 v1410) (s0 := ((gI (vAt e 11)), (gRI L (cAt L (vAt e 3) 2)))) tok impl_Whole_swapRows_hO mixed (LoopsOk_eq (l := []) (by kernel_rfl) trivial) (impl_Whole_swapRows_l0_be v1406 v1407 v1408 v1409 v1410) rfl (by intro x; rfl) h
noncomputable def impl_Whole_swapRows_T (v1406 v1407 : Int) (v1408 : List Int) (v1409 v1410 : Int) : Tree ((List Int)) :=
  (.need (some (impl_Whole_swapRows_l0_E v1406 v1407 v1408 v1409 v1410 ((0 : Int), v1408)) = some (impl_Whole_swapRows_l0_E v1406 v1407 v1408 v1409 v1410 ((0 : Int), v1408))) <|
  (.call (impl_Whole_swapRows_l0_g v1407 v1409 v1410 ((0 : Int), v1408)) fun v1416 =>
  .leaf v1416))

noncomputable def impl_Whole_swapRows_g (v1406 v1407 : Int) (v1408 : List Int) (v1409 v1410 : Int) : Option ((List Int)) := (impl_Whole_swapRows_T v1406 v1407 v1408 v1409 v1410).run
def impl_Whole_swapRows_enc (v1406 v1407 : Int) (v1408 : List Int) (v1409 v1410 : Int) (y : (List Int)) : Rs := (.tup [], [.row (.i64 y) 0])
theorem impl_Whole_swapRows_den (v1406 v1407 : Int) (v1408 : List Int) (v1409 v1410 : Int) : (den TT (tabD impl_Whole_swapRows_tab) (tabM impl_Whole_swapRows_tab) (impl_Whole_swapRows_LO v1406 v1407 v1408 v1409 v1410) (codeOf Try.f28) ([.agg [.int .i64 v1406, .int .i64 v1407, .own 0 0 v1408.length], .int .i64 v1409, .int .i64 v1410] ++ List.replicate (Try.f28.ntmps - ([.agg [.int .i64 v1406, .int .i64 v1407, .own 0 0 v1408.length], .int .i64 v1409, .int .i64 v1410] : List DV).length) .undef) [.row (.i64 v1408) 0]).bind (retD TT Try.f28.results.toList 1) = (impl_Whole_swapRows_T v1406 v1407 v1408 v1409 v1410).bind fun y => .leaf (impl_Whole_swapRows_enc v1406 v1407 v1408 v1409 v1410 y) := by kernel_rfl
theorem impl_Whole_swapRows_fn (v1406 v1407 : Int) (v1408 : List Int) (v1409 v1410 : Int) (F : Fr) (h0 : St F [.row (.i64 v1408) 0] F.H0) (hA : DVs.Ok F [.row (.i64 v1408) 0] [.agg [.int .i64 v1406, .int .i64 v1407, .own 0 0 v1408.length], .int .i64 v1409, .int .i64 v1410]) {y : (List Int)} (hy : impl_Whole_swapRows_g v1406 v1407 v1408 v1409 v1410 = some y) : ∃ F' H', Fwd 1 F F' [.row (.i64 v1408) 0] (impl_Whole_swapRows_enc v1406 v1407 v1408 v1409 v1410 y).2 ∧ FnOk Try.prog 28 (DVs.av F [.agg [.int .i64 v1406, .int .i64 v1407, .own 0 0 v1408.length], .int .i64 v1409, .int .i64 v1410]) F.H0 ((impl_Whole_swapRows_enc v1406 v1407 v1408 v1409 v1410 y).1.av F') H' ∧ St F' (impl_Whole_swapRows_enc v1406 v1407 v1408 v1409 v1410 y).2 H' ∧ (impl_Whole_swapRows_enc v1406 v1407 v1408 v1409 v1410 y).1.Ok F' (impl_Whole_swapRows_enc v1406 v1407 v1408 v1409 v1410 y).2 :=
  fn_fin tok impl_Whole_swapRows_hO mixed Try.func28 Try.call28 (by kernel_rfl) (LoopsOk_eq (l := [(0, bodyOf Try.f28 0)]) (by kernel_rfl) ⟨impl_Whole_swapRows_l0_ok v1406 v1407 v1408 v1409 v1410, trivial⟩) (impl_Whole_swapRows_den v1406 v1407 v1408 v1409 v1410) hy h0 hA
noncomputable def impl_Whole_swapRows_F : DFn := fun args L =>
  match args with
  | [.agg [.int .i64 v1406, .int .i64 v1407, a1], .int .i64 v1409, .int .i64 v1410] =>
    optT (ownI64 L a1) fun qv1408 =>
    (match sepB [qv1408.1] [] with
    | true =>
    .call (impl_Whole_swapRows_g v1406 v1407 qv1408.2 v1409 v1410) fun y => .grd (decide (y.length = qv1408.2.length)) (.leaf (.tup [], setRows L ([qv1408.1].zip [.i64 y])))
    | false => .fail)
  | _ => .fail
theorem impl_Whole_swapRows_Fok : COk Try.prog 28 impl_Whole_swapRows_F false := by
  intro F L H args r L' hs ha hr
  unfold impl_Whole_swapRows_F at hr
  split at hr
  · rename_i v1406 v1407 a1 v1409 v1410
    obtain ⟨⟨jv1408, v1408⟩, hqv1408, hr⟩ := optT_run hr
    simp only at hr
    split at hr
    · rename_i hsep
      obtain ⟨hnd, hsepv⟩ := sepB_spec hsep
      simp only [Tree.run] at hr
      obtain ⟨y, hy, hr⟩ := Option.bind_eq_some_iff.1 hr
      try simp only [Tree.run] at hr
      obtain ⟨hl0, hr⟩ := ite_run hr
      simp only [Option.some.injEq, Prod.mk.injEq] at hr
      obtain ⟨rfl, rfl⟩ := hr
      obtain ⟨hr0, hu0, ha0, hb0⟩ := (ownR_spec (DVs.okAt (DVs.okAt ha 0 rfl) 2 rfl) (ownI64_or hqv1408))
      exact mut_ok hs (fun k => (([a1.av F] : List AV)[k]?).getD .top) [.agg [.int .i64 v1406, .int .i64 v1407, a1], .int .i64 v1409, .int .i64 v1410] [.agg [.int .i64 v1406, .int .i64 v1407, .own 0 0 v1408.length], .int .i64 v1409, .int .i64 v1410] [jv1408] [.i64 v1408] [.i64 y] hnd rfl rfl (fun i j q h1 h2 => by
          rcases i with _ | i
          · simp at h1 h2; subst h1; subst h2; exact hr0
          · simp at h1) (fun i q q' h1 h2 => by
          rcases i with _ | i
          · simp at h1 h2; subst h1; subst h2; first | exact of_decide_eq_true hl0 | rfl
          · simp at h1) (fun j hj => by simp at hj; subst hj; simp [DVs.refs, DV.refs, hu0]) (fun F' h0 hρ ab hst hS => ⟨by (have ab0 := ab 0 _ rfl; simp [DVs.av, DV.av, BR.av, hρ, Row.len, ha0, ab0]), by
          obtain ⟨F1, H1, k0, k1, k2, _⟩ := impl_Whole_swapRows_fn v1406 v1407 v1408 v1409 v1410 F' hst ⟨⟨trivial, trivial, ⟨_, rfl, Nat.le_refl _, Nat.le_refl _, fun _ => rfl, (ownR_spec (DVs.okAt (DVs.okAt ha 0 rfl) 2 rfl) (ownI64_or hqv1408)).2.2.2⟩, trivial⟩, trivial, trivial, trivial⟩ hy
          exact ⟨F1, H1, k0, k1, k2⟩⟩) (fun F1 F2 => rfl) (fun F L' => trivial)
    · cases hr
  · cases hr
/-! impl.ValidWhole -/
noncomputable def impl_ValidWhole_LO (v1529 v1530 : Int) (v1531 : List Int) : LOr := fun id e L =>
  match id with
  | _ => .fail
noncomputable def impl_ValidWhole_tab : List (FuncId × DFn × Bool) := [(50, impl_isWhole_F, true)]
theorem impl_ValidWhole_hO : OrcOk Try.prog (tabD impl_ValidWhole_tab) (tabM impl_ValidWhole_tab) := tabD_cons impl_isWhole_Fok (tabD_nil _)
noncomputable def impl_ValidWhole_T (v1529 v1530 : Int) (v1531 : List Int) : Tree (Bool) :=
  (.call (impl_isWhole_g v1529 v1530 v1531 (1000000 : Int)) fun v1532 =>
  .leaf v1532)

noncomputable def impl_ValidWhole_g (v1529 v1530 : Int) (v1531 : List Int) : Option (Bool) := (impl_ValidWhole_T v1529 v1530 v1531).run
def impl_ValidWhole_enc (v1529 v1530 : Int) (v1531 : List Int) (y : Bool) : Rs := (.bool y, [])
theorem impl_ValidWhole_den (v1529 v1530 : Int) (v1531 : List Int) : (den TT (tabD impl_ValidWhole_tab) (tabM impl_ValidWhole_tab) (impl_ValidWhole_LO v1529 v1530 v1531) (codeOf Try.f29) ([.agg [.int .i64 v1529, .int .i64 v1530, .bslc (BR.root 0) (.i64 v1531)]] ++ List.replicate (Try.f29.ntmps - ([.agg [.int .i64 v1529, .int .i64 v1530, .bslc (BR.root 0) (.i64 v1531)]] : List DV).length) .undef) []).bind (retD TT Try.f29.results.toList 0) = (impl_ValidWhole_T v1529 v1530 v1531).bind fun y => .leaf (impl_ValidWhole_enc v1529 v1530 v1531 y) := by kernel_rfl
theorem impl_ValidWhole_fn (v1529 v1530 : Int) (v1531 : List Int) (F : Fr) (h0 : St F [] F.H0) (hA : DVs.Ok F [] [.agg [.int .i64 v1529, .int .i64 v1530, .bslc (BR.root 0) (.i64 v1531)]]) {y : Bool} (hy : impl_ValidWhole_g v1529 v1530 v1531 = some y) : ∃ F' H', Fwd 0 F F' [] (impl_ValidWhole_enc v1529 v1530 v1531 y).2 ∧ FnOk Try.prog 29 (DVs.av F [.agg [.int .i64 v1529, .int .i64 v1530, .bslc (BR.root 0) (.i64 v1531)]]) F.H0 ((impl_ValidWhole_enc v1529 v1530 v1531 y).1.av F') H' ∧ St F' (impl_ValidWhole_enc v1529 v1530 v1531 y).2 H' ∧ (impl_ValidWhole_enc v1529 v1530 v1531 y).1.Ok F' (impl_ValidWhole_enc v1529 v1530 v1531 y).2 :=
  fn_fin tok impl_ValidWhole_hO mixed Try.func29 Try.call29 (by kernel_rfl) (LoopsOk_eq (l := []) (by kernel_rfl) trivial) (impl_ValidWhole_den v1529 v1530 v1531) hy h0 hA
noncomputable def impl_ValidWhole_F : DFn := fun args L =>
  match args with
  | [.agg [.int .i64 v1529, .int .i64 v1530, a1]] =>
    optT (rowI64 L a1) fun v1531 =>
    .call (impl_ValidWhole_g v1529 v1530 v1531) fun y => .leaf (.bool y, L)
  | _ => .fail
theorem impl_ValidWhole_Fok : COk Try.prog 29 impl_ValidWhole_F true := by
  intro F L H args r L' hs ha hr
  unfold impl_ValidWhole_F at hr
  split at hr
  · rename_i v1529 v1530 a1
    obtain ⟨v1531, hv1531, hr⟩ := optT_run hr
    simp only [Tree.run] at hr
    obtain ⟨y, hy, hr⟩ := Option.bind_eq_some_iff.1 hr
    simp only [Tree.run, Option.some.injEq, Prod.mk.injEq] at hr
    obtain ⟨rfl, rfl⟩ := hr
    exact call_ok0 hs (fun k => (([a1.av F] : List AV)[k]?).getD .top) [.agg [.int .i64 v1529, .int .i64 v1530, a1]] [.agg [.int .i64 v1529, .int .i64 v1530, .bslc (BR.root 0) (.i64 v1531)]] (fun F' h0 hi hρ => ⟨by simp [DVs.av, DV.av, BR.av, hρ], impl_ValidWhole_fn v1529 v1530 v1531 F' (st_nil hi) ⟨⟨trivial, trivial, bslc_ok hi (by rw [h0, hρ]; exact rowI64_ok hs (DVs.okAt (DVs.okAt ha 0 rfl) 2 rfl) hv1531), trivial⟩, trivial⟩ hy⟩) rfl
  · cases hr
/-! impl.ShortRows -/
noncomputable def impl_ShortRows_l2_T (v743 v744 v1506 v1507 : Int) (s : Int × (List (List Nat)) × (List Nat) × (List (List Nat)) × (List Nat) × (List Int)) : Tree ((Int × (List (List Nat)) × (List Nat) × (List (List Nat)) × (List Nat) × (List Int)) ⊕ ((Unit) ⊕ ((List (List Nat)) × (List Nat) × (List (List Nat)) × (List Nat) × (List Int)))) :=
  (.br (decide ((0 : Int) ≤ s.1)) (
  (.grd (inb v1506 ((s.2.2.2.2.1).length)) <|
  (.grd (inb s.1 ((nget s.2.2.2.1 (nth s.2.2.2.2.1 (Int.toNat v1506))).length)) <|
  (.call (math_Floor_g (fadd .f64 (nth (nget s.2.2.2.1 (nth s.2.2.2.2.1 (Int.toNat v1506))) (Int.toNat s.1)) (4602678819172646912 : Nat))) fun v1514 =>
  (.call (ftoint .f64 v1514 .i64) fun v1515 =>
  (.br (decide (v1515 = (0 : Int))) (
  .leaf (.inl (IntKind.i64.wrap (s.1 - (1 : Int)), s.2.1, s.2.2.1, s.2.2.2.1, s.2.2.2.2.1, s.2.2.2.2.2))
  ) (
  (.call (impl_Whole_takeRow_g v743 v744 s.2.2.2.2.2 v1506 s.1 v1515) fun v1516 =>
  (.grd (decide (v1516.length = s.2.2.2.2.2.length)) <|
  (.call (impl_Whole_upright_g v743 v744 v1516) fun v1517 =>
  (.sum v1517 (fun v1518 =>
  .leaf (.inr (.inl ()))
  ) (fun v1519 =>
  .leaf (.inl (IntKind.i64.wrap (s.1 - (1 : Int)), v1519.1, v1519.2.1, v1519.2.2.1, v1519.2.2.2, v1516))
  )))))
  ))))))
  ) (
  .leaf (.inr (.inr (s.2.1, s.2.2.1, s.2.2.2.1, s.2.2.2.2.1, s.2.2.2.2.2)))
  ))

noncomputable def impl_ShortRows_l2_g (v743 v744 v1506 v1507 : Int) (s0 : Int × (List (List Nat)) × (List Nat) × (List (List Nat)) × (List Nat) × (List Int)) : Option ((Unit) ⊕ ((List (List Nat)) × (List Nat) × (List (List Nat)) × (List Nat) × (List Int))) := whileM (fun s => (impl_ShortRows_l2_T v743 v744 v1506 v1507 s).run) s0
def impl_ShortRows_l2_E (v743 v744 : Int) (v745 : List Int) (v746 v1506 v1507 : Int) (s : Int × (List (List Nat)) × (List Nat) × (List (List Nat)) × (List Nat) × (List Int)) : Sd := ([Z,.int .i64 v746,.ptr 0 (0 : Nat) 0 (3 : Nat),Z,.ptr 1 (0 : Nat) 0 (3 : Nat),Z,Z,.ptr 2 (0 : Nat) 0 (3 : Nat),.int .i64 v1506,.int .i64 v1507,.nest 3 0 1 ((s.2.2.1).length),.nest 4 0 1 ((s.2.2.2.2.1).length),Z,.int .i64 s.1,Z,Z,Z,Z,Z,Z,Z,Z,Z,Z,Z,Z,Z,Z,Z,Z,Z,Z,Z,Z,Z,Z,Z,Z,Z,Z,Z,Z,Z,Z,Z,Z,Z,Z,Z,Z,Z,Z,Z,Z,Z,Z,Z,Z,Z,Z,Z,Z,Z,Z,Z,Z,Z,Z,Z,Z,Z,Z,Z,Z,Z,Z,Z,Z,Z,Z,Z,Z,Z,Z,Z,Z,Z,Z,Z,Z,Z,Z,Z,Z,Z,Z,Z,Z,Z,Z,Z,Z,Z,Z,Z,Z,Z,Z,Z,Z,Z,Z,Z,Z,Z,Z,Z,Z,Z,Z,Z,Z,Z,Z,Z,Z,Z,Z,Z,Z,Z,Z,Z,Z,Z,Z,Z,Z,Z,Z,Z,Z,Z,Z,Z,Z,Z], [.gen [.int .i64 v743, .int .i64 v744, .bslc (BR.root 0) (.i64 v745)] false 0, .gen [.int .i64 (0 : Int), .int .i64 (0 : Int), .nilslc] false 0, .gen [.int .i64 v743, .int .i64 v744, .own 5 0 ((s.2.2.2.2.2).length)] false 0, .nest [.sl (.f64 s.2.1) s.2.2.1] false 0, .nest [.sl (.f64 s.2.2.2.1) s.2.2.2.2.1] false 0, .row (.i64 s.2.2.2.2.2) 0])
def impl_ShortRows_l2_X (v743 v744 : Int) (v745 : List Int) (v746 v1506 v1507 : Int) (x : (Unit) ⊕ ((List (List Nat)) × (List Nat) × (List (List Nat)) × (List Nat) × (List Int))) : Out := (match x with | .inl x => (.ret, [Z,Z,Z,Z,.ptr 0 (0 : Nat) 0 (3 : Nat),.int .i64 (0 : Int),.lit false,Z,Z,Z,Z,Z,Z,Z,Z,Z,Z,Z,Z,Z,Z,Z,Z,Z,Z,Z,Z,Z,Z,Z,Z,Z,Z,Z,Z,Z,Z,Z,Z,Z,Z,Z,Z,Z,Z,Z,Z,Z,Z,Z,Z,Z,Z,Z,Z,Z,Z,Z,Z,Z,Z,Z,Z,Z,Z,Z,Z,Z,Z,Z,Z,Z,Z,Z,Z,Z,Z,Z,Z,Z,Z,Z,Z,Z,Z,Z,Z,Z,Z,Z,Z,Z,Z,Z,Z,Z,Z,Z,Z,Z,Z,Z,Z,Z,Z,Z,Z,Z,Z,Z,Z,Z,Z,Z,Z,Z,Z,Z,Z,Z,Z,Z,Z,Z,Z,Z,Z,Z,Z,Z,Z,Z,Z,Z,Z,Z,Z,Z,Z,Z,Z,Z,Z,Z,Z,Z,Z], [.gen [.int .i64 (0 : Int), .int .i64 (0 : Int), .nilslc] false 0]) | .inr x => (.normal, [Z,.int .i64 v746,.ptr 0 (0 : Nat) 0 (3 : Nat),Z,.ptr 1 (0 : Nat) 0 (3 : Nat),Z,Z,.ptr 2 (0 : Nat) 0 (3 : Nat),.int .i64 v1506,.int .i64 v1507,.nest 3 0 1 ((x.2.1).length),.nest 4 0 1 ((x.2.2.2.1).length),Z,Z,Z,Z,Z,Z,Z,Z,Z,Z,Z,Z,Z,Z,Z,Z,Z,Z,Z,Z,Z,Z,Z,Z,Z,Z,Z,Z,Z,Z,Z,Z,Z,Z,Z,Z,Z,Z,Z,Z,Z,Z,Z,Z,Z,Z,Z,Z,Z,Z,Z,Z,Z,Z,Z,Z,Z,Z,Z,Z,Z,Z,Z,Z,Z,Z,Z,Z,Z,Z,Z,Z,Z,Z,Z,Z,Z,Z,Z,Z,Z,Z,Z,Z,Z,Z,Z,Z,Z,Z,Z,Z,Z,Z,Z,Z,Z,Z,Z,Z,Z,Z,Z,Z,Z,Z,Z,Z,Z,Z,Z,Z,Z,Z,Z,Z,Z,Z,Z,Z,Z,Z,Z,Z,Z,Z,Z,Z,Z,Z,Z,Z,Z,Z,Z], [.gen [.int .i64 v743, .int .i64 v744, .bslc (BR.root 0) (.i64 v745)] false 0, .gen [.int .i64 (0 : Int), .int .i64 (0 : Int), .nilslc] false 0, .gen [.int .i64 v743, .int .i64 v744, .own 5 0 ((x.2.2.2.2).length)] false 0, .nest [.sl (.f64 x.1) x.2.1] false 0, .nest [.sl (.f64 x.2.2.1) x.2.2.2.1] false 0, .row (.i64 x.2.2.2.2) 0]))
def impl_ShortRows_l2_kill : List Nat := KL true [1,2,1,1,2,5,1,1,133]
def impl_ShortRows_l2_nx : Exit → List Nat
  | .exit 0 => KL true [4,1,2,1,1,1,137]
  | .exit 1 => KL true [1,2,1,1,2,3,137]
  | .exit 2 => KL true [1,2,1,1,2,5,135]
  | .ret => KL true [4,3,140]
  | _ => []
noncomputable def impl_ShortRows_l0_T (v743 v744 : Int) (v745 : List Int) (v746 : Int) (s : Int × Int × (List Int)) : Tree ((Int × Int × (List Int)) ⊕ ((Unit) ⊕ (Int × (List Int)))) :=
  (.br (decide (s.2.1 < v746)) (
  (.br (decide (s.1 < v743)) (
  (.call (impl_Whole_upright_g v743 v744 s.2.2) fun v1475 =>
  (.sum v1475 (fun v1476 =>
  .leaf (.inr (.inl ()))
  ) (fun v1477 =>
  (.need (some (impl_ShortRows_l2_E v743 v744 v745 v746 s.1 s.2.1 (IntKind.i64.wrap (s.1 - (1 : Int)), v1477.1, v1477.2.1, v1477.2.2.1, v1477.2.2.2, s.2.2)) = some (impl_ShortRows_l2_E v743 v744 v745 v746 s.1 s.2.1 (IntKind.i64.wrap (s.1 - (1 : Int)), v1477.1, v1477.2.1, v1477.2.2.1, v1477.2.2.2, s.2.2))) <|
  (.call (impl_ShortRows_l2_g v743 v744 s.1 s.2.1 (IntKind.i64.wrap (s.1 - (1 : Int)), v1477.1, v1477.2.1, v1477.2.2.1, v1477.2.2.2, s.2.2)) fun v1520 =>
  (.sum v1520 (fun v1521 =>
  .leaf (.inr (.inl ()))
  ) (fun v1522 =>
  (.grd (inb s.1 ((v1522.2.1).length)) <|
  (.grd (inb s.1 ((v1522.2.1).length)) <|
  (.call (impl_dot64_g (nget v1522.1 (nth v1522.2.1 (Int.toNat s.1))) (nget v1522.1 (nth v1522.2.1 (Int.toNat s.1)))) fun v1523 =>
  (.grd (inb (IntKind.i64.wrap (s.1 - (1 : Int))) ((v1522.2.1).length)) <|
  (.grd (inb (IntKind.i64.wrap (s.1 - (1 : Int))) ((v1522.2.1).length)) <|
  (.call (impl_dot64_g (nget v1522.1 (nth v1522.2.1 (Int.toNat (IntKind.i64.wrap (s.1 - (1 : Int)))))) (nget v1522.1 (nth v1522.2.1 (Int.toNat (IntKind.i64.wrap (s.1 - (1 : Int))))))) fun v1524 =>
  (.grd (inb s.1 ((v1522.2.2.2.1).length)) <|
  (.grd (inb (IntKind.i64.wrap (s.1 - (1 : Int))) ((nget v1522.2.2.1 (nth v1522.2.2.2.1 (Int.toNat s.1))).length)) <|
  (.br (fgrt .f64 v1523 (impl_mul64_v (fsub .f64 (4604930618986332160 : Nat) (impl_mul64_v (nth (nget v1522.2.2.1 (nth v1522.2.2.2.1 (Int.toNat s.1))) (Int.toNat (IntKind.i64.wrap (s.1 - (1 : Int))))) (nth (nget v1522.2.2.1 (nth v1522.2.2.2.1 (Int.toNat s.1))) (Int.toNat (IntKind.i64.wrap (s.1 - (1 : Int))))))) v1524) || feq .f64 v1523 (impl_mul64_v (fsub .f64 (4604930618986332160 : Nat) (impl_mul64_v (nth (nget v1522.2.2.1 (nth v1522.2.2.2.1 (Int.toNat s.1))) (Int.toNat (IntKind.i64.wrap (s.1 - (1 : Int))))) (nth (nget v1522.2.2.1 (nth v1522.2.2.2.1 (Int.toNat s.1))) (Int.toNat (IntKind.i64.wrap (s.1 - (1 : Int))))))) v1524)) (
  .leaf (.inl (IntKind.i64.wrap (s.1 + (1 : Int)), IntKind.i64.wrap (s.2.1 + (1 : Int)), v1522.2.2.2.2))
  ) (
  (.call (impl_Whole_swapRows_g v743 v744 v1522.2.2.2.2 s.1 (IntKind.i64.wrap (s.1 - (1 : Int)))) fun v1525 =>
  (.grd (decide (v1525.length = v1522.2.2.2.2.length)) <|
  .leaf (.inl (imax (1 : Int) (IntKind.i64.wrap (s.1 - (1 : Int))), IntKind.i64.wrap (s.2.1 + (1 : Int)), v1525))))
  ))))))))))
  ))))
  )))
  ) (
  .leaf (.inr (.inr (s.2.1, s.2.2)))
  ))
  ) (
  .leaf (.inr (.inr (s.2.1, s.2.2)))
  ))

noncomputable def impl_ShortRows_l0_g (v743 v744 : Int) (v745 : List Int) (v746 : Int) (s0 : Int × Int × (List Int)) : Option ((Unit) ⊕ (Int × (List Int))) := whileM (fun s => (impl_ShortRows_l0_T v743 v744 v745 v746 s).run) s0
def impl_ShortRows_l0_E (v743 v744 : Int) (v745 : List Int) (v746 : Int) (s : Int × Int × (List Int)) : Sd := ([Z,.int .i64 v746,.ptr 0 (0 : Nat) 0 (3 : Nat),Z,.ptr 1 (0 : Nat) 0 (3 : Nat),Z,Z,.ptr 2 (0 : Nat) 0 (3 : Nat),.int .i64 s.1,.int .i64 s.2.1,Z,Z,Z,Z,Z,Z,Z,Z,Z,Z,Z,Z,Z,Z,Z,Z,Z,Z,Z,Z,Z,Z,Z,Z,Z,Z,Z,Z,Z,Z,Z,Z,Z,Z,Z,Z,Z,Z,Z,Z,Z,Z,Z,Z,Z,Z,Z,Z,Z,Z,Z,Z,Z,Z,Z,Z,Z,Z,Z,Z,Z,Z,Z,Z,Z,Z,Z,Z,Z,Z,Z,Z,Z,Z,Z,Z,Z,Z,Z,Z,Z,Z,Z,Z,Z,Z,Z,Z,Z,Z,Z,Z,Z,Z,Z,Z,Z,Z,Z,Z,Z,Z,Z,Z,Z,Z,Z,Z,Z,Z,Z,Z,Z,Z,Z,Z,Z,Z,Z,Z,Z,Z,Z,Z,Z,Z,Z,Z,Z,Z,Z,Z,Z,Z,Z,Z,Z], [.gen [.int .i64 v743, .int .i64 v744, .bslc (BR.root 0) (.i64 v745)] false 0, .gen [.int .i64 (0 : Int), .int .i64 (0 : Int), .nilslc] false 0, .gen [.int .i64 v743, .int .i64 v744, .own 3 0 ((s.2.2).length)] false 0, .row (.i64 s.2.2) 0])
def impl_ShortRows_l0_X (v743 v744 : Int) (v745 : List Int) (v746 : Int) (x : (Unit) ⊕ (Int × (List Int))) : Out := (match x with | .inl x => (.ret, [Z,Z,Z,Z,.ptr 0 (0 : Nat) 0 (3 : Nat),.int .i64 (0 : Int),.lit false,Z,Z,Z,Z,Z,Z,Z,Z,Z,Z,Z,Z,Z,Z,Z,Z,Z,Z,Z,Z,Z,Z,Z,Z,Z,Z,Z,Z,Z,Z,Z,Z,Z,Z,Z,Z,Z,Z,Z,Z,Z,Z,Z,Z,Z,Z,Z,Z,Z,Z,Z,Z,Z,Z,Z,Z,Z,Z,Z,Z,Z,Z,Z,Z,Z,Z,Z,Z,Z,Z,Z,Z,Z,Z,Z,Z,Z,Z,Z,Z,Z,Z,Z,Z,Z,Z,Z,Z,Z,Z,Z,Z,Z,Z,Z,Z,Z,Z,Z,Z,Z,Z,Z,Z,Z,Z,Z,Z,Z,Z,Z,Z,Z,Z,Z,Z,Z,Z,Z,Z,Z,Z,Z,Z,Z,Z,Z,Z,Z,Z,Z,Z,Z,Z,Z,Z,Z,Z,Z,Z], [.gen [.int .i64 (0 : Int), .int .i64 (0 : Int), .nilslc] false 0]) | .inr x => (.normal, [Z,Z,Z,Z,.ptr 0 (0 : Nat) 0 (3 : Nat),Z,Z,.ptr 1 (0 : Nat) 0 (3 : Nat),Z,.int .i64 x.1,Z,Z,Z,Z,Z,Z,Z,Z,Z,Z,Z,Z,Z,Z,Z,Z,Z,Z,Z,Z,Z,Z,Z,Z,Z,Z,Z,Z,Z,Z,Z,Z,Z,Z,Z,Z,Z,Z,Z,Z,Z,Z,Z,Z,Z,Z,Z,Z,Z,Z,Z,Z,Z,Z,Z,Z,Z,Z,Z,Z,Z,Z,Z,Z,Z,Z,Z,Z,Z,Z,Z,Z,Z,Z,Z,Z,Z,Z,Z,Z,Z,Z,Z,Z,Z,Z,Z,Z,Z,Z,Z,Z,Z,Z,Z,Z,Z,Z,Z,Z,Z,Z,Z,Z,Z,Z,Z,Z,Z,Z,Z,Z,Z,Z,Z,Z,Z,Z,Z,Z,Z,Z,Z,Z,Z,Z,Z,Z,Z,Z,Z,Z,Z,Z,Z,Z,Z], [.gen [.int .i64 (0 : Int), .int .i64 (0 : Int), .nilslc] false 0, .gen [.int .i64 v743, .int .i64 v744, .own 2 0 ((x.2).length)] false 0, .row (.i64 x.2) 0]))
def impl_ShortRows_l0_kill : List Nat := KL true [1,2,1,1,2,3,137]
def impl_ShortRows_l0_nx : Exit → List Nat
  | .exit 0 => KL true [4,1,2,1,1,1,137]
  | .ret => KL true [4,3,140]
  | _ => []
noncomputable def impl_ShortRows_LO (v743 v744 : Int) (v745 : List Int) (v746 : Int) : LOr := fun id e L =>
  match id with
  | 2 => .need (normA 0 impl_ShortRows_l2_kill e L = some (impl_ShortRows_l2_E v743 v744 v745 v746 (gI (vAt e 8)) (gI (vAt e 9)) ((gI (vAt e 13)), (gPF L (vAt e 10) 0), (gX L (vAt e 10) 0), (gPF L (vAt e 11) 0), (gX L (vAt e 11) 0), (gRI L (cAt L (vAt e 7) 2))))) (.call (impl_ShortRows_l2_g v743 v744 (gI (vAt e 8)) (gI (vAt e 9)) ((gI (vAt e 13)), (gPF L (vAt e 10) 0), (gX L (vAt e 10) 0), (gPF L (vAt e 11) 0), (gX L (vAt e 11) 0), (gRI L (cAt L (vAt e 7) 2)))) fun x => .sum x (fun b0 => .leaf (impl_ShortRows_l2_X v743 v744 v745 v746 (gI (vAt e 8)) (gI (vAt e 9)) (.inl b0))) (fun c0 => .leaf (impl_ShortRows_l2_X v743 v744 v745 v746 (gI (vAt e 8)) (gI (vAt e 9)) (.inr c0))))
  | 0 => .need (normA 0 impl_ShortRows_l0_kill e L = some (impl_ShortRows_l0_E v743 v744 v745 v746 ((gI (vAt e 8)), (gI (vAt e 9)), (gRI L (cAt L (vAt e 7) 2))))) (.call (impl_ShortRows_l0_g v743 v744 v745 v746 ((gI (vAt e 8)), (gI (vAt e 9)), (gRI L (cAt L (vAt e 7) 2)))) fun x => .sum x (fun b0 => .leaf (impl_ShortRows_l0_X v743 v744 v745 v746 (.inl b0))) (fun c0 => .leaf (impl_ShortRows_l0_X v743 v744 v745 v746 (.inr c0))))
  | _ => .fail
noncomputable def impl_ShortRows_tab : List (FuncId × DFn × Bool) := [(20, impl_isLow_F, true), (21, impl_inRange_F, true), (22, slices_CloneI_F, true), (23, impl_Whole_upright_F, true), (24, math_Floor_F, true), (25, impl_Whole_takeRow_F, false), (26, impl_dot64_F, true), (27, impl_mul64_F, true), (28, impl_Whole_swapRows_F, false), (29, impl_ValidWhole_F, true)]
theorem impl_ShortRows_hO : OrcOk Try.prog (tabD impl_ShortRows_tab) (tabM impl_ShortRows_tab) := tabD_cons impl_isLow_Fok (tabD_cons impl_inRange_Fok (tabD_cons slices_CloneI_Fok (tabD_cons impl_Whole_upright_Fok (tabD_cons math_Floor_Fok (tabD_cons impl_Whole_takeRow_Fok (tabD_cons impl_dot64_Fok (tabD_cons impl_mul64_Fok (tabD_cons impl_Whole_swapRows_Fok (tabD_cons impl_ValidWhole_Fok (tabD_nil _))))))))))
theorem impl_ShortRows_l2_be (v743 v744 : Int) (v745 : List Int) (v746 v1506 v1507 : Int) (s : Int × (List (List Nat)) × (List Nat) × (List (List Nat)) × (List Nat) × (List Int)) : bodyT TT (tabD impl_ShortRows_tab) (tabM impl_ShortRows_tab) (impl_ShortRows_LO v743 v744 v745 v746) 0 impl_ShortRows_l2_kill impl_ShortRows_l2_nx (bodyOf Try.f8 2) 2 (impl_ShortRows_l2_E v743 v744 v745 v746 v1506 v1507 s) = (impl_ShortRows_l2_T v743 v744 v1506 v1507 s).bind fun y => .leaf (outS (impl_ShortRows_l2_E v743 v744 v745 v746 v1506 v1507) (impl_ShortRows_l2_X v743 v744 v745 v746 v1506 v1507) y) := by kernel_rfl
theorem impl_ShortRows_l2_ok (v743 v744 : Int) (v745 : List Int) (v746 : Int) : LSound Try.prog 0 (impl_ShortRows_LO v743 v744 v745 v746) 2 (bodyOf Try.f8 2) := by
  intro e L out h
  exact lo_ok (E := impl_ShortRows_l2_E v743 v744 v745 v746 (gI (vAt e 8)) (gI (vAt e 9))) (gT := impl_ShortRows_l2_T v743 v744 (gI (vAt e 8)) (gI (vAt e 9))) (X := impl_ShortRows_l2_X v743 v744 v745 v746 (gI (vAt e 8)) (gI (vAt e 9))) (s0 := ((gI (vAt e 13)), (gPF L (vAt e 10) 0), (gX L (vAt e 10) 0), (gPF L (vAt e 11) 0), (gX L (vAt e 11) 0), (gRI L (cAt L (vAt e 7) 2)))) tok impl_ShortRows_hO mixed (LoopsOk_eq (l := []) (by kernel_rfl) trivial) (impl_ShortRows_l2_be v743 v744 v745 v746 (gI (vAt e 8)) (gI (vAt e 9))) rfl (by intro x; (cases x with | inl b => rfl | inr x => exact rfl)) h
theorem impl_ShortRows_l0_be (v743 v744 : Int) (v745 : List Int) (v746 : Int) (s : Int × Int × (List Int)) : bodyT TT (tabD impl_ShortRows_tab) (tabM impl_ShortRows_tab) (impl_ShortRows_LO v743 v744 v745 v746) 0 impl_ShortRows_l0_kill impl_ShortRows_l0_nx (bodyOf Try.f8 0) 0 (impl_ShortRows_l0_E v743 v744 v745 v746 s) = (impl_ShortRows_l0_T v743 v744 v745 v746 s).bind fun y => .leaf (outS (impl_ShortRows_l0_E v743 v744 v745 v746) (impl_ShortRows_l0_X v743 v744 v745 v746) y) := by kernel_rfl
theorem impl_ShortRows_l0_ok (v743 v744 : Int) (v745 : List Int) (v746 : Int) : LSound Try.prog 0 (impl_ShortRows_LO v743 v744 v745 v746) 0 (bodyOf Try.f8 0) := by
  intro e L out h
  exact lo_ok (E := impl_ShortRows_l0_E v743 v744 v745 v746) (gT := impl_ShortRows_l0_T v743 v744 v745 v746) (X := impl_ShortRows_l0_X v743 v744 v745 v746) (s0 := ((gI (vAt e 8)), (gI (vAt e 9)), (gRI L (cAt L (vAt e 7) 2)))) tok impl_ShortRows_hO mixed (LoopsOk_eq (l := [(2, bodyOf Try.f8 2)]) (by kernel_rfl) ⟨impl_ShortRows_l2_ok v743 v744 v745 v746, trivial⟩) (impl_ShortRows_l0_be v743 v744 v745 v746) rfl (by intro x; (cases x with | inl b => rfl | inr x => exact rfl)) h
noncomputable def impl_ShortRows_T (v743 v744 : Int) (v745 : List Int) (v746 : Int) : Tree ((Unit) ⊕ (Int × Int × Int × (List Int))) :=
  (.call (impl_isLow_g v743 v744 v745) fun v780 =>
  (.br (!v780) (
  .leaf (.inl ())
  ) (
  (.br (decide (imin (4 : Int) v744 < v743)) (
  .leaf (.inl ())
  ) (
  (.br (!(impl_inRange_v v746 (0 : Int) (1000 : Int))) (
  .leaf (.inl ())
  ) (
  (.call (slices_CloneI_g v745) fun v782 =>
  (.need (some (impl_ShortRows_l0_E v743 v744 v745 v746 ((1 : Int), (0 : Int), ([] : List Int) ++ v745)) = some (impl_ShortRows_l0_E v743 v744 v745 v746 ((1 : Int), (0 : Int), ([] : List Int) ++ v745))) <|
  (.call (impl_ShortRows_l0_g v743 v744 v745 v746 ((1 : Int), (0 : Int), ([] : List Int) ++ v745)) fun v1526 =>
  (.sum v1526 (fun v1527 =>
  .leaf (.inl ())
  ) (fun v1528 =>
  (.call (impl_ValidWhole_g v743 v744 v1528.2) fun v1533 =>
  (.br (!v1533) (
  .leaf (.inl ())
  ) (
  .leaf (.inr (v743, v744, v1528.1, v1528.2))
  )))
  )))))
  ))
  ))
  )))

noncomputable def impl_ShortRows_g (v743 v744 : Int) (v745 : List Int) (v746 : Int) : Option ((Unit) ⊕ (Int × Int × Int × (List Int))) := (impl_ShortRows_T v743 v744 v745 v746).run
def impl_ShortRows_enc (v743 v744 : Int) (v745 : List Int) (v746 : Int) (y : (Unit) ⊕ (Int × Int × Int × (List Int))) : Rs := (match y with | .inl y => (.tup [.agg [.int .i64 (0 : Int), .int .i64 (0 : Int), .nilslc], .int .i64 (0 : Int), .lit false], []) | .inr y => (.tup [.agg [.int .i64 y.1, .int .i64 y.2.1, .own 0 0 ((y.2.2.2).length)], .int .i64 y.2.2.1, .lit true], [.row (.i64 y.2.2.2) 0]))
theorem impl_ShortRows_den (v743 v744 : Int) (v745 : List Int) (v746 : Int) : (den TT (tabD impl_ShortRows_tab) (tabM impl_ShortRows_tab) (impl_ShortRows_LO v743 v744 v745 v746) (codeOf Try.f8) ([.agg [.int .i64 v743, .int .i64 v744, .bslc (BR.root 0) (.i64 v745)], .int .i64 v746] ++ List.replicate (Try.f8.ntmps - ([.agg [.int .i64 v743, .int .i64 v744, .bslc (BR.root 0) (.i64 v745)], .int .i64 v746] : List DV).length) .undef) []).bind (retD TT Try.f8.results.toList 0) = (impl_ShortRows_T v743 v744 v745 v746).bind fun y => .leaf (impl_ShortRows_enc v743 v744 v745 v746 y) := by kernel_rfl
theorem impl_ShortRows_fn (v743 v744 : Int) (v745 : List Int) (v746 : Int) (F : Fr) (h0 : St F [] F.H0) (hA : DVs.Ok F [] [.agg [.int .i64 v743, .int .i64 v744, .bslc (BR.root 0) (.i64 v745)], .int .i64 v746]) {y : (Unit) ⊕ (Int × Int × Int × (List Int))} (hy : impl_ShortRows_g v743 v744 v745 v746 = some y) : ∃ F' H', Fwd 0 F F' [] (impl_ShortRows_enc v743 v744 v745 v746 y).2 ∧ FnOk Try.prog 8 (DVs.av F [.agg [.int .i64 v743, .int .i64 v744, .bslc (BR.root 0) (.i64 v745)], .int .i64 v746]) F.H0 ((impl_ShortRows_enc v743 v744 v745 v746 y).1.av F') H' ∧ St F' (impl_ShortRows_enc v743 v744 v745 v746 y).2 H' ∧ (impl_ShortRows_enc v743 v744 v745 v746 y).1.Ok F' (impl_ShortRows_enc v743 v744 v745 v746 y).2 :=
  fn_fin tok impl_ShortRows_hO mixed Try.func8 Try.call8 (by kernel_rfl) (LoopsOk_eq (l := [(0, bodyOf Try.f8 0)]) (by kernel_rfl) ⟨impl_ShortRows_l0_ok v743 v744 v745 v746, trivial⟩) (impl_ShortRows_den v743 v744 v745 v746) hy h0 hA
noncomputable def impl_ShortRows_F : DFn := fun args L =>
  match args with
  | [.agg [.int .i64 v743, .int .i64 v744, a1], .int .i64 v746] =>
    optT (rowI64 L a1) fun v745 =>
    .call (impl_ShortRows_g v743 v744 v745 v746) fun y => .sum y (fun y0 => .leaf (.tup [.agg [.int .i64 (0 : Int), .int .i64 (0 : Int), .nilslc], .int .i64 (0 : Int), .lit false], L)) (fun z0 => .leaf (.tup [.agg [.int .i64 z0.1, .int .i64 z0.2.1, .own (L.length + 0) 0 ((z0.2.2.2).length)], .int .i64 z0.2.2.1, .lit true], L ++ [.row (.i64 z0.2.2.2) 0]))
  | _ => .fail
theorem impl_ShortRows_Fok : COk Try.prog 8 impl_ShortRows_F true := by
  intro F L H args r L' hs ha hr
  unfold impl_ShortRows_F at hr
  split at hr
  · rename_i v743 v744 a1 v746
    obtain ⟨v745, hv745, hr⟩ := optT_run hr
    simp only [Tree.run] at hr
    obtain ⟨y, hy, hr⟩ := Option.bind_eq_some_iff.1 hr
    cases y with
    | inl y =>
      simp only [Tree.run, Option.some.injEq, Prod.mk.injEq] at hr
      obtain ⟨rfl, rfl⟩ := hr
      exact call_ok0 hs (fun k => (([a1.av F] : List AV)[k]?).getD .top) [.agg [.int .i64 v743, .int .i64 v744, a1], .int .i64 v746] [.agg [.int .i64 v743, .int .i64 v744, .bslc (BR.root 0) (.i64 v745)], .int .i64 v746] (fun F' h0 hi hρ => ⟨by simp [DVs.av, DV.av, BR.av, hρ], impl_ShortRows_fn v743 v744 v745 v746 F' (st_nil hi) ⟨⟨trivial, trivial, bslc_ok hi (by rw [h0, hρ]; exact rowI64_ok hs (DVs.okAt (DVs.okAt ha 0 rfl) 2 rfl) hv745), trivial⟩, trivial, trivial⟩ hy⟩) rfl
    | inr y =>
      simp only [Tree.run, Option.some.injEq, Prod.mk.injEq] at hr
      obtain ⟨rfl, rfl⟩ := hr
      exact call_ok1 hs (fun k => (([a1.av F] : List AV)[k]?).getD .top) [.agg [.int .i64 v743, .int .i64 v744, a1], .int .i64 v746] [.agg [.int .i64 v743, .int .i64 v744, .bslc (BR.root 0) (.i64 v745)], .int .i64 v746] (fun F' h0 hi hρ => ⟨by simp [DVs.av, DV.av, BR.av, hρ], impl_ShortRows_fn v743 v744 v745 v746 F' (st_nil hi) ⟨⟨trivial, trivial, bslc_ok hi (by rw [h0, hρ]; exact rowI64_ok hs (DVs.okAt (DVs.okAt ha 0 rfl) 2 rfl) hv745), trivial⟩, trivial, trivial⟩ hy⟩) rfl rfl
  · cases hr
/-! laws.eqInt64S -/
noncomputable def laws_eqInt64S_l0_T (v1543 v1544 : List Int) (s : Int) : Tree ((Int) ⊕ ((Unit) ⊕ (Unit))) :=
  (.br (decide (s < ((v1543.length : Nat) : Int))) (
  (.grd (inb s v1543.length) <|
  (.grd (inb s v1544.length) <|
  (.br (!decide (nth v1543 (Int.toNat s) = nth v1544 (Int.toNat s))) (
  .leaf (.inr (.inl ()))
  ) (
  .leaf (.inl (IntKind.i64.wrap (s + (1 : Int))))
  ))))
  ) (
  .leaf (.inr (.inr ()))
  ))

noncomputable def laws_eqInt64S_l0_g (v1543 v1544 : List Int) (s0 : Int) : Option ((Unit) ⊕ (Unit)) := whileM (fun s => (laws_eqInt64S_l0_T v1543 v1544 s).run) s0
def laws_eqInt64S_l0_E (v1543 v1544 : List Int) (s : Int) : Sd := ([.bslc (BR.root 0) (.i64 v1543),.bslc (BR.root 1) (.i64 v1544),Z,Z,Z,.int .i64 s,Z,Z,Z,Z,Z,Z,Z,Z,Z,Z,Z,Z,Z,Z,Z,Z,Z,Z,Z,Z], [])
def laws_eqInt64S_l0_X (v1543 v1544 : List Int) (x : (Unit) ⊕ (Unit)) : Out := (match x with | .inl x => (.ret, [Z,Z,Z,Z,.lit false,Z,Z,Z,Z,Z,Z,Z,Z,Z,Z,Z,Z,Z,Z,Z,Z,Z,Z,Z,Z,Z], []) | .inr x => (.normal, [Z,Z,Z,Z,Z,Z,Z,Z,Z,Z,Z,Z,Z,Z,Z,Z,Z,Z,Z,Z,Z,Z,Z,Z,Z,Z], []))
def laws_eqInt64S_l0_kill : List Nat := KL true [0,2,3,1,20]
def laws_eqInt64S_l0_nx : Exit → List Nat
  | .exit 0 => KL true [26]
  | .ret => KL true [4,1,21]
  | _ => []
noncomputable def laws_eqInt64S_LO (v1543 v1544 : List Int) : LOr := fun id e L =>
  match id with
  | 0 => .need (normA 0 laws_eqInt64S_l0_kill e L = some (laws_eqInt64S_l0_E v1543 v1544 (gI (vAt e 5)))) (.call (laws_eqInt64S_l0_g v1543 v1544 (gI (vAt e 5))) fun x => .sum x (fun b0 => .leaf (laws_eqInt64S_l0_X v1543 v1544 (.inl b0))) (fun c0 => .leaf (laws_eqInt64S_l0_X v1543 v1544 (.inr c0))))
  | _ => .fail
noncomputable def laws_eqInt64S_tab : List (FuncId × DFn × Bool) := []
theorem laws_eqInt64S_hO : OrcOk Try.prog (tabD laws_eqInt64S_tab) (tabM laws_eqInt64S_tab) := tabD_nil _
theorem laws_eqInt64S_l0_be (v1543 v1544 : List Int) (s : Int) : bodyT TT (tabD laws_eqInt64S_tab) (tabM laws_eqInt64S_tab) (laws_eqInt64S_LO v1543 v1544) 0 laws_eqInt64S_l0_kill laws_eqInt64S_l0_nx (bodyOf Try.f46 0) 0 (laws_eqInt64S_l0_E v1543 v1544 s) = (laws_eqInt64S_l0_T v1543 v1544 s).bind fun y => .leaf (outS (laws_eqInt64S_l0_E v1543 v1544) (laws_eqInt64S_l0_X v1543 v1544) y) := by kernel_rfl
theorem laws_eqInt64S_l0_ok (v1543 v1544 : List Int) : LSound Try.prog 0 (laws_eqInt64S_LO v1543 v1544) 0 (bodyOf Try.f46 0) := by
  intro e L out h
  exact lo_ok (E := laws_eqInt64S_l0_E v1543 v1544) (gT := laws_eqInt64S_l0_T v1543 v1544) (X := laws_eqInt64S_l0_X v1543 v1544) (s0 := (gI (vAt e 5))) tok laws_eqInt64S_hO mixed (LoopsOk_eq (l := []) (by kernel_rfl) trivial) (laws_eqInt64S_l0_be v1543 v1544) rfl (by intro x; (cases x with | inl b => rfl | inr x => exact rfl)) h
noncomputable def laws_eqInt64S_T (v1543 v1544 : List Int) : Tree (Bool) :=
  (.br (!decide (((v1543.length : Nat) : Int) = ((v1544.length : Nat) : Int))) (
  .leaf false
  ) (
  (.need (some (laws_eqInt64S_l0_E v1543 v1544 (0 : Int)) = some (laws_eqInt64S_l0_E v1543 v1544 (0 : Int))) <|
  (.call (laws_eqInt64S_l0_g v1543 v1544 (0 : Int)) fun v1548 =>
  (.sum v1548 (fun v1549 =>
  .leaf false
  ) (fun v1550 =>
  .leaf true
  ))))
  ))

noncomputable def laws_eqInt64S_g (v1543 v1544 : List Int) : Option (Bool) := (laws_eqInt64S_T v1543 v1544).run
def laws_eqInt64S_enc (v1543 v1544 : List Int) (y : Bool) : Rs := (.bool y, [])
theorem laws_eqInt64S_den (v1543 v1544 : List Int) : (den TT (tabD laws_eqInt64S_tab) (tabM laws_eqInt64S_tab) (laws_eqInt64S_LO v1543 v1544) (codeOf Try.f46) ([.bslc (BR.root 0) (.i64 v1543), .bslc (BR.root 1) (.i64 v1544)] ++ List.replicate (Try.f46.ntmps - ([.bslc (BR.root 0) (.i64 v1543), .bslc (BR.root 1) (.i64 v1544)] : List DV).length) .undef) []).bind (retD TT Try.f46.results.toList 0) = (laws_eqInt64S_T v1543 v1544).bind fun y => .leaf (laws_eqInt64S_enc v1543 v1544 y) := by kernel_rfl
theorem laws_eqInt64S_fn (v1543 v1544 : List Int) (F : Fr) (h0 : St F [] F.H0) (hA : DVs.Ok F [] [.bslc (BR.root 0) (.i64 v1543), .bslc (BR.root 1) (.i64 v1544)]) {y : Bool} (hy : laws_eqInt64S_g v1543 v1544 = some y) : ∃ F' H', Fwd 0 F F' [] (laws_eqInt64S_enc v1543 v1544 y).2 ∧ FnOk Try.prog 46 (DVs.av F [.bslc (BR.root 0) (.i64 v1543), .bslc (BR.root 1) (.i64 v1544)]) F.H0 ((laws_eqInt64S_enc v1543 v1544 y).1.av F') H' ∧ St F' (laws_eqInt64S_enc v1543 v1544 y).2 H' ∧ (laws_eqInt64S_enc v1543 v1544 y).1.Ok F' (laws_eqInt64S_enc v1543 v1544 y).2 :=
  fn_fin tok laws_eqInt64S_hO mixed Try.func46 Try.call46 (by kernel_rfl) (LoopsOk_eq (l := [(0, bodyOf Try.f46 0)]) (by kernel_rfl) ⟨laws_eqInt64S_l0_ok v1543 v1544, trivial⟩) (laws_eqInt64S_den v1543 v1544) hy h0 hA
noncomputable def laws_eqInt64S_F : DFn := fun args L =>
  match args with
  | [a1, a2] =>
    optT (rowI64 L a1) fun v1543 =>
    optT (rowI64 L a2) fun v1544 =>
    .call (laws_eqInt64S_g v1543 v1544) fun y => .leaf (.bool y, L)
  | _ => .fail
theorem laws_eqInt64S_Fok : COk Try.prog 46 laws_eqInt64S_F true := by
  intro F L H args r L' hs ha hr
  unfold laws_eqInt64S_F at hr
  split at hr
  · rename_i a1 a2
    obtain ⟨v1543, hv1543, hr⟩ := optT_run hr
    obtain ⟨v1544, hv1544, hr⟩ := optT_run hr
    simp only [Tree.run] at hr
    obtain ⟨y, hy, hr⟩ := Option.bind_eq_some_iff.1 hr
    simp only [Tree.run, Option.some.injEq, Prod.mk.injEq] at hr
    obtain ⟨rfl, rfl⟩ := hr
    exact call_ok0 hs (fun k => (([a1.av F, a2.av F] : List AV)[k]?).getD .top) [a1, a2] [.bslc (BR.root 0) (.i64 v1543), .bslc (BR.root 1) (.i64 v1544)] (fun F' h0 hi hρ => ⟨by simp [DVs.av, DV.av, BR.av, hρ], laws_eqInt64S_fn v1543 v1544 F' (st_nil hi) ⟨bslc_ok hi (by rw [h0, hρ]; exact rowI64_ok hs (DVs.okAt ha 0 rfl) hv1543), bslc_ok hi (by rw [h0, hρ]; exact rowI64_ok hs (DVs.okAt ha 1 rfl) hv1544), trivial⟩ hy⟩) rfl
  · cases hr
/-! laws.eqWhole -/
noncomputable def laws_eqWhole_LO (v1537 v1538 : Int) (v1539 : List Int) (v1540 v1541 : Int) (v1542 : List Int) : LOr := fun id e L =>
  match id with
  | _ => .fail
noncomputable def laws_eqWhole_tab : List (FuncId × DFn × Bool) := [(46, laws_eqInt64S_F, true)]
theorem laws_eqWhole_hO : OrcOk Try.prog (tabD laws_eqWhole_tab) (tabM laws_eqWhole_tab) := tabD_cons laws_eqInt64S_Fok (tabD_nil _)
noncomputable def laws_eqWhole_T (v1537 v1538 : Int) (v1539 : List Int) (v1540 v1541 : Int) (v1542 : List Int) : Tree (Bool) :=
  (.br (!decide (v1537 = v1540)) (
  .leaf false
  ) (
  (.br (!decide (v1538 = v1541)) (
  .leaf false
  ) (
  (.call (laws_eqInt64S_g v1539 v1542) fun v1551 =>
  (.br (!v1551) (
  .leaf false
  ) (
  .leaf true
  )))
  ))
  ))

noncomputable def laws_eqWhole_g (v1537 v1538 : Int) (v1539 : List Int) (v1540 v1541 : Int) (v1542 : List Int) : Option (Bool) := (laws_eqWhole_T v1537 v1538 v1539 v1540 v1541 v1542).run
def laws_eqWhole_enc (v1537 v1538 : Int) (v1539 : List Int) (v1540 v1541 : Int) (v1542 : List Int) (y : Bool) : Rs := (.bool y, [])
theorem laws_eqWhole_den (v1537 v1538 : Int) (v1539 : List Int) (v1540 v1541 : Int) (v1542 : List Int) : (den TT (tabD laws_eqWhole_tab) (tabM laws_eqWhole_tab) (laws_eqWhole_LO v1537 v1538 v1539 v1540 v1541 v1542) (codeOf Try.f15) ([.agg [.int .i64 v1537, .int .i64 v1538, .bslc (BR.root 0) (.i64 v1539)], .agg [.int .i64 v1540, .int .i64 v1541, .bslc (BR.root 1) (.i64 v1542)]] ++ List.replicate (Try.f15.ntmps - ([.agg [.int .i64 v1537, .int .i64 v1538, .bslc (BR.root 0) (.i64 v1539)], .agg [.int .i64 v1540, .int .i64 v1541, .bslc (BR.root 1) (.i64 v1542)]] : List DV).length) .undef) []).bind (retD TT Try.f15.results.toList 0) = (laws_eqWhole_T v1537 v1538 v1539 v1540 v1541 v1542).bind fun y => .leaf (laws_eqWhole_enc v1537 v1538 v1539 v1540 v1541 v1542 y) := by kernel_rfl
theorem laws_eqWhole_fn (v1537 v1538 : Int) (v1539 : List Int) (v1540 v1541 : Int) (v1542 : List Int) (F : Fr) (h0 : St F [] F.H0) (hA : DVs.Ok F [] [.agg [.int .i64 v1537, .int .i64 v1538, .bslc (BR.root 0) (.i64 v1539)], .agg [.int .i64 v1540, .int .i64 v1541, .bslc (BR.root 1) (.i64 v1542)]]) {y : Bool} (hy : laws_eqWhole_g v1537 v1538 v1539 v1540 v1541 v1542 = some y) : ∃ F' H', Fwd 0 F F' [] (laws_eqWhole_enc v1537 v1538 v1539 v1540 v1541 v1542 y).2 ∧ FnOk Try.prog 15 (DVs.av F [.agg [.int .i64 v1537, .int .i64 v1538, .bslc (BR.root 0) (.i64 v1539)], .agg [.int .i64 v1540, .int .i64 v1541, .bslc (BR.root 1) (.i64 v1542)]]) F.H0 ((laws_eqWhole_enc v1537 v1538 v1539 v1540 v1541 v1542 y).1.av F') H' ∧ St F' (laws_eqWhole_enc v1537 v1538 v1539 v1540 v1541 v1542 y).2 H' ∧ (laws_eqWhole_enc v1537 v1538 v1539 v1540 v1541 v1542 y).1.Ok F' (laws_eqWhole_enc v1537 v1538 v1539 v1540 v1541 v1542 y).2 :=
  fn_fin tok laws_eqWhole_hO mixed Try.func15 Try.call15 (by kernel_rfl) (LoopsOk_eq (l := []) (by kernel_rfl) trivial) (laws_eqWhole_den v1537 v1538 v1539 v1540 v1541 v1542) hy h0 hA
noncomputable def laws_eqWhole_F : DFn := fun args L =>
  match args with
  | [.agg [.int .i64 v1537, .int .i64 v1538, a1], .agg [.int .i64 v1540, .int .i64 v1541, a2]] =>
    optT (rowI64 L a1) fun v1539 =>
    optT (rowI64 L a2) fun v1542 =>
    .call (laws_eqWhole_g v1537 v1538 v1539 v1540 v1541 v1542) fun y => .leaf (.bool y, L)
  | _ => .fail
theorem laws_eqWhole_Fok : COk Try.prog 15 laws_eqWhole_F true := by
  intro F L H args r L' hs ha hr
  unfold laws_eqWhole_F at hr
  split at hr
  · rename_i v1537 v1538 a1 v1540 v1541 a2
    obtain ⟨v1539, hv1539, hr⟩ := optT_run hr
    obtain ⟨v1542, hv1542, hr⟩ := optT_run hr
    simp only [Tree.run] at hr
    obtain ⟨y, hy, hr⟩ := Option.bind_eq_some_iff.1 hr
    simp only [Tree.run, Option.some.injEq, Prod.mk.injEq] at hr
    obtain ⟨rfl, rfl⟩ := hr
    exact call_ok0 hs (fun k => (([a1.av F, a2.av F] : List AV)[k]?).getD .top) [.agg [.int .i64 v1537, .int .i64 v1538, a1], .agg [.int .i64 v1540, .int .i64 v1541, a2]] [.agg [.int .i64 v1537, .int .i64 v1538, .bslc (BR.root 0) (.i64 v1539)], .agg [.int .i64 v1540, .int .i64 v1541, .bslc (BR.root 1) (.i64 v1542)]] (fun F' h0 hi hρ => ⟨by simp [DVs.av, DV.av, BR.av, hρ], laws_eqWhole_fn v1537 v1538 v1539 v1540 v1541 v1542 F' (st_nil hi) ⟨⟨trivial, trivial, bslc_ok hi (by rw [h0, hρ]; exact rowI64_ok hs (DVs.okAt (DVs.okAt ha 0 rfl) 2 rfl) hv1539), trivial⟩, ⟨trivial, trivial, bslc_ok hi (by rw [h0, hρ]; exact rowI64_ok hs (DVs.okAt (DVs.okAt ha 1 rfl) 2 rfl) hv1542), trivial⟩, trivial⟩ hy⟩) rfl
  · cases hr
/-! laws.markInt64S -/
noncomputable def laws_markInt64S_l0_T (s : Int × Int × (List Int)) : Tree ((Int × Int × (List Int)) ⊕ (Int × (List Int))) :=
  (.br (decide (s.2.1 < (((s.2.2).length : Nat) : Int))) (
  (.grd (inb s.2.1 ((s.2.2).length)) <|
  .leaf (.inl (IntKind.i64.wrap (s.1 + (1 : Int)), IntKind.i64.wrap (s.2.1 + (1 : Int)), List.set s.2.2 (Int.toNat s.2.1) s.1)))
  ) (
  .leaf (.inr (s.1, s.2.2))
  ))

noncomputable def laws_markInt64S_l0_g (s0 : Int × Int × (List Int)) : Option (Int × (List Int)) := whileM (fun s => (laws_markInt64S_l0_T s).run) s0
def laws_markInt64S_l0_E (v1563 : List Int) (v1564 : Int) (s : Int × Int × (List Int)) : Sd := ([.own 0 0 ((s.2.2).length),.int .i64 s.1,Z,Z,Z,.int .i64 s.2.1,Z,Z,Z,Z,Z,Z,Z,Z,Z,Z,Z,Z,Z], [.row (.i64 s.2.2) 0])
def laws_markInt64S_l0_X (v1563 : List Int) (v1564 : Int) (x : Int × (List Int)) : Out := (.normal, [Z,.int .i64 x.1,Z,Z,Z,Z,Z,Z,Z,Z,Z,Z,Z,Z,Z,Z,Z,Z,Z], [.row (.i64 x.2) 0])
def laws_markInt64S_l0_kill : List Nat := KL true [0,2,3,1,13]
def laws_markInt64S_l0_nx : Exit → List Nat
  | .exit 0 => KL true [1,1,17]
  | .ret => KL true [4,1,14]
  | _ => []
noncomputable def laws_markInt64S_LO (v1563 : List Int) (v1564 : Int) : LOr := fun id e L =>
  match id with
  | 0 => .need (normA 1 laws_markInt64S_l0_kill e L = some (laws_markInt64S_l0_E v1563 v1564 ((gI (vAt e 1)), (gI (vAt e 5)), (gRI L (vAt e 0))))) (.call (laws_markInt64S_l0_g ((gI (vAt e 1)), (gI (vAt e 5)), (gRI L (vAt e 0)))) fun x => .leaf (laws_markInt64S_l0_X v1563 v1564 x))
  | _ => .fail
noncomputable def laws_markInt64S_tab : List (FuncId × DFn × Bool) := []
theorem laws_markInt64S_hO : OrcOk Try.prog (tabD laws_markInt64S_tab) (tabM laws_markInt64S_tab) := tabD_nil _
theorem laws_markInt64S_l0_be (v1563 : List Int) (v1564 : Int) (s : Int × Int × (List Int)) : bodyT TT (tabD laws_markInt64S_tab) (tabM laws_markInt64S_tab) (laws_markInt64S_LO v1563 v1564) 1 laws_markInt64S_l0_kill laws_markInt64S_l0_nx (bodyOf Try.f47 0) 0 (laws_markInt64S_l0_E v1563 v1564 s) = (laws_markInt64S_l0_T s).bind fun y => .leaf (outS (laws_markInt64S_l0_E v1563 v1564) (laws_markInt64S_l0_X v1563 v1564) y) := by kernel_rfl
theorem laws_markInt64S_l0_ok (v1563 : List Int) (v1564 : Int) : LSound Try.prog 1 (laws_markInt64S_LO v1563 v1564) 0 (bodyOf Try.f47 0) := by
  intro e L out h
  exact lo_ok (E := laws_markInt64S_l0_E v1563 v1564) (gT := laws_markInt64S_l0_T) (X := laws_markInt64S_l0_X v1563 v1564) (s0 := ((gI (vAt e 1)), (gI (vAt e 5)), (gRI L (vAt e 0)))) tok laws_markInt64S_hO mixed (LoopsOk_eq (l := []) (by kernel_rfl) trivial) (laws_markInt64S_l0_be v1563 v1564) rfl (by intro x; rfl) h
noncomputable def laws_markInt64S_T (v1563 : List Int) (v1564 : Int) : Tree (Int × (List Int)) :=
  (.need (some (laws_markInt64S_l0_E v1563 v1564 (v1564, (0 : Int), v1563)) = some (laws_markInt64S_l0_E v1563 v1564 (v1564, (0 : Int), v1563))) <|
  (.call (laws_markInt64S_l0_g (v1564, (0 : Int), v1563)) fun v1573 =>
  .leaf (v1573.1, v1573.2)))

noncomputable def laws_markInt64S_g (v1563 : List Int) (v1564 : Int) : Option (Int × (List Int)) := (laws_markInt64S_T v1563 v1564).run
def laws_markInt64S_enc (v1563 : List Int) (v1564 : Int) (y : Int × (List Int)) : Rs := (.int .i64 y.1, [.row (.i64 y.2) 0])
theorem laws_markInt64S_den (v1563 : List Int) (v1564 : Int) : (den TT (tabD laws_markInt64S_tab) (tabM laws_markInt64S_tab) (laws_markInt64S_LO v1563 v1564) (codeOf Try.f47) ([.own 0 0 v1563.length, .int .i64 v1564] ++ List.replicate (Try.f47.ntmps - ([.own 0 0 v1563.length, .int .i64 v1564] : List DV).length) .undef) [.row (.i64 v1563) 0]).bind (retD TT Try.f47.results.toList 1) = (laws_markInt64S_T v1563 v1564).bind fun y => .leaf (laws_markInt64S_enc v1563 v1564 y) := by kernel_rfl
theorem laws_markInt64S_fn (v1563 : List Int) (v1564 : Int) (F : Fr) (h0 : St F [.row (.i64 v1563) 0] F.H0) (hA : DVs.Ok F [.row (.i64 v1563) 0] [.own 0 0 v1563.length, .int .i64 v1564]) {y : Int × (List Int)} (hy : laws_markInt64S_g v1563 v1564 = some y) : ∃ F' H', Fwd 1 F F' [.row (.i64 v1563) 0] (laws_markInt64S_enc v1563 v1564 y).2 ∧ FnOk Try.prog 47 (DVs.av F [.own 0 0 v1563.length, .int .i64 v1564]) F.H0 ((laws_markInt64S_enc v1563 v1564 y).1.av F') H' ∧ St F' (laws_markInt64S_enc v1563 v1564 y).2 H' ∧ (laws_markInt64S_enc v1563 v1564 y).1.Ok F' (laws_markInt64S_enc v1563 v1564 y).2 :=
  fn_fin tok laws_markInt64S_hO mixed Try.func47 Try.call47 (by kernel_rfl) (LoopsOk_eq (l := [(0, bodyOf Try.f47 0)]) (by kernel_rfl) ⟨laws_markInt64S_l0_ok v1563 v1564, trivial⟩) (laws_markInt64S_den v1563 v1564) hy h0 hA
noncomputable def laws_markInt64S_F : DFn := fun args L =>
  match args with
  | [a1, .int .i64 v1564] =>
    optT (ownI64 L a1) fun qv1563 =>
    (match sepB [qv1563.1] [] with
    | true =>
    .call (laws_markInt64S_g qv1563.2 v1564) fun y => .grd (decide (y.2.length = qv1563.2.length)) (.leaf (.int .i64 y.1, setRows L ([qv1563.1].zip [.i64 y.2])))
    | false => .fail)
  | _ => .fail
theorem laws_markInt64S_Fok : COk Try.prog 47 laws_markInt64S_F false := by
  intro F L H args r L' hs ha hr
  unfold laws_markInt64S_F at hr
  split at hr
  · rename_i a1 v1564
    obtain ⟨⟨jv1563, v1563⟩, hqv1563, hr⟩ := optT_run hr
    simp only at hr
    split at hr
    · rename_i hsep
      obtain ⟨hnd, hsepv⟩ := sepB_spec hsep
      simp only [Tree.run] at hr
      obtain ⟨y, hy, hr⟩ := Option.bind_eq_some_iff.1 hr
      try simp only [Tree.run] at hr
      obtain ⟨hl0, hr⟩ := ite_run hr
      simp only [Option.some.injEq, Prod.mk.injEq] at hr
      obtain ⟨rfl, rfl⟩ := hr
      obtain ⟨hr0, hu0, ha0, hb0⟩ := (ownR_spec (DVs.okAt ha 0 rfl) (ownI64_or hqv1563))
      exact mut_ok hs (fun k => (([a1.av F] : List AV)[k]?).getD .top) [a1, .int .i64 v1564] [.own 0 0 v1563.length, .int .i64 v1564] [jv1563] [.i64 v1563] [.i64 y.2] hnd rfl rfl (fun i j q h1 h2 => by
          rcases i with _ | i
          · simp at h1 h2; subst h1; subst h2; exact hr0
          · simp at h1) (fun i q q' h1 h2 => by
          rcases i with _ | i
          · simp at h1 h2; subst h1; subst h2; first | exact of_decide_eq_true hl0 | rfl
          · simp at h1) (fun j hj => by simp at hj; subst hj; simp [DVs.refs, DV.refs, hu0]) (fun F' h0 hρ ab hst hS => ⟨by (have ab0 := ab 0 _ rfl; simp [DVs.av, DV.av, BR.av, hρ, Row.len, ha0, ab0]), by
          obtain ⟨F1, H1, k0, k1, k2, _⟩ := laws_markInt64S_fn v1563 v1564 F' hst ⟨⟨_, rfl, Nat.le_refl _, Nat.le_refl _, fun _ => rfl, (ownR_spec (DVs.okAt ha 0 rfl) (ownI64_or hqv1563)).2.2.2⟩, trivial, trivial⟩ hy
          exact ⟨F1, H1, k0, k1, k2⟩⟩) (fun F1 F2 => rfl) (fun F L' => trivial)
    · cases hr
  · cases hr
/-! laws.markWhole -/
noncomputable def laws_markWhole_LO (v1574 v1575 : Int) (v1576 : List Int) (v1577 : Int) : LOr := fun id e L =>
  match id with
  | _ => .fail
noncomputable def laws_markWhole_tab : List (FuncId × DFn × Bool) := [(47, laws_markInt64S_F, false)]
theorem laws_markWhole_hO : OrcOk Try.prog (tabD laws_markWhole_tab) (tabM laws_markWhole_tab) := tabD_cons laws_markInt64S_Fok (tabD_nil _)
noncomputable def laws_markWhole_T (v1576 : List Int) (v1577 : Int) : Tree (Int × (List Int)) :=
  (.call (laws_markInt64S_g v1576 v1577) fun v1578 =>
  (.grd (decide (v1578.2.length = v1576.length)) <|
  .leaf (v1578.1, v1578.2)))

noncomputable def laws_markWhole_g (v1576 : List Int) (v1577 : Int) : Option (Int × (List Int)) := (laws_markWhole_T v1576 v1577).run
def laws_markWhole_enc (v1574 v1575 : Int) (v1576 : List Int) (v1577 : Int) (y : Int × (List Int)) : Rs := (.int .i64 y.1, [.row (.i64 y.2) 0])
theorem laws_markWhole_den (v1574 v1575 : Int) (v1576 : List Int) (v1577 : Int) : (den TT (tabD laws_markWhole_tab) (tabM laws_markWhole_tab) (laws_markWhole_LO v1574 v1575 v1576 v1577) (codeOf Try.f16) ([.agg [.int .i64 v1574, .int .i64 v1575, .own 0 0 v1576.length], .int .i64 v1577] ++ List.replicate (Try.f16.ntmps - ([.agg [.int .i64 v1574, .int .i64 v1575, .own 0 0 v1576.length], .int .i64 v1577] : List DV).length) .undef) [.row (.i64 v1576) 0]).bind (retD TT Try.f16.results.toList 1) = (laws_markWhole_T v1576 v1577).bind fun y => .leaf (laws_markWhole_enc v1574 v1575 v1576 v1577 y) := by kernel_rfl
theorem laws_markWhole_fn (v1574 v1575 : Int) (v1576 : List Int) (v1577 : Int) (F : Fr) (h0 : St F [.row (.i64 v1576) 0] F.H0) (hA : DVs.Ok F [.row (.i64 v1576) 0] [.agg [.int .i64 v1574, .int .i64 v1575, .own 0 0 v1576.length], .int .i64 v1577]) {y : Int × (List Int)} (hy : laws_markWhole_g v1576 v1577 = some y) : ∃ F' H', Fwd 1 F F' [.row (.i64 v1576) 0] (laws_markWhole_enc v1574 v1575 v1576 v1577 y).2 ∧ FnOk Try.prog 16 (DVs.av F [.agg [.int .i64 v1574, .int .i64 v1575, .own 0 0 v1576.length], .int .i64 v1577]) F.H0 ((laws_markWhole_enc v1574 v1575 v1576 v1577 y).1.av F') H' ∧ St F' (laws_markWhole_enc v1574 v1575 v1576 v1577 y).2 H' ∧ (laws_markWhole_enc v1574 v1575 v1576 v1577 y).1.Ok F' (laws_markWhole_enc v1574 v1575 v1576 v1577 y).2 :=
  fn_fin tok laws_markWhole_hO mixed Try.func16 Try.call16 (by kernel_rfl) (LoopsOk_eq (l := []) (by kernel_rfl) trivial) (laws_markWhole_den v1574 v1575 v1576 v1577) hy h0 hA
noncomputable def laws_markWhole_F : DFn := fun args L =>
  match args with
  | [.agg [.int .i64 v1574, .int .i64 v1575, a1], .int .i64 v1577] =>
    optT (ownI64 L a1) fun qv1576 =>
    (match sepB [qv1576.1] [] with
    | true =>
    .call (laws_markWhole_g qv1576.2 v1577) fun y => .grd (decide (y.2.length = qv1576.2.length)) (.leaf (.int .i64 y.1, setRows L ([qv1576.1].zip [.i64 y.2])))
    | false => .fail)
  | _ => .fail
theorem laws_markWhole_Fok : COk Try.prog 16 laws_markWhole_F false := by
  intro F L H args r L' hs ha hr
  unfold laws_markWhole_F at hr
  split at hr
  · rename_i v1574 v1575 a1 v1577
    obtain ⟨⟨jv1576, v1576⟩, hqv1576, hr⟩ := optT_run hr
    simp only at hr
    split at hr
    · rename_i hsep
      obtain ⟨hnd, hsepv⟩ := sepB_spec hsep
      simp only [Tree.run] at hr
      obtain ⟨y, hy, hr⟩ := Option.bind_eq_some_iff.1 hr
      try simp only [Tree.run] at hr
      obtain ⟨hl0, hr⟩ := ite_run hr
      simp only [Option.some.injEq, Prod.mk.injEq] at hr
      obtain ⟨rfl, rfl⟩ := hr
      obtain ⟨hr0, hu0, ha0, hb0⟩ := (ownR_spec (DVs.okAt (DVs.okAt ha 0 rfl) 2 rfl) (ownI64_or hqv1576))
      exact mut_ok hs (fun k => (([a1.av F] : List AV)[k]?).getD .top) [.agg [.int .i64 v1574, .int .i64 v1575, a1], .int .i64 v1577] [.agg [.int .i64 v1574, .int .i64 v1575, .own 0 0 v1576.length], .int .i64 v1577] [jv1576] [.i64 v1576] [.i64 y.2] hnd rfl rfl (fun i j q h1 h2 => by
          rcases i with _ | i
          · simp at h1 h2; subst h1; subst h2; exact hr0
          · simp at h1) (fun i q q' h1 h2 => by
          rcases i with _ | i
          · simp at h1 h2; subst h1; subst h2; first | exact of_decide_eq_true hl0 | rfl
          · simp at h1) (fun j hj => by simp at hj; subst hj; simp [DVs.refs, DV.refs, hu0]) (fun F' h0 hρ ab hst hS => ⟨by (have ab0 := ab 0 _ rfl; simp [DVs.av, DV.av, BR.av, hρ, Row.len, ha0, ab0]), by
          obtain ⟨F1, H1, k0, k1, k2, _⟩ := laws_markWhole_fn v1574 v1575 v1576 v1577 F' hst ⟨⟨trivial, trivial, ⟨_, rfl, Nat.le_refl _, Nat.le_refl _, fun _ => rfl, (ownR_spec (DVs.okAt (DVs.okAt ha 0 rfl) 2 rfl) (ownI64_or hqv1576)).2.2.2⟩, trivial⟩, trivial, trivial⟩ hy
          exact ⟨F1, H1, k0, k1, k2⟩⟩) (fun F1 F2 => rfl) (fun F L' => trivial)
    · cases hr
  · cases hr
/-! laws.markInt64S -/
noncomputable def laws_markInt64S_i1_l0_T (s : Unit) : Tree ((Unit) ⊕ (Unit)) :=
  (.br (decide ((0 : Int) < (0 : Int))) (
  .fail
  ) (
  .leaf (.inr ())
  ))

noncomputable def laws_markInt64S_i1_l0_g (s0 : Unit) : Option (Unit) := whileM (fun s => (laws_markInt64S_i1_l0_T s).run) s0
def laws_markInt64S_i1_l0_E (v1584 : Int) (s : Unit) : Sd := ([.nilslc,.int .i64 v1584,Z,Z,Z,.int .i64 (0 : Int),Z,Z,Z,Z,Z,Z,Z,Z,Z,Z,Z,Z,Z], [])
def laws_markInt64S_i1_l0_X (v1584 : Int) (x : Unit) : Out := (.normal, [Z,.int .i64 v1584,Z,Z,Z,Z,Z,Z,Z,Z,Z,Z,Z,Z,Z,Z,Z,Z,Z], [])
def laws_markInt64S_i1_l0_kill : List Nat := KL true [0,2,3,1,13]
def laws_markInt64S_i1_l0_nx : Exit → List Nat
  | .exit 0 => KL true [1,1,17]
  | .ret => KL true [4,1,14]
  | _ => []
noncomputable def laws_markInt64S_i1_LO (v1584 : Int) : LOr := fun id e L =>
  match id with
  | 0 => .need (normA 0 laws_markInt64S_i1_l0_kill e L = some (laws_markInt64S_i1_l0_E v1584 ())) (.call (laws_markInt64S_i1_l0_g ()) fun x => .leaf (laws_markInt64S_i1_l0_X v1584 x))
  | _ => .fail
noncomputable def laws_markInt64S_i1_tab : List (FuncId × DFn × Bool) := []
theorem laws_markInt64S_i1_hO : OrcOk Try.prog (tabD laws_markInt64S_i1_tab) (tabM laws_markInt64S_i1_tab) := tabD_nil _
theorem laws_markInt64S_i1_l0_be (v1584 : Int) (s : Unit) : bodyT TT (tabD laws_markInt64S_i1_tab) (tabM laws_markInt64S_i1_tab) (laws_markInt64S_i1_LO v1584) 0 laws_markInt64S_i1_l0_kill laws_markInt64S_i1_l0_nx (bodyOf Try.f47 0) 0 (laws_markInt64S_i1_l0_E v1584 s) = (laws_markInt64S_i1_l0_T s).bind fun y => .leaf (outS (laws_markInt64S_i1_l0_E v1584) (laws_markInt64S_i1_l0_X v1584) y) := by kernel_rfl
theorem laws_markInt64S_i1_l0_ok (v1584 : Int) : LSound Try.prog 0 (laws_markInt64S_i1_LO v1584) 0 (bodyOf Try.f47 0) := by
  intro e L out h
  exact lo_ok (E := laws_markInt64S_i1_l0_E v1584) (gT := laws_markInt64S_i1_l0_T) (X := laws_markInt64S_i1_l0_X v1584) (s0 := ()) tok laws_markInt64S_i1_hO mixed (LoopsOk_eq (l := []) (by kernel_rfl) trivial) (laws_markInt64S_i1_l0_be v1584) rfl (by intro x; rfl) h
noncomputable def laws_markInt64S_i1_T (v1584 : Int) : Tree (Int) :=
  (.need (some (laws_markInt64S_i1_l0_E v1584 ()) = some (laws_markInt64S_i1_l0_E v1584 ())) <|
  (.call (laws_markInt64S_i1_l0_g ()) fun v1587 =>
  .leaf v1584))

noncomputable def laws_markInt64S_i1_g (v1584 : Int) : Option (Int) := (laws_markInt64S_i1_T v1584).run
def laws_markInt64S_i1_enc (v1584 y : Int) : Rs := (.int .i64 y, [])
theorem laws_markInt64S_i1_den (v1584 : Int) : (den TT (tabD laws_markInt64S_i1_tab) (tabM laws_markInt64S_i1_tab) (laws_markInt64S_i1_LO v1584) (codeOf Try.f47) ([.nilslc, .int .i64 v1584] ++ List.replicate (Try.f47.ntmps - ([.nilslc, .int .i64 v1584] : List DV).length) .undef) []).bind (retD TT Try.f47.results.toList 0) = (laws_markInt64S_i1_T v1584).bind fun y => .leaf (laws_markInt64S_i1_enc v1584 y) := by kernel_rfl
theorem laws_markInt64S_i1_fn (v1584 : Int) (F : Fr) (h0 : St F [] F.H0) (hA : DVs.Ok F [] [.nilslc, .int .i64 v1584]) {y : Int} (hy : laws_markInt64S_i1_g v1584 = some y) : ∃ F' H', Fwd 0 F F' [] (laws_markInt64S_i1_enc v1584 y).2 ∧ FnOk Try.prog 47 (DVs.av F [.nilslc, .int .i64 v1584]) F.H0 ((laws_markInt64S_i1_enc v1584 y).1.av F') H' ∧ St F' (laws_markInt64S_i1_enc v1584 y).2 H' ∧ (laws_markInt64S_i1_enc v1584 y).1.Ok F' (laws_markInt64S_i1_enc v1584 y).2 :=
  fn_fin tok laws_markInt64S_i1_hO mixed Try.func47 Try.call47 (by kernel_rfl) (LoopsOk_eq (l := [(0, bodyOf Try.f47 0)]) (by kernel_rfl) ⟨laws_markInt64S_i1_l0_ok v1584, trivial⟩) (laws_markInt64S_i1_den v1584) hy h0 hA
noncomputable def laws_markInt64S_i1_F : DFn := fun args L =>
  match args with
  | [.nilslc, .int .i64 v1584] =>
    .call (laws_markInt64S_i1_g v1584) fun y => .leaf (.int .i64 y, L)
  | _ => .fail
theorem laws_markInt64S_i1_Fok : COk Try.prog 47 laws_markInt64S_i1_F true := by
  intro F L H args r L' hs ha hr
  unfold laws_markInt64S_i1_F at hr
  split at hr
  · rename_i v1584
    simp only [Tree.run] at hr
    obtain ⟨y, hy, hr⟩ := Option.bind_eq_some_iff.1 hr
    simp only [Tree.run, Option.some.injEq, Prod.mk.injEq] at hr
    obtain ⟨rfl, rfl⟩ := hr
    exact call_ok0 hs (fun k => (([] : List AV)[k]?).getD .top) [.nilslc, .int .i64 v1584] [.nilslc, .int .i64 v1584] (fun F' h0 hi hρ => ⟨by simp [DVs.av, DV.av, BR.av, hρ], laws_markInt64S_i1_fn v1584 F' (st_nil hi) ⟨trivial, trivial, trivial⟩ hy⟩) rfl
  · cases hr
/-! laws.markWhole -/
noncomputable def laws_markWhole_i1_LO (v1581 v1582 v1583 : Int) : LOr := fun id e L =>
  match id with
  | _ => .fail
noncomputable def laws_markWhole_i1_tab : List (FuncId × DFn × Bool) := [(47, laws_markInt64S_i1_F, true)]
theorem laws_markWhole_i1_hO : OrcOk Try.prog (tabD laws_markWhole_i1_tab) (tabM laws_markWhole_i1_tab) := tabD_cons laws_markInt64S_i1_Fok (tabD_nil _)
noncomputable def laws_markWhole_i1_T (v1583 : Int) : Tree (Int) :=
  (.call (laws_markInt64S_i1_g v1583) fun v1588 =>
  .leaf v1588)

noncomputable def laws_markWhole_i1_g (v1583 : Int) : Option (Int) := (laws_markWhole_i1_T v1583).run
def laws_markWhole_i1_enc (v1581 v1582 v1583 y : Int) : Rs := (.int .i64 y, [])
theorem laws_markWhole_i1_den (v1581 v1582 v1583 : Int) : (den TT (tabD laws_markWhole_i1_tab) (tabM laws_markWhole_i1_tab) (laws_markWhole_i1_LO v1581 v1582 v1583) (codeOf Try.f16) ([.agg [.int .i64 v1581, .int .i64 v1582, .nilslc], .int .i64 v1583] ++ List.replicate (Try.f16.ntmps - ([.agg [.int .i64 v1581, .int .i64 v1582, .nilslc], .int .i64 v1583] : List DV).length) .undef) []).bind (retD TT Try.f16.results.toList 0) = (laws_markWhole_i1_T v1583).bind fun y => .leaf (laws_markWhole_i1_enc v1581 v1582 v1583 y) := by kernel_rfl
theorem laws_markWhole_i1_fn (v1581 v1582 v1583 : Int) (F : Fr) (h0 : St F [] F.H0) (hA : DVs.Ok F [] [.agg [.int .i64 v1581, .int .i64 v1582, .nilslc], .int .i64 v1583]) {y : Int} (hy : laws_markWhole_i1_g v1583 = some y) : ∃ F' H', Fwd 0 F F' [] (laws_markWhole_i1_enc v1581 v1582 v1583 y).2 ∧ FnOk Try.prog 16 (DVs.av F [.agg [.int .i64 v1581, .int .i64 v1582, .nilslc], .int .i64 v1583]) F.H0 ((laws_markWhole_i1_enc v1581 v1582 v1583 y).1.av F') H' ∧ St F' (laws_markWhole_i1_enc v1581 v1582 v1583 y).2 H' ∧ (laws_markWhole_i1_enc v1581 v1582 v1583 y).1.Ok F' (laws_markWhole_i1_enc v1581 v1582 v1583 y).2 :=
  fn_fin tok laws_markWhole_i1_hO mixed Try.func16 Try.call16 (by kernel_rfl) (LoopsOk_eq (l := []) (by kernel_rfl) trivial) (laws_markWhole_i1_den v1581 v1582 v1583) hy h0 hA
noncomputable def laws_markWhole_i1_F : DFn := fun args L =>
  match args with
  | [.agg [.int .i64 v1581, .int .i64 v1582, .nilslc], .int .i64 v1583] =>
    .call (laws_markWhole_i1_g v1583) fun y => .leaf (.int .i64 y, L)
  | _ => .fail
theorem laws_markWhole_i1_Fok : COk Try.prog 16 laws_markWhole_i1_F true := by
  intro F L H args r L' hs ha hr
  unfold laws_markWhole_i1_F at hr
  split at hr
  · rename_i v1581 v1582 v1583
    simp only [Tree.run] at hr
    obtain ⟨y, hy, hr⟩ := Option.bind_eq_some_iff.1 hr
    simp only [Tree.run, Option.some.injEq, Prod.mk.injEq] at hr
    obtain ⟨rfl, rfl⟩ := hr
    exact call_ok0 hs (fun k => (([] : List AV)[k]?).getD .top) [.agg [.int .i64 v1581, .int .i64 v1582, .nilslc], .int .i64 v1583] [.agg [.int .i64 v1581, .int .i64 v1582, .nilslc], .int .i64 v1583] (fun F' h0 hi hρ => ⟨by simp [DVs.av, DV.av, BR.av, hρ], laws_markWhole_i1_fn v1581 v1582 v1583 F' (st_nil hi) ⟨⟨trivial, trivial, trivial, trivial⟩, trivial, trivial⟩ hy⟩) rfl
  · cases hr
/-! laws.heldInt64S -/
noncomputable def laws_heldInt64S_l0_T (v1594 : List Int) (s : Int × Int) : Tree ((Int × Int) ⊕ ((Unit) ⊕ (Int))) :=
  (.br (decide (s.2 < ((v1594.length : Nat) : Int))) (
  (.grd (inb s.2 v1594.length) <|
  (.br (!decide (nth v1594 (Int.toNat s.2) = s.1)) (
  .leaf (.inr (.inl ()))
  ) (
  .leaf (.inl (IntKind.i64.wrap (s.1 + (1 : Int)), IntKind.i64.wrap (s.2 + (1 : Int))))
  )))
  ) (
  .leaf (.inr (.inr s.1))
  ))

noncomputable def laws_heldInt64S_l0_g (v1594 : List Int) (s0 : Int × Int) : Option ((Unit) ⊕ (Int)) := whileM (fun s => (laws_heldInt64S_l0_T v1594 s).run) s0
def laws_heldInt64S_l0_E (v1594 : List Int) (v1595 : Int) (s : Int × Int) : Sd := ([.bslc (BR.root 0) (.i64 v1594),.int .i64 s.1,Z,Z,Z,.int .i64 s.2,Z,Z,Z,Z,Z,Z,Z,Z,Z,Z,Z,Z,Z,Z,Z], [])
def laws_heldInt64S_l0_X (v1594 : List Int) (v1595 : Int) (x : (Unit) ⊕ (Int)) : Out := (match x with | .inl x => (.ret, [Z,Z,Z,Z,.int .i64 (-1 : Int),Z,Z,Z,Z,Z,Z,Z,Z,Z,Z,Z,Z,Z,Z,Z,Z], []) | .inr x => (.normal, [Z,.int .i64 x,Z,Z,Z,Z,Z,Z,Z,Z,Z,Z,Z,Z,Z,Z,Z,Z,Z,Z,Z], []))
def laws_heldInt64S_l0_kill : List Nat := KL true [0,2,3,1,15]
def laws_heldInt64S_l0_nx : Exit → List Nat
  | .exit 0 => KL true [1,1,19]
  | .ret => KL true [4,1,16]
  | _ => []
noncomputable def laws_heldInt64S_LO (v1594 : List Int) (v1595 : Int) : LOr := fun id e L =>
  match id with
  | 0 => .need (normA 0 laws_heldInt64S_l0_kill e L = some (laws_heldInt64S_l0_E v1594 v1595 ((gI (vAt e 1)), (gI (vAt e 5))))) (.call (laws_heldInt64S_l0_g v1594 ((gI (vAt e 1)), (gI (vAt e 5)))) fun x => .sum x (fun b0 => .leaf (laws_heldInt64S_l0_X v1594 v1595 (.inl b0))) (fun c0 => .leaf (laws_heldInt64S_l0_X v1594 v1595 (.inr c0))))
  | _ => .fail
noncomputable def laws_heldInt64S_tab : List (FuncId × DFn × Bool) := []
theorem laws_heldInt64S_hO : OrcOk Try.prog (tabD laws_heldInt64S_tab) (tabM laws_heldInt64S_tab) := tabD_nil _
theorem laws_heldInt64S_l0_be (v1594 : List Int) (v1595 : Int) (s : Int × Int) : bodyT TT (tabD laws_heldInt64S_tab) (tabM laws_heldInt64S_tab) (laws_heldInt64S_LO v1594 v1595) 0 laws_heldInt64S_l0_kill laws_heldInt64S_l0_nx (bodyOf Try.f48 0) 0 (laws_heldInt64S_l0_E v1594 v1595 s) = (laws_heldInt64S_l0_T v1594 s).bind fun y => .leaf (outS (laws_heldInt64S_l0_E v1594 v1595) (laws_heldInt64S_l0_X v1594 v1595) y) := by kernel_rfl
theorem laws_heldInt64S_l0_ok (v1594 : List Int) (v1595 : Int) : LSound Try.prog 0 (laws_heldInt64S_LO v1594 v1595) 0 (bodyOf Try.f48 0) := by
  intro e L out h
  exact lo_ok (E := laws_heldInt64S_l0_E v1594 v1595) (gT := laws_heldInt64S_l0_T v1594) (X := laws_heldInt64S_l0_X v1594 v1595) (s0 := ((gI (vAt e 1)), (gI (vAt e 5)))) tok laws_heldInt64S_hO mixed (LoopsOk_eq (l := []) (by kernel_rfl) trivial) (laws_heldInt64S_l0_be v1594 v1595) rfl (by intro x; (cases x with | inl b => rfl | inr x => exact rfl)) h
noncomputable def laws_heldInt64S_T (v1594 : List Int) (v1595 : Int) : Tree (Int) :=
  (.need (some (laws_heldInt64S_l0_E v1594 v1595 (v1595, (0 : Int))) = some (laws_heldInt64S_l0_E v1594 v1595 (v1595, (0 : Int)))) <|
  (.call (laws_heldInt64S_l0_g v1594 (v1595, (0 : Int))) fun v1602 =>
  (.sum v1602 (fun v1603 =>
  .leaf (-1 : Int)
  ) (fun v1604 =>
  .leaf v1604
  ))))

noncomputable def laws_heldInt64S_g (v1594 : List Int) (v1595 : Int) : Option (Int) := (laws_heldInt64S_T v1594 v1595).run
def laws_heldInt64S_enc (v1594 : List Int) (v1595 y : Int) : Rs := (.int .i64 y, [])
theorem laws_heldInt64S_den (v1594 : List Int) (v1595 : Int) : (den TT (tabD laws_heldInt64S_tab) (tabM laws_heldInt64S_tab) (laws_heldInt64S_LO v1594 v1595) (codeOf Try.f48) ([.bslc (BR.root 0) (.i64 v1594), .int .i64 v1595] ++ List.replicate (Try.f48.ntmps - ([.bslc (BR.root 0) (.i64 v1594), .int .i64 v1595] : List DV).length) .undef) []).bind (retD TT Try.f48.results.toList 0) = (laws_heldInt64S_T v1594 v1595).bind fun y => .leaf (laws_heldInt64S_enc v1594 v1595 y) := by kernel_rfl
theorem laws_heldInt64S_fn (v1594 : List Int) (v1595 : Int) (F : Fr) (h0 : St F [] F.H0) (hA : DVs.Ok F [] [.bslc (BR.root 0) (.i64 v1594), .int .i64 v1595]) {y : Int} (hy : laws_heldInt64S_g v1594 v1595 = some y) : ∃ F' H', Fwd 0 F F' [] (laws_heldInt64S_enc v1594 v1595 y).2 ∧ FnOk Try.prog 48 (DVs.av F [.bslc (BR.root 0) (.i64 v1594), .int .i64 v1595]) F.H0 ((laws_heldInt64S_enc v1594 v1595 y).1.av F') H' ∧ St F' (laws_heldInt64S_enc v1594 v1595 y).2 H' ∧ (laws_heldInt64S_enc v1594 v1595 y).1.Ok F' (laws_heldInt64S_enc v1594 v1595 y).2 :=
  fn_fin tok laws_heldInt64S_hO mixed Try.func48 Try.call48 (by kernel_rfl) (LoopsOk_eq (l := [(0, bodyOf Try.f48 0)]) (by kernel_rfl) ⟨laws_heldInt64S_l0_ok v1594 v1595, trivial⟩) (laws_heldInt64S_den v1594 v1595) hy h0 hA
noncomputable def laws_heldInt64S_F : DFn := fun args L =>
  match args with
  | [a1, .int .i64 v1595] =>
    optT (rowI64 L a1) fun v1594 =>
    .call (laws_heldInt64S_g v1594 v1595) fun y => .leaf (.int .i64 y, L)
  | _ => .fail
theorem laws_heldInt64S_Fok : COk Try.prog 48 laws_heldInt64S_F true := by
  intro F L H args r L' hs ha hr
  unfold laws_heldInt64S_F at hr
  split at hr
  · rename_i a1 v1595
    obtain ⟨v1594, hv1594, hr⟩ := optT_run hr
    simp only [Tree.run] at hr
    obtain ⟨y, hy, hr⟩ := Option.bind_eq_some_iff.1 hr
    simp only [Tree.run, Option.some.injEq, Prod.mk.injEq] at hr
    obtain ⟨rfl, rfl⟩ := hr
    exact call_ok0 hs (fun k => (([a1.av F] : List AV)[k]?).getD .top) [a1, .int .i64 v1595] [.bslc (BR.root 0) (.i64 v1594), .int .i64 v1595] (fun F' h0 hi hρ => ⟨by simp [DVs.av, DV.av, BR.av, hρ], laws_heldInt64S_fn v1594 v1595 F' (st_nil hi) ⟨bslc_ok hi (by rw [h0, hρ]; exact rowI64_ok hs (DVs.okAt ha 0 rfl) hv1594), trivial, trivial⟩ hy⟩) rfl
  · cases hr
/-! laws.heldWhole -/
noncomputable def laws_heldWhole_LO (v1590 v1591 : Int) (v1592 : List Int) (v1593 : Int) : LOr := fun id e L =>
  match id with
  | _ => .fail
noncomputable def laws_heldWhole_tab : List (FuncId × DFn × Bool) := [(48, laws_heldInt64S_F, true)]
theorem laws_heldWhole_hO : OrcOk Try.prog (tabD laws_heldWhole_tab) (tabM laws_heldWhole_tab) := tabD_cons laws_heldInt64S_Fok (tabD_nil _)
noncomputable def laws_heldWhole_T (v1592 : List Int) (v1593 : Int) : Tree (Int) :=
  (.call (laws_heldInt64S_g v1592 v1593) fun v1605 =>
  (.br (decide (v1605 < (0 : Int))) (
  .leaf (-1 : Int)
  ) (
  .leaf v1605
  )))

noncomputable def laws_heldWhole_g (v1592 : List Int) (v1593 : Int) : Option (Int) := (laws_heldWhole_T v1592 v1593).run
def laws_heldWhole_enc (v1590 v1591 : Int) (v1592 : List Int) (v1593 y : Int) : Rs := (.int .i64 y, [])
theorem laws_heldWhole_den (v1590 v1591 : Int) (v1592 : List Int) (v1593 : Int) : (den TT (tabD laws_heldWhole_tab) (tabM laws_heldWhole_tab) (laws_heldWhole_LO v1590 v1591 v1592 v1593) (codeOf Try.f17) ([.agg [.int .i64 v1590, .int .i64 v1591, .bslc (BR.root 0) (.i64 v1592)], .int .i64 v1593] ++ List.replicate (Try.f17.ntmps - ([.agg [.int .i64 v1590, .int .i64 v1591, .bslc (BR.root 0) (.i64 v1592)], .int .i64 v1593] : List DV).length) .undef) []).bind (retD TT Try.f17.results.toList 0) = (laws_heldWhole_T v1592 v1593).bind fun y => .leaf (laws_heldWhole_enc v1590 v1591 v1592 v1593 y) := by kernel_rfl
theorem laws_heldWhole_fn (v1590 v1591 : Int) (v1592 : List Int) (v1593 : Int) (F : Fr) (h0 : St F [] F.H0) (hA : DVs.Ok F [] [.agg [.int .i64 v1590, .int .i64 v1591, .bslc (BR.root 0) (.i64 v1592)], .int .i64 v1593]) {y : Int} (hy : laws_heldWhole_g v1592 v1593 = some y) : ∃ F' H', Fwd 0 F F' [] (laws_heldWhole_enc v1590 v1591 v1592 v1593 y).2 ∧ FnOk Try.prog 17 (DVs.av F [.agg [.int .i64 v1590, .int .i64 v1591, .bslc (BR.root 0) (.i64 v1592)], .int .i64 v1593]) F.H0 ((laws_heldWhole_enc v1590 v1591 v1592 v1593 y).1.av F') H' ∧ St F' (laws_heldWhole_enc v1590 v1591 v1592 v1593 y).2 H' ∧ (laws_heldWhole_enc v1590 v1591 v1592 v1593 y).1.Ok F' (laws_heldWhole_enc v1590 v1591 v1592 v1593 y).2 :=
  fn_fin tok laws_heldWhole_hO mixed Try.func17 Try.call17 (by kernel_rfl) (LoopsOk_eq (l := []) (by kernel_rfl) trivial) (laws_heldWhole_den v1590 v1591 v1592 v1593) hy h0 hA
noncomputable def laws_heldWhole_F : DFn := fun args L =>
  match args with
  | [.agg [.int .i64 v1590, .int .i64 v1591, a1], .int .i64 v1593] =>
    optT (rowI64 L a1) fun v1592 =>
    .call (laws_heldWhole_g v1592 v1593) fun y => .leaf (.int .i64 y, L)
  | _ => .fail
theorem laws_heldWhole_Fok : COk Try.prog 17 laws_heldWhole_F true := by
  intro F L H args r L' hs ha hr
  unfold laws_heldWhole_F at hr
  split at hr
  · rename_i v1590 v1591 a1 v1593
    obtain ⟨v1592, hv1592, hr⟩ := optT_run hr
    simp only [Tree.run] at hr
    obtain ⟨y, hy, hr⟩ := Option.bind_eq_some_iff.1 hr
    simp only [Tree.run, Option.some.injEq, Prod.mk.injEq] at hr
    obtain ⟨rfl, rfl⟩ := hr
    exact call_ok0 hs (fun k => (([a1.av F] : List AV)[k]?).getD .top) [.agg [.int .i64 v1590, .int .i64 v1591, a1], .int .i64 v1593] [.agg [.int .i64 v1590, .int .i64 v1591, .bslc (BR.root 0) (.i64 v1592)], .int .i64 v1593] (fun F' h0 hi hρ => ⟨by simp [DVs.av, DV.av, BR.av, hρ], laws_heldWhole_fn v1590 v1591 v1592 v1593 F' (st_nil hi) ⟨⟨trivial, trivial, bslc_ok hi (by rw [h0, hρ]; exact rowI64_ok hs (DVs.okAt (DVs.okAt ha 0 rfl) 2 rfl) hv1592), trivial⟩, trivial, trivial⟩ hy⟩) rfl
  · cases hr
/-! laws.FnExactShortRows -/
noncomputable def laws_FnExactShortRows_LO (v1 v2 : Int) (v3 : List Int) (v4 : Int) : LOr := fun id e L =>
  match id with
  | _ => .fail
noncomputable def laws_FnExactShortRows_tab : List (FuncId × DFn × Bool) := [(12, laws_szWhole_F, true), (14, laws_toWhole_F, true), (13, spec_ShortRows_F, true), (8, impl_ShortRows_F, true), (15, laws_eqWhole_F, true), (16, (orD (fun args => match args with | [.agg [_, _, .nilslc], _] => true | _ => false) laws_markWhole_i1_F laws_markWhole_F), false), (17, laws_heldWhole_F, true)]
theorem laws_FnExactShortRows_hO : OrcOk Try.prog (tabD laws_FnExactShortRows_tab) (tabM laws_FnExactShortRows_tab) := tabD_cons laws_szWhole_Fok (tabD_cons laws_toWhole_Fok (tabD_cons spec_ShortRows_Fok (tabD_cons impl_ShortRows_Fok (tabD_cons laws_eqWhole_Fok (tabD_cons (orD_ok (COk.weak laws_markWhole_i1_Fok) laws_markWhole_Fok) (tabD_cons laws_heldWhole_Fok (tabD_nil _)))))))
noncomputable def laws_FnExactShortRows_T (v1 v2 : Int) (v3 : List Int) (v4 : Int) : Tree (Bool) :=
  (.br (decide ((laws_szWhole_v v3 (1048576 : Int)) < (0 : Int))) (
  .leaf true
  ) (
  (.call (laws_toWhole_g v1 v2 v3) fun v22 =>
  (.call (spec_ShortRows_g v22.1 v22.2.1 v22.2.2 v4) fun v739 =>
  (.sum v739 (fun v740 =>
  (.call (laws_toWhole_g v1 v2 v3) fun v742 =>
  (.call (impl_ShortRows_g v742.1 v742.2.1 v742.2.2 v4) fun v1534 =>
  (.sum v1534 (fun v1535 =>
  (.call (laws_eqWhole_g (0 : Int) (0 : Int) ([] : List Int) (0 : Int) (0 : Int) ([] : List Int)) fun v1552 =>
  (.br (!v1552) (
  .leaf false
  ) (
  (.br (!decide ((0 : Int) = (0 : Int))) (
  .leaf false
  ) (
  (.br (!(false == false)) (
  .leaf false
  ) (
  (.call (laws_toWhole_g v1 v2 v3) fun v1553 =>
  (.call (laws_eqWhole_g v742.1 v742.2.1 v742.2.2 v1553.1 v1553.2.1 v1553.2.2) fun v1554 =>
  (.br (!v1554) (
  .leaf false
  ) (
  (.call (laws_markWhole_g v742.2.2 (1 : Int)) fun v1579 =>
  (.grd (decide (v1579.2.length = v742.2.2.length)) <|
  (.br (decide (v1579.1 < (0 : Int))) (
  .leaf false
  ) (
  (.call (laws_eqWhole_g (0 : Int) (0 : Int) ([] : List Int) (0 : Int) (0 : Int) ([] : List Int)) fun v1580 =>
  (.br (!v1580) (
  .leaf false
  ) (
  (.br (!decide ((0 : Int) = (0 : Int))) (
  .leaf false
  ) (
  (.br (!(false == false)) (
  .leaf false
  ) (
  (.call (laws_markWhole_i1_g (1 : Int)) fun v1589 =>
  (.call (laws_heldWhole_g ([] : List Int) (1 : Int)) fun v1606 =>
  (.br (decide (v1606 < (0 : Int))) (
  .leaf false
  ) (
  (.br (!decide (v1606 = v1589)) (
  .leaf false
  ) (
  (.call (laws_toWhole_g v1 v2 v3) fun v1607 =>
  (.call (impl_ShortRows_g v1607.1 v1607.2.1 v1607.2.2 v4) fun v1608 =>
  (.sum v1608 (fun v1609 =>
  (.call (laws_eqWhole_g (0 : Int) (0 : Int) ([] : List Int) (0 : Int) (0 : Int) ([] : List Int)) fun v1611 =>
  (.br (!v1611) (
  .leaf false
  ) (
  (.br (!decide ((0 : Int) = (0 : Int))) (
  .leaf false
  ) (
  (.br (!(false == false)) (
  .leaf false
  ) (
  (.call (laws_heldWhole_g ([] : List Int) (1 : Int)) fun v1612 =>
  (.br (decide (v1612 < (0 : Int))) (
  .leaf false
  ) (
  (.br (!decide (v1612 = v1589)) (
  .leaf false
  ) (
  .leaf true
  ))
  )))
  ))
  ))
  )))
  ) (fun v1610 =>
  (.call (laws_eqWhole_g v1610.1 v1610.2.1 v1610.2.2.2 (0 : Int) (0 : Int) ([] : List Int)) fun v1613 =>
  (.br (!v1613) (
  .leaf false
  ) (
  (.br (!decide (v1610.2.2.1 = (0 : Int))) (
  .leaf false
  ) (
  (.br (!(true == false)) (
  .leaf false
  ) (
  (.call (laws_heldWhole_g ([] : List Int) (1 : Int)) fun v1614 =>
  (.br (decide (v1614 < (0 : Int))) (
  .leaf false
  ) (
  (.br (!decide (v1614 = v1589)) (
  .leaf false
  ) (
  .leaf true
  ))
  )))
  ))
  ))
  )))
  ))))
  ))
  ))))
  ))
  ))
  )))
  ))))
  ))))
  ))
  ))
  )))
  ) (fun v1536 =>
  (.call (laws_eqWhole_g v1536.1 v1536.2.1 v1536.2.2.2 (0 : Int) (0 : Int) ([] : List Int)) fun v1615 =>
  (.br (!v1615) (
  .leaf false
  ) (
  (.br (!decide (v1536.2.2.1 = (0 : Int))) (
  .leaf false
  ) (
  (.br (!(true == false)) (
  .leaf false
  ) (
  (.call (laws_toWhole_g v1 v2 v3) fun v1616 =>
  (.call (laws_eqWhole_g v742.1 v742.2.1 v742.2.2 v1616.1 v1616.2.1 v1616.2.2) fun v1617 =>
  (.br (!v1617) (
  .leaf false
  ) (
  (.call (laws_markWhole_g v742.2.2 (1 : Int)) fun v1618 =>
  (.grd (decide (v1618.2.length = v742.2.2.length)) <|
  (.br (decide (v1618.1 < (0 : Int))) (
  .leaf false
  ) (
  (.call (laws_eqWhole_g v1536.1 v1536.2.1 v1536.2.2.2 (0 : Int) (0 : Int) ([] : List Int)) fun v1619 =>
  (.br (!v1619) (
  .leaf false
  ) (
  (.br (!decide (v1536.2.2.1 = (0 : Int))) (
  .leaf false
  ) (
  (.br (!(true == false)) (
  .leaf false
  ) (
  (.call (laws_markWhole_g v1536.2.2.2 (1 : Int)) fun v1620 =>
  (.grd (decide (v1620.2.length = v1536.2.2.2.length)) <|
  (.call (laws_heldWhole_g v1620.2 (1 : Int)) fun v1621 =>
  (.br (decide (v1621 < (0 : Int))) (
  .leaf false
  ) (
  (.br (!decide (v1621 = v1620.1)) (
  .leaf false
  ) (
  (.call (laws_toWhole_g v1 v2 v3) fun v1622 =>
  (.call (impl_ShortRows_g v1622.1 v1622.2.1 v1622.2.2 v4) fun v1623 =>
  (.sum v1623 (fun v1624 =>
  (.call (laws_eqWhole_g (0 : Int) (0 : Int) ([] : List Int) (0 : Int) (0 : Int) ([] : List Int)) fun v1626 =>
  (.br (!v1626) (
  .leaf false
  ) (
  (.br (!decide ((0 : Int) = (0 : Int))) (
  .leaf false
  ) (
  (.br (!(false == false)) (
  .leaf false
  ) (
  (.call (laws_heldWhole_g v1620.2 (1 : Int)) fun v1627 =>
  (.br (decide (v1627 < (0 : Int))) (
  .leaf false
  ) (
  (.br (!decide (v1627 = v1620.1)) (
  .leaf false
  ) (
  .leaf true
  ))
  )))
  ))
  ))
  )))
  ) (fun v1625 =>
  (.call (laws_eqWhole_g v1625.1 v1625.2.1 v1625.2.2.2 (0 : Int) (0 : Int) ([] : List Int)) fun v1628 =>
  (.br (!v1628) (
  .leaf false
  ) (
  (.br (!decide (v1625.2.2.1 = (0 : Int))) (
  .leaf false
  ) (
  (.br (!(true == false)) (
  .leaf false
  ) (
  (.call (laws_heldWhole_g v1620.2 (1 : Int)) fun v1629 =>
  (.br (decide (v1629 < (0 : Int))) (
  .leaf false
  ) (
  (.br (!decide (v1629 = v1620.1)) (
  .leaf false
  ) (
  .leaf true
  ))
  )))
  ))
  ))
  )))
  ))))
  ))
  )))))
  ))
  ))
  )))
  ))))
  ))))
  ))
  ))
  )))
  ))))
  ) (fun v741 =>
  (.call (laws_toWhole_g v1 v2 v3) fun v1630 =>
  (.call (impl_ShortRows_g v1630.1 v1630.2.1 v1630.2.2 v4) fun v1631 =>
  (.sum v1631 (fun v1632 =>
  (.call (laws_eqWhole_g (0 : Int) (0 : Int) ([] : List Int) v741.1 v741.2.1 v741.2.2.2) fun v1634 =>
  (.br (!v1634) (
  .leaf false
  ) (
  (.br (!decide ((0 : Int) = v741.2.2.1)) (
  .leaf false
  ) (
  (.br (!(false == true)) (
  .leaf false
  ) (
  (.call (laws_toWhole_g v1 v2 v3) fun v1635 =>
  (.call (laws_eqWhole_g v1630.1 v1630.2.1 v1630.2.2 v1635.1 v1635.2.1 v1635.2.2) fun v1636 =>
  (.br (!v1636) (
  .leaf false
  ) (
  (.call (laws_markWhole_g v1630.2.2 (1 : Int)) fun v1637 =>
  (.grd (decide (v1637.2.length = v1630.2.2.length)) <|
  (.br (decide (v1637.1 < (0 : Int))) (
  .leaf false
  ) (
  (.call (laws_eqWhole_g (0 : Int) (0 : Int) ([] : List Int) v741.1 v741.2.1 v741.2.2.2) fun v1638 =>
  (.br (!v1638) (
  .leaf false
  ) (
  (.br (!decide ((0 : Int) = v741.2.2.1)) (
  .leaf false
  ) (
  (.br (!(false == true)) (
  .leaf false
  ) (
  (.call (laws_markWhole_i1_g (1 : Int)) fun v1639 =>
  (.call (laws_heldWhole_g ([] : List Int) (1 : Int)) fun v1640 =>
  (.br (decide (v1640 < (0 : Int))) (
  .leaf false
  ) (
  (.br (!decide (v1640 = v1639)) (
  .leaf false
  ) (
  (.call (laws_toWhole_g v1 v2 v3) fun v1641 =>
  (.call (impl_ShortRows_g v1641.1 v1641.2.1 v1641.2.2 v4) fun v1642 =>
  (.sum v1642 (fun v1643 =>
  (.call (laws_eqWhole_g (0 : Int) (0 : Int) ([] : List Int) v741.1 v741.2.1 v741.2.2.2) fun v1645 =>
  (.br (!v1645) (
  .leaf false
  ) (
  (.br (!decide ((0 : Int) = v741.2.2.1)) (
  .leaf false
  ) (
  (.br (!(false == true)) (
  .leaf false
  ) (
  (.call (laws_heldWhole_g ([] : List Int) (1 : Int)) fun v1646 =>
  (.br (decide (v1646 < (0 : Int))) (
  .leaf false
  ) (
  (.br (!decide (v1646 = v1639)) (
  .leaf false
  ) (
  .leaf true
  ))
  )))
  ))
  ))
  )))
  ) (fun v1644 =>
  (.call (laws_eqWhole_g v1644.1 v1644.2.1 v1644.2.2.2 v741.1 v741.2.1 v741.2.2.2) fun v1647 =>
  (.br (!v1647) (
  .leaf false
  ) (
  (.br (!decide (v1644.2.2.1 = v741.2.2.1)) (
  .leaf false
  ) (
  (.br (!(true == true)) (
  .leaf false
  ) (
  (.call (laws_heldWhole_g ([] : List Int) (1 : Int)) fun v1648 =>
  (.br (decide (v1648 < (0 : Int))) (
  .leaf false
  ) (
  (.br (!decide (v1648 = v1639)) (
  .leaf false
  ) (
  .leaf true
  ))
  )))
  ))
  ))
  )))
  ))))
  ))
  ))))
  ))
  ))
  )))
  ))))
  ))))
  ))
  ))
  )))
  ) (fun v1633 =>
  (.call (laws_eqWhole_g v1633.1 v1633.2.1 v1633.2.2.2 v741.1 v741.2.1 v741.2.2.2) fun v1649 =>
  (.br (!v1649) (
  .leaf false
  ) (
  (.br (!decide (v1633.2.2.1 = v741.2.2.1)) (
  .leaf false
  ) (
  (.br (!(true == true)) (
  .leaf false
  ) (
  (.call (laws_toWhole_g v1 v2 v3) fun v1650 =>
  (.call (laws_eqWhole_g v1630.1 v1630.2.1 v1630.2.2 v1650.1 v1650.2.1 v1650.2.2) fun v1651 =>
  (.br (!v1651) (
  .leaf false
  ) (
  (.call (laws_markWhole_g v1630.2.2 (1 : Int)) fun v1652 =>
  (.grd (decide (v1652.2.length = v1630.2.2.length)) <|
  (.br (decide (v1652.1 < (0 : Int))) (
  .leaf false
  ) (
  (.call (laws_eqWhole_g v1633.1 v1633.2.1 v1633.2.2.2 v741.1 v741.2.1 v741.2.2.2) fun v1653 =>
  (.br (!v1653) (
  .leaf false
  ) (
  (.br (!decide (v1633.2.2.1 = v741.2.2.1)) (
  .leaf false
  ) (
  (.br (!(true == true)) (
  .leaf false
  ) (
  (.call (laws_markWhole_g v1633.2.2.2 (1 : Int)) fun v1654 =>
  (.grd (decide (v1654.2.length = v1633.2.2.2.length)) <|
  (.call (laws_heldWhole_g v1654.2 (1 : Int)) fun v1655 =>
  (.br (decide (v1655 < (0 : Int))) (
  .leaf false
  ) (
  (.br (!decide (v1655 = v1654.1)) (
  .leaf false
  ) (
  (.call (laws_toWhole_g v1 v2 v3) fun v1656 =>
  (.call (impl_ShortRows_g v1656.1 v1656.2.1 v1656.2.2 v4) fun v1657 =>
  (.sum v1657 (fun v1658 =>
  (.call (laws_eqWhole_g (0 : Int) (0 : Int) ([] : List Int) v741.1 v741.2.1 v741.2.2.2) fun v1660 =>
  (.br (!v1660) (
  .leaf false
  ) (
  (.br (!decide ((0 : Int) = v741.2.2.1)) (
  .leaf false
  ) (
  (.br (!(false == true)) (
  .leaf false
  ) (
  (.call (laws_heldWhole_g v1654.2 (1 : Int)) fun v1661 =>
  (.br (decide (v1661 < (0 : Int))) (
  .leaf false
  ) (
  (.br (!decide (v1661 = v1654.1)) (
  .leaf false
  ) (
  .leaf true
  ))
  )))
  ))
  ))
  )))
  ) (fun v1659 =>
  (.call (laws_eqWhole_g v1659.1 v1659.2.1 v1659.2.2.2 v741.1 v741.2.1 v741.2.2.2) fun v1662 =>
  (.br (!v1662) (
  .leaf false
  ) (
  (.br (!decide (v1659.2.2.1 = v741.2.2.1)) (
  .leaf false
  ) (
  (.br (!(true == true)) (
  .leaf false
  ) (
  (.call (laws_heldWhole_g v1654.2 (1 : Int)) fun v1663 =>
  (.br (decide (v1663 < (0 : Int))) (
  .leaf false
  ) (
  (.br (!decide (v1663 = v1654.1)) (
  .leaf false
  ) (
  .leaf true
  ))
  )))
  ))
  ))
  )))
  ))))
  ))
  )))))
  ))
  ))
  )))
  ))))
  ))))
  ))
  ))
  )))
  ))))
  ))))
  ))

noncomputable def laws_FnExactShortRows_g (v1 v2 : Int) (v3 : List Int) (v4 : Int) : Option (Bool) := (laws_FnExactShortRows_T v1 v2 v3 v4).run
def laws_FnExactShortRows_enc (v1 v2 : Int) (v3 : List Int) (v4 : Int) (y : Bool) : Rs := (.bool y, [])
theorem laws_FnExactShortRows_den (v1 v2 : Int) (v3 : List Int) (v4 : Int) : (den TT (tabD laws_FnExactShortRows_tab) (tabM laws_FnExactShortRows_tab) (laws_FnExactShortRows_LO v1 v2 v3 v4) (codeOf Try.f4) ([.agg [.int .i64 v1, .int .i64 v2, .bslc (BR.root 0) (.i64 v3)], .int .i64 v4] ++ List.replicate (Try.f4.ntmps - ([.agg [.int .i64 v1, .int .i64 v2, .bslc (BR.root 0) (.i64 v3)], .int .i64 v4] : List DV).length) .undef) []).bind (retD TT Try.f4.results.toList 0) = (laws_FnExactShortRows_T v1 v2 v3 v4).bind fun y => .leaf (laws_FnExactShortRows_enc v1 v2 v3 v4 y) := by kernel_rfl
theorem laws_FnExactShortRows_fn (v1 v2 : Int) (v3 : List Int) (v4 : Int) (F : Fr) (h0 : St F [] F.H0) (hA : DVs.Ok F [] [.agg [.int .i64 v1, .int .i64 v2, .bslc (BR.root 0) (.i64 v3)], .int .i64 v4]) {y : Bool} (hy : laws_FnExactShortRows_g v1 v2 v3 v4 = some y) : ∃ F' H', Fwd 0 F F' [] (laws_FnExactShortRows_enc v1 v2 v3 v4 y).2 ∧ FnOk Try.prog 4 (DVs.av F [.agg [.int .i64 v1, .int .i64 v2, .bslc (BR.root 0) (.i64 v3)], .int .i64 v4]) F.H0 ((laws_FnExactShortRows_enc v1 v2 v3 v4 y).1.av F') H' ∧ St F' (laws_FnExactShortRows_enc v1 v2 v3 v4 y).2 H' ∧ (laws_FnExactShortRows_enc v1 v2 v3 v4 y).1.Ok F' (laws_FnExactShortRows_enc v1 v2 v3 v4 y).2 :=
  fn_fin tok laws_FnExactShortRows_hO mixed Try.func4 Try.call4 (by kernel_rfl) (LoopsOk_eq (l := []) (by kernel_rfl) trivial) (laws_FnExactShortRows_den v1 v2 v3 v4) hy h0 hA
noncomputable def laws_FnExactShortRows_F : DFn := fun args L =>
  match args with
  | [.agg [.int .i64 v1, .int .i64 v2, a1], .int .i64 v4] =>
    optT (rowI64 L a1) fun v3 =>
    .call (laws_FnExactShortRows_g v1 v2 v3 v4) fun y => .leaf (.bool y, L)
  | _ => .fail
theorem laws_FnExactShortRows_Fok : COk Try.prog 4 laws_FnExactShortRows_F true := by
  intro F L H args r L' hs ha hr
  unfold laws_FnExactShortRows_F at hr
  split at hr
  · rename_i v1 v2 a1 v4
    obtain ⟨v3, hv3, hr⟩ := optT_run hr
    simp only [Tree.run] at hr
    obtain ⟨y, hy, hr⟩ := Option.bind_eq_some_iff.1 hr
    simp only [Tree.run, Option.some.injEq, Prod.mk.injEq] at hr
    obtain ⟨rfl, rfl⟩ := hr
    exact call_ok0 hs (fun k => (([a1.av F] : List AV)[k]?).getD .top) [.agg [.int .i64 v1, .int .i64 v2, a1], .int .i64 v4] [.agg [.int .i64 v1, .int .i64 v2, .bslc (BR.root 0) (.i64 v3)], .int .i64 v4] (fun F' h0 hi hρ => ⟨by simp [DVs.av, DV.av, BR.av, hρ], laws_FnExactShortRows_fn v1 v2 v3 v4 F' (st_nil hi) ⟨⟨trivial, trivial, bslc_ok hi (by rw [h0, hρ]; exact rowI64_ok hs (DVs.okAt (DVs.okAt ha 0 rfl) 2 rfl) hv3), trivial⟩, trivial, trivial⟩ hy⟩) rfl
  · cases hr
/-! laws.szInt64S -/
noncomputable def laws_szInt64S_len_LO (v1672 : Nat) (v1673 : Int) : LOr := fun id e L =>
  match id with
  | _ => .fail
noncomputable def laws_szInt64S_len_tab : List (FuncId × DFn × Bool) := []
theorem laws_szInt64S_len_hO : OrcOk Try.prog (tabD laws_szInt64S_len_tab) (tabM laws_szInt64S_len_tab) := tabD_nil _
noncomputable def laws_szInt64S_len_T (v1672 : Nat) (v1673 : Int) : Tree (Int) :=
  (.br (decide (IntKind.i64.wrap (v1673 - ((v1672 : Nat) : Int)) < (0 : Int))) (
  .leaf (-1 : Int)
  ) (
  .leaf (IntKind.i64.wrap (v1673 - ((v1672 : Nat) : Int)))
  ))

noncomputable def laws_szInt64S_len_g (v1672 : Nat) (v1673 : Int) : Option (Int) := (laws_szInt64S_len_T v1672 v1673).run
def laws_szInt64S_len_enc (v1672 : Nat) (v1673 y : Int) : Rs := (.int .i64 y, [])
theorem laws_szInt64S_len_den (v1672 : Nat) (v1673 : Int) : (den TT (tabD laws_szInt64S_len_tab) (tabM laws_szInt64S_len_tab) (laws_szInt64S_len_LO v1672 v1673) (codeOf Try.f35) ([.hslc (BR.root 0) v1672, .int .i64 v1673] ++ List.replicate (Try.f35.ntmps - ([.hslc (BR.root 0) v1672, .int .i64 v1673] : List DV).length) .undef) []).bind (retD TT Try.f35.results.toList 0) = (laws_szInt64S_len_T v1672 v1673).bind fun y => .leaf (laws_szInt64S_len_enc v1672 v1673 y) := by kernel_rfl
theorem laws_szInt64S_len_fn (v1672 : Nat) (v1673 : Int) (F : Fr) (h0 : St F [] F.H0) (hA : DVs.Ok F [] [.hslc (BR.root 0) v1672, .int .i64 v1673]) {y : Int} (hy : laws_szInt64S_len_g v1672 v1673 = some y) : ∃ F' H', Fwd 0 F F' [] (laws_szInt64S_len_enc v1672 v1673 y).2 ∧ FnOk Try.prog 35 (DVs.av F [.hslc (BR.root 0) v1672, .int .i64 v1673]) F.H0 ((laws_szInt64S_len_enc v1672 v1673 y).1.av F') H' ∧ St F' (laws_szInt64S_len_enc v1672 v1673 y).2 H' ∧ (laws_szInt64S_len_enc v1672 v1673 y).1.Ok F' (laws_szInt64S_len_enc v1672 v1673 y).2 :=
  fn_fin tok laws_szInt64S_len_hO mixed Try.func35 Try.call35 (by kernel_rfl) (LoopsOk_eq (l := []) (by kernel_rfl) trivial) (laws_szInt64S_len_den v1672 v1673) hy h0 hA
def laws_szInt64S_len_v (v1672 : Nat) (v1673 : Int) : Int :=
  if (decide (IntKind.i64.wrap (v1673 - ((v1672 : Nat) : Int)) < (0 : Int))) = true then (
  (-1 : Int)
  ) else (
  IntKind.i64.wrap (v1673 - ((v1672 : Nat) : Int))
  )
theorem laws_szInt64S_len_tot (v1672 : Nat) (v1673 : Int) : laws_szInt64S_len_g v1672 v1673 = some (laws_szInt64S_len_v v1672 v1673) := by
  unfold laws_szInt64S_len_g laws_szInt64S_len_T laws_szInt64S_len_v
  simp only [Tree.run]
  repeat' (first | rfl | split)
noncomputable def laws_szInt64S_len_F : DFn := fun args L =>
  match args with
  | [a1, .int .i64 v1673] =>
    optT (lenV L a1) fun v1672 =>
    .leaf (.int .i64 (laws_szInt64S_len_v v1672 v1673), L)
  | _ => .fail
theorem laws_szInt64S_len_Fok : COk Try.prog 35 laws_szInt64S_len_F true := by
  intro F L H args r L' hs ha hr
  unfold laws_szInt64S_len_F at hr
  split at hr
  · rename_i a1 v1673
    obtain ⟨v1672, hv1672, hr⟩ := optT_run hr
    have hy := laws_szInt64S_len_tot v1672 v1673
    generalize laws_szInt64S_len_v v1672 v1673 = y at hy hr
    simp only [Tree.run, Option.some.injEq, Prod.mk.injEq] at hr
    obtain ⟨rfl, rfl⟩ := hr
    exact call_ok0 hs (fun k => (([a1.av F] : List AV)[k]?).getD .top) [a1, .int .i64 v1673] [.hslc (BR.root 0) v1672, .int .i64 v1673] (fun F' h0 hi hρ => ⟨by simp [DVs.av, DV.av, BR.av, hρ], laws_szInt64S_len_fn v1672 v1673 F' (st_nil hi) ⟨hslc_ok hi (by rw [h0, hρ]; exact lenV_ok hs (DVs.okAt ha 0 rfl) hv1672), trivial, trivial⟩ hy⟩) rfl
  · cases hr
/-! laws.szWhole -/
noncomputable def laws_szWhole_len_LO (v1668 v1669 : Int) (v1670 : Nat) (v1671 : Int) : LOr := fun id e L =>
  match id with
  | _ => .fail
noncomputable def laws_szWhole_len_tab : List (FuncId × DFn × Bool) := [(35, laws_szInt64S_len_F, true)]
theorem laws_szWhole_len_hO : OrcOk Try.prog (tabD laws_szWhole_len_tab) (tabM laws_szWhole_len_tab) := tabD_cons laws_szInt64S_len_Fok (tabD_nil _)
noncomputable def laws_szWhole_len_T (v1670 : Nat) (v1671 : Int) : Tree (Int) :=
  (.br (decide ((laws_szInt64S_len_v v1670 v1671) < (0 : Int))) (
  .leaf (-1 : Int)
  ) (
  .leaf (laws_szInt64S_len_v v1670 v1671)
  ))

noncomputable def laws_szWhole_len_g (v1670 : Nat) (v1671 : Int) : Option (Int) := (laws_szWhole_len_T v1670 v1671).run
def laws_szWhole_len_enc (v1668 v1669 : Int) (v1670 : Nat) (v1671 y : Int) : Rs := (.int .i64 y, [])
theorem laws_szWhole_len_den (v1668 v1669 : Int) (v1670 : Nat) (v1671 : Int) : (den TT (tabD laws_szWhole_len_tab) (tabM laws_szWhole_len_tab) (laws_szWhole_len_LO v1668 v1669 v1670 v1671) (codeOf Try.f12) ([.agg [.int .i64 v1668, .int .i64 v1669, .hslc (BR.root 0) v1670], .int .i64 v1671] ++ List.replicate (Try.f12.ntmps - ([.agg [.int .i64 v1668, .int .i64 v1669, .hslc (BR.root 0) v1670], .int .i64 v1671] : List DV).length) .undef) []).bind (retD TT Try.f12.results.toList 0) = (laws_szWhole_len_T v1670 v1671).bind fun y => .leaf (laws_szWhole_len_enc v1668 v1669 v1670 v1671 y) := by kernel_rfl
theorem laws_szWhole_len_fn (v1668 v1669 : Int) (v1670 : Nat) (v1671 : Int) (F : Fr) (h0 : St F [] F.H0) (hA : DVs.Ok F [] [.agg [.int .i64 v1668, .int .i64 v1669, .hslc (BR.root 0) v1670], .int .i64 v1671]) {y : Int} (hy : laws_szWhole_len_g v1670 v1671 = some y) : ∃ F' H', Fwd 0 F F' [] (laws_szWhole_len_enc v1668 v1669 v1670 v1671 y).2 ∧ FnOk Try.prog 12 (DVs.av F [.agg [.int .i64 v1668, .int .i64 v1669, .hslc (BR.root 0) v1670], .int .i64 v1671]) F.H0 ((laws_szWhole_len_enc v1668 v1669 v1670 v1671 y).1.av F') H' ∧ St F' (laws_szWhole_len_enc v1668 v1669 v1670 v1671 y).2 H' ∧ (laws_szWhole_len_enc v1668 v1669 v1670 v1671 y).1.Ok F' (laws_szWhole_len_enc v1668 v1669 v1670 v1671 y).2 :=
  fn_fin tok laws_szWhole_len_hO mixed Try.func12 Try.call12 (by kernel_rfl) (LoopsOk_eq (l := []) (by kernel_rfl) trivial) (laws_szWhole_len_den v1668 v1669 v1670 v1671) hy h0 hA
def laws_szWhole_len_v (v1670 : Nat) (v1671 : Int) : Int :=
  if (decide ((laws_szInt64S_len_v v1670 v1671) < (0 : Int))) = true then (
  (-1 : Int)
  ) else (
  (laws_szInt64S_len_v v1670 v1671)
  )
theorem laws_szWhole_len_tot (v1670 : Nat) (v1671 : Int) : laws_szWhole_len_g v1670 v1671 = some (laws_szWhole_len_v v1670 v1671) := by
  unfold laws_szWhole_len_g laws_szWhole_len_T laws_szWhole_len_v
  simp only [Tree.run]
  repeat' (first | rfl | split)
noncomputable def laws_szWhole_len_F : DFn := fun args L =>
  match args with
  | [.agg [.int .i64 v1668, .int .i64 v1669, a1], .int .i64 v1671] =>
    optT (lenV L a1) fun v1670 =>
    .leaf (.int .i64 (laws_szWhole_len_v v1670 v1671), L)
  | _ => .fail
theorem laws_szWhole_len_Fok : COk Try.prog 12 laws_szWhole_len_F true := by
  intro F L H args r L' hs ha hr
  unfold laws_szWhole_len_F at hr
  split at hr
  · rename_i v1668 v1669 a1 v1671
    obtain ⟨v1670, hv1670, hr⟩ := optT_run hr
    have hy := laws_szWhole_len_tot v1670 v1671
    generalize laws_szWhole_len_v v1670 v1671 = y at hy hr
    simp only [Tree.run, Option.some.injEq, Prod.mk.injEq] at hr
    obtain ⟨rfl, rfl⟩ := hr
    exact call_ok0 hs (fun k => (([a1.av F] : List AV)[k]?).getD .top) [.agg [.int .i64 v1668, .int .i64 v1669, a1], .int .i64 v1671] [.agg [.int .i64 v1668, .int .i64 v1669, .hslc (BR.root 0) v1670], .int .i64 v1671] (fun F' h0 hi hρ => ⟨by simp [DVs.av, DV.av, BR.av, hρ], laws_szWhole_len_fn v1668 v1669 v1670 v1671 F' (st_nil hi) ⟨⟨trivial, trivial, hslc_ok hi (by rw [h0, hρ]; exact lenV_ok hs (DVs.okAt (DVs.okAt ha 0 rfl) 2 rfl) hv1670), trivial⟩, trivial, trivial⟩ hy⟩) rfl
  · cases hr
/-! laws.FnExactShortRows -/
noncomputable def laws_FnExactShortRows_len_LO (v1664 v1665 : Int) (v1666 : Nat) (v1667 : Int) : LOr := fun id e L =>
  match id with
  | _ => .fail
noncomputable def laws_FnExactShortRows_len_tab : List (FuncId × DFn × Bool) := [(12, laws_szWhole_len_F, true)]
theorem laws_FnExactShortRows_len_hO : OrcOk Try.prog (tabD laws_FnExactShortRows_len_tab) (tabM laws_FnExactShortRows_len_tab) := tabD_cons laws_szWhole_len_Fok (tabD_nil _)
noncomputable def laws_FnExactShortRows_len_T (v1666 : Nat) : Tree (Bool) :=
  (.br (decide ((laws_szWhole_len_v v1666 (1048576 : Int)) < (0 : Int))) (
  .leaf true
  ) (
  .fail
  ))

noncomputable def laws_FnExactShortRows_len_g (v1666 : Nat) : Option (Bool) := (laws_FnExactShortRows_len_T v1666).run
def laws_FnExactShortRows_len_enc (v1664 v1665 : Int) (v1666 : Nat) (v1667 : Int) (y : Bool) : Rs := (.bool y, [])
theorem laws_FnExactShortRows_len_den (v1664 v1665 : Int) (v1666 : Nat) (v1667 : Int) : (den TT (tabD laws_FnExactShortRows_len_tab) (tabM laws_FnExactShortRows_len_tab) (laws_FnExactShortRows_len_LO v1664 v1665 v1666 v1667) (codeOf Try.f4) ([.agg [.int .i64 v1664, .int .i64 v1665, .hslc (BR.root 0) v1666], .int .i64 v1667] ++ List.replicate (Try.f4.ntmps - ([.agg [.int .i64 v1664, .int .i64 v1665, .hslc (BR.root 0) v1666], .int .i64 v1667] : List DV).length) .undef) []).bind (retD TT Try.f4.results.toList 0) = (laws_FnExactShortRows_len_T v1666).bind fun y => .leaf (laws_FnExactShortRows_len_enc v1664 v1665 v1666 v1667 y) := by kernel_rfl
theorem laws_FnExactShortRows_len_fn (v1664 v1665 : Int) (v1666 : Nat) (v1667 : Int) (F : Fr) (h0 : St F [] F.H0) (hA : DVs.Ok F [] [.agg [.int .i64 v1664, .int .i64 v1665, .hslc (BR.root 0) v1666], .int .i64 v1667]) {y : Bool} (hy : laws_FnExactShortRows_len_g v1666 = some y) : ∃ F' H', Fwd 0 F F' [] (laws_FnExactShortRows_len_enc v1664 v1665 v1666 v1667 y).2 ∧ FnOk Try.prog 4 (DVs.av F [.agg [.int .i64 v1664, .int .i64 v1665, .hslc (BR.root 0) v1666], .int .i64 v1667]) F.H0 ((laws_FnExactShortRows_len_enc v1664 v1665 v1666 v1667 y).1.av F') H' ∧ St F' (laws_FnExactShortRows_len_enc v1664 v1665 v1666 v1667 y).2 H' ∧ (laws_FnExactShortRows_len_enc v1664 v1665 v1666 v1667 y).1.Ok F' (laws_FnExactShortRows_len_enc v1664 v1665 v1666 v1667 y).2 :=
  fn_fin tok laws_FnExactShortRows_len_hO mixed Try.func4 Try.call4 (by kernel_rfl) (LoopsOk_eq (l := []) (by kernel_rfl) trivial) (laws_FnExactShortRows_len_den v1664 v1665 v1666 v1667) hy h0 hA
noncomputable def laws_FnExactShortRows_len_F : DFn := fun args L =>
  match args with
  | [.agg [.int .i64 v1664, .int .i64 v1665, a1], .int .i64 v1667] =>
    optT (lenV L a1) fun v1666 =>
    .call (laws_FnExactShortRows_len_g v1666) fun y => .leaf (.bool y, L)
  | _ => .fail
theorem laws_FnExactShortRows_len_Fok : COk Try.prog 4 laws_FnExactShortRows_len_F true := by
  intro F L H args r L' hs ha hr
  unfold laws_FnExactShortRows_len_F at hr
  split at hr
  · rename_i v1664 v1665 a1 v1667
    obtain ⟨v1666, hv1666, hr⟩ := optT_run hr
    simp only [Tree.run] at hr
    obtain ⟨y, hy, hr⟩ := Option.bind_eq_some_iff.1 hr
    simp only [Tree.run, Option.some.injEq, Prod.mk.injEq] at hr
    obtain ⟨rfl, rfl⟩ := hr
    exact call_ok0 hs (fun k => (([a1.av F] : List AV)[k]?).getD .top) [.agg [.int .i64 v1664, .int .i64 v1665, a1], .int .i64 v1667] [.agg [.int .i64 v1664, .int .i64 v1665, .hslc (BR.root 0) v1666], .int .i64 v1667] (fun F' h0 hi hρ => ⟨by simp [DVs.av, DV.av, BR.av, hρ], laws_FnExactShortRows_len_fn v1664 v1665 v1666 v1667 F' (st_nil hi) ⟨⟨trivial, trivial, hslc_ok hi (by rw [h0, hρ]; exact lenV_ok hs (DVs.okAt (DVs.okAt ha 0 rfl) 2 rfl) hv1666), trivial⟩, trivial, trivial⟩ hy⟩) rfl
  · cases hr
end Go.Proofs.Ytmgpbchacndndaa.AM
