/- Functions: what they come to. -/
import Derived.Test.YtooakheodgndaaaBase
set_option maxRecDepth 100000
set_option maxHeartbeats 4000000
set_option linter.unusedSimpArgs false
set_option linter.unusedVariables false
namespace Go.Proofs.Ytooakheodgndaaa.AM
open Go.Proofs
/-! laws.toFloat32S -/
noncomputable def laws_toFloat32S_l0_T (v3 : List Nat) (s : Int × (List Nat)) : Tree ((Int × (List Nat)) ⊕ ((List Nat))) :=
  (.br (decide (s.1 < ((v3.length : Nat) : Int))) (
   (.grd (inb s.1 v3.length) <|
   (.grd (inb s.1 ((s.2).length)) <|
   .leaf (.inl (IntKind.i64.wrap (s.1 + (1 : Int)), List.set s.2 (Int.toNat s.1) (nth v3 (Int.toNat s.1))))))
  ) (
   .leaf (.inr s.2)
  ))

noncomputable def laws_toFloat32S_l0_g (v3 : List Nat) (s0 : Int × (List Nat)) : Option ((List Nat)) := whileM (fun s => (laws_toFloat32S_l0_T v3 s).run) s0
def laws_toFloat32S_l0_E (v3 : List Nat) (s : Int × (List Nat)) : Sd := ([.bslc (BR.root 0) (.f32 v3), .top, .top, .own 0 0 ((s.2).length), .int .i64 s.1, .top, .top, .top, .top, .top, .top, .top, .top, .top, .top, .top, .top, .top, .top, .top, .top, .top], [.row (.f32 s.2) 0])
def laws_toFloat32S_l0_X (v3 : List Nat) (x : (List Nat)) : Out := (.normal, [.top, .top, .top, .own 0 0 ((x).length), .top, .top, .top, .top, .top, .top, .top, .top, .top, .top, .top, .top, .top, .top, .top, .top, .top, .top], [.row (.f32 x) 0])
def laws_toFloat32S_l0_kill : List Nat := [0, 1, 1, 0, 0, 1, 1, 1, 1, 1, 1, 1, 1, 1, 1, 1, 1, 1, 1, 1, 1, 1]
def laws_toFloat32S_l0_nx : Exit → List Nat
  | .exit 0 => [1, 1, 1, 0, 1, 1, 1, 1, 1, 1, 1, 1, 1, 1, 1, 1, 1, 1, 1, 1, 1, 1]
  | .ret => [1, 1, 0, 1, 1, 1, 1, 1, 1, 1, 1, 1, 1, 1, 1, 1, 1, 1, 1, 1, 1, 1]
  | _ => []
noncomputable def laws_toFloat32S_LO (v3 : List Nat) : LOr := fun id e L =>
  match id with
  | 0 => .need (normA 0 laws_toFloat32S_l0_kill e L = some (laws_toFloat32S_l0_E v3 ((gI (vAt e 4)), (gRF L (vAt e 3))))) (.call (laws_toFloat32S_l0_g v3 ((gI (vAt e 4)), (gRF L (vAt e 3)))) fun x => .leaf (laws_toFloat32S_l0_X v3 x))
  | _ => .fail
noncomputable def laws_toFloat32S_tab : List (FuncId × DFn × Bool) := []
theorem laws_toFloat32S_hO : OrcOk Try.prog (tabD laws_toFloat32S_tab) (tabM laws_toFloat32S_tab) := tabD_nil _
theorem laws_toFloat32S_l0_be (v3 : List Nat) (s : Int × (List Nat)) : bodyT TT (tabD laws_toFloat32S_tab) (tabM laws_toFloat32S_tab) (laws_toFloat32S_LO v3) 0 laws_toFloat32S_l0_kill laws_toFloat32S_l0_nx (bodyOf Try.f33 0) 0 (laws_toFloat32S_l0_E v3 s) = (laws_toFloat32S_l0_T v3 s).bind fun y => .leaf (outS (laws_toFloat32S_l0_E v3) (laws_toFloat32S_l0_X v3) y) := by kernel_rfl
theorem laws_toFloat32S_l0_ok (v3 : List Nat) : LSound Try.prog 0 (laws_toFloat32S_LO v3) 0 (bodyOf Try.f33 0) := by
  intro e L out h
  exact lo_ok (E := laws_toFloat32S_l0_E v3) (gT := laws_toFloat32S_l0_T v3) (X := laws_toFloat32S_l0_X v3) (s0 := ((gI (vAt e 4)), (gRF L (vAt e 3)))) tok laws_toFloat32S_hO mixed (LoopsOk_eq (l := []) (by kernel_rfl) trivial) (laws_toFloat32S_l0_be v3) rfl (by intro x; rfl) h
noncomputable def laws_toFloat32S_T (v3 : List Nat) : Tree ((List Nat)) :=
  (.need (((v3.length : Nat) : Int) = ((v3.length : Nat) : Int)) <|
  (.grd (inb ((v3.length : Nat) : Int) (maxN + 1)) <|
  (.need (some (laws_toFloat32S_l0_E v3 ((0 : Int), List.replicate (Int.toNat ((v3.length : Nat) : Int)) (0 : Nat))) = some (laws_toFloat32S_l0_E v3 ((0 : Int), List.replicate (Int.toNat ((v3.length : Nat) : Int)) (0 : Nat)))) <|
  (.call (laws_toFloat32S_l0_g v3 ((0 : Int), List.replicate (Int.toNat ((v3.length : Nat) : Int)) (0 : Nat))) fun v9 =>
  .leaf v9))))

noncomputable def laws_toFloat32S_g (v3 : List Nat) : Option ((List Nat)) := (laws_toFloat32S_T v3).run
def laws_toFloat32S_enc (v3 : List Nat) (y : (List Nat)) : Rs := (.own 0 0 ((y).length), [.row (.f32 y) 0])
theorem laws_toFloat32S_den (v3 : List Nat) : (den TT (tabD laws_toFloat32S_tab) (tabM laws_toFloat32S_tab) (laws_toFloat32S_LO v3) (codeOf Try.f33) ([.bslc (BR.root 0) (.f32 v3)] ++ List.replicate (Try.f33.ntmps - ([.bslc (BR.root 0) (.f32 v3)] : List DV).length) .undef) []).bind (retD TT Try.f33.results.toList 0) = (laws_toFloat32S_T v3).bind fun y => .leaf (laws_toFloat32S_enc v3 y) := by kernel_rfl
theorem laws_toFloat32S_fn (v3 : List Nat) (F : Fr) (hm : F.ids.length = 0) (h0 : St F [] F.H0) (hA : DVs.Ok F [] [.bslc (BR.root 0) (.f32 v3)]) {y : (List Nat)} (hy : laws_toFloat32S_g v3 = some y) : ∃ H', FnOk Try.prog 33 (DVs.av F [.bslc (BR.root 0) (.f32 v3)]) F.H0 ((laws_toFloat32S_enc v3 y).1.av F) H' ∧ St F (laws_toFloat32S_enc v3 y).2 H' ∧ (laws_toFloat32S_enc v3 y).1.Ok F (laws_toFloat32S_enc v3 y).2 :=
  fn_fin tok laws_toFloat32S_hO mixed Try.func33 Try.call33 (by kernel_rfl) (LoopsOk_eq (l := [(0, bodyOf Try.f33 0)]) (by kernel_rfl) ⟨laws_toFloat32S_l0_ok v3, trivial⟩) (laws_toFloat32S_den v3) hy hm h0 hA
noncomputable def laws_toFloat32S_F : DFn := fun args L =>
  match args with
  | [a1] =>
    optT (rowF32 L a1) fun v3 =>
    .call (laws_toFloat32S_g v3) fun y => .leaf (.own (L.length + 0) 0 ((y).length), L ++ [.row (.f32 y) 0])
  | _ => .fail
theorem laws_toFloat32S_Fok : COk Try.prog 33 laws_toFloat32S_F true := by
  intro F L H args r L' hs ha hr
  unfold laws_toFloat32S_F at hr
  split at hr
  · rename_i a1
    obtain ⟨v3, hv3, hr⟩ := optT_run hr
    simp only [Tree.run] at hr
    obtain ⟨y, hy, hr⟩ := Option.bind_eq_some_iff.1 hr
    simp only [Tree.run, Option.some.injEq, Prod.mk.injEq] at hr
    obtain ⟨rfl, rfl⟩ := hr
    exact call_ok1 hs (fun k => (([a1.av F] : List AV)[k]?).getD .top) [a1] [.bslc (BR.root 0) (.f32 v3)] (fun F' h0 hi hρ => ⟨by simp [DVs.av, DV.av, BR.av, hρ], laws_toFloat32S_fn v3 F' (by rw [hi]; rfl) (st_nil hi) ⟨bslc_ok hi (by rw [h0, hρ]; exact rowF32_ok hs (DVs.okAt ha 0 rfl) hv3), trivial⟩ hy⟩) rfl rfl
  · cases hr
/-! spec.l01Finite -/
noncomputable def spec_l01Finite_LO (v17 : Nat) : LOr := fun id e L =>
  match id with
  | _ => .fail
noncomputable def spec_l01Finite_tab : List (FuncId × DFn × Bool) := []
theorem spec_l01Finite_hO : OrcOk Try.prog (tabD spec_l01Finite_tab) (tabM spec_l01Finite_tab) := tabD_nil _
noncomputable def spec_l01Finite_T (v17 : Nat) : Tree (Bool) :=
  .leaf (feq .f32 (fsub .f32 v17 v17) (0 : Nat))

noncomputable def spec_l01Finite_g (v17 : Nat) : Option (Bool) := (spec_l01Finite_T v17).run
def spec_l01Finite_enc (v17 : Nat) (y : Bool) : Rs := (.bool y, [])
theorem spec_l01Finite_den (v17 : Nat) : (den TT (tabD spec_l01Finite_tab) (tabM spec_l01Finite_tab) (spec_l01Finite_LO v17) (codeOf Try.f60) ([.flt .f32 v17] ++ List.replicate (Try.f60.ntmps - ([.flt .f32 v17] : List DV).length) .undef) []).bind (retD TT Try.f60.results.toList 0) = (spec_l01Finite_T v17).bind fun y => .leaf (spec_l01Finite_enc v17 y) := by kernel_rfl
theorem spec_l01Finite_fn (v17 : Nat) (F : Fr) (hm : F.ids.length = 0) (h0 : St F [] F.H0) (hA : DVs.Ok F [] [.flt .f32 v17]) {y : Bool} (hy : spec_l01Finite_g v17 = some y) : ∃ H', FnOk Try.prog 60 (DVs.av F [.flt .f32 v17]) F.H0 ((spec_l01Finite_enc v17 y).1.av F) H' ∧ St F (spec_l01Finite_enc v17 y).2 H' ∧ (spec_l01Finite_enc v17 y).1.Ok F (spec_l01Finite_enc v17 y).2 :=
  fn_fin tok spec_l01Finite_hO mixed Try.func60 Try.call60 (by kernel_rfl) (LoopsOk_eq (l := []) (by kernel_rfl) trivial) (spec_l01Finite_den v17) hy hm h0 hA
def spec_l01Finite_v (v17 : Nat) : Bool :=
  feq .f32 (fsub .f32 v17 v17) (0 : Nat)
theorem spec_l01Finite_tot (v17 : Nat) : spec_l01Finite_g v17 = some (spec_l01Finite_v v17) := by
  unfold spec_l01Finite_g spec_l01Finite_T spec_l01Finite_v
  simp only [Tree.run]
  repeat' (first | rfl | split)
noncomputable def spec_l01Finite_F : DFn := fun args L =>
  match args with
  | [.flt .f32 v17] =>
    .leaf (.bool (spec_l01Finite_v v17), L)
  | _ => .fail
theorem spec_l01Finite_Fok : COk Try.prog 60 spec_l01Finite_F true := by
  intro F L H args r L' hs ha hr
  unfold spec_l01Finite_F at hr
  split at hr
  · rename_i v17
    have hy := spec_l01Finite_tot v17
    generalize spec_l01Finite_v v17 = y at hy hr
    simp only [Tree.run, Option.some.injEq, Prod.mk.injEq] at hr
    obtain ⟨rfl, rfl⟩ := hr
    exact call_ok0 hs (fun k => (([] : List AV)[k]?).getD .top) [.flt .f32 v17] [.flt .f32 v17] (fun F' h0 hi hρ => ⟨by simp [DVs.av, DV.av, BR.av, hρ], spec_l01Finite_fn v17 F' (by rw [hi]; rfl) (st_nil hi) ⟨trivial, trivial⟩ hy⟩) rfl
  · cases hr
/-! spec.l02Finite -/
noncomputable def spec_l02Finite_l0_T (v15 : List Nat) (s : Int) : Tree ((Int) ⊕ ((Unit) ⊕ (Unit))) :=
  (.br (decide (s < ((v15.length : Nat) : Int))) (
   (.grd (inb s v15.length) <|
   (.br (!(spec_l01Finite_v (nth v15 (Int.toNat s)))) (
    .leaf (.inr (.inl ()))
   ) (
    .leaf (.inl (IntKind.i64.wrap (s + (1 : Int))))
   )))
  ) (
   .leaf (.inr (.inr ()))
  ))

noncomputable def spec_l02Finite_l0_g (v15 : List Nat) (s0 : Int) : Option ((Unit) ⊕ (Unit)) := whileM (fun s => (spec_l02Finite_l0_T v15 s).run) s0
def spec_l02Finite_l0_E (v15 : List Nat) (s : Int) : Sd := ([.bslc (BR.root 0) (.f32 v15), .top, .top, .int .i64 s, .top, .top, .top, .top, .top, .top, .top, .top, .top, .top, .top, .top], [])
def spec_l02Finite_l0_X (v15 : List Nat) (x : (Unit) ⊕ (Unit)) : Out := (match x with | .inl x => (.ret, [.top, .top, .lit false, .top, .top, .top, .top, .top, .top, .top, .top, .top, .top, .top, .top, .top], []) | .inr x => (.normal, [.top, .top, .top, .top, .top, .top, .top, .top, .top, .top, .top, .top, .top, .top, .top, .top], []))
def spec_l02Finite_l0_kill : List Nat := [0, 1, 1, 0, 1, 1, 1, 1, 1, 1, 1, 1, 1, 1, 1, 1]
def spec_l02Finite_l0_nx : Exit → List Nat
  | .exit 0 => [1, 1, 1, 1, 1, 1, 1, 1, 1, 1, 1, 1, 1, 1, 1, 1]
  | .ret => [1, 1, 0, 1, 1, 1, 1, 1, 1, 1, 1, 1, 1, 1, 1, 1]
  | _ => []
noncomputable def spec_l02Finite_LO (v15 : List Nat) : LOr := fun id e L =>
  match id with
  | 0 => .need (normA 0 spec_l02Finite_l0_kill e L = some (spec_l02Finite_l0_E v15 (gI (vAt e 3)))) (.call (spec_l02Finite_l0_g v15 (gI (vAt e 3))) fun x => .sum x (fun b0 => .leaf (spec_l02Finite_l0_X v15 (.inl b0))) (fun c0 => .leaf (spec_l02Finite_l0_X v15 (.inr c0))))
  | _ => .fail
noncomputable def spec_l02Finite_tab : List (FuncId × DFn × Bool) := [(60, spec_l01Finite_F, true)]
theorem spec_l02Finite_hO : OrcOk Try.prog (tabD spec_l02Finite_tab) (tabM spec_l02Finite_tab) := tabD_cons spec_l01Finite_Fok (tabD_nil _)
theorem spec_l02Finite_l0_be (v15 : List Nat) (s : Int) : bodyT TT (tabD spec_l02Finite_tab) (tabM spec_l02Finite_tab) (spec_l02Finite_LO v15) 0 spec_l02Finite_l0_kill spec_l02Finite_l0_nx (bodyOf Try.f135 0) 0 (spec_l02Finite_l0_E v15 s) = (spec_l02Finite_l0_T v15 s).bind fun y => .leaf (outS (spec_l02Finite_l0_E v15) (spec_l02Finite_l0_X v15) y) := by kernel_rfl
theorem spec_l02Finite_l0_ok (v15 : List Nat) : LSound Try.prog 0 (spec_l02Finite_LO v15) 0 (bodyOf Try.f135 0) := by
  intro e L out h
  exact lo_ok (E := spec_l02Finite_l0_E v15) (gT := spec_l02Finite_l0_T v15) (X := spec_l02Finite_l0_X v15) (s0 := (gI (vAt e 3))) tok spec_l02Finite_hO mixed (LoopsOk_eq (l := []) (by kernel_rfl) trivial) (spec_l02Finite_l0_be v15) rfl (by intro x; (cases x with | inl b => rfl | inr x => exact rfl)) h
noncomputable def spec_l02Finite_T (v15 : List Nat) : Tree (Bool) :=
  (.need (some (spec_l02Finite_l0_E v15 (0 : Int)) = some (spec_l02Finite_l0_E v15 (0 : Int))) <|
  (.call (spec_l02Finite_l0_g v15 (0 : Int)) fun v20 =>
  (.sum v20 (fun v21 =>
   .leaf false
  ) (fun v22 =>
   .leaf true
  ))))

noncomputable def spec_l02Finite_g (v15 : List Nat) : Option (Bool) := (spec_l02Finite_T v15).run
def spec_l02Finite_enc (v15 : List Nat) (y : Bool) : Rs := (.bool y, [])
theorem spec_l02Finite_den (v15 : List Nat) : (den TT (tabD spec_l02Finite_tab) (tabM spec_l02Finite_tab) (spec_l02Finite_LO v15) (codeOf Try.f135) ([.bslc (BR.root 0) (.f32 v15)] ++ List.replicate (Try.f135.ntmps - ([.bslc (BR.root 0) (.f32 v15)] : List DV).length) .undef) []).bind (retD TT Try.f135.results.toList 0) = (spec_l02Finite_T v15).bind fun y => .leaf (spec_l02Finite_enc v15 y) := by kernel_rfl
theorem spec_l02Finite_fn (v15 : List Nat) (F : Fr) (hm : F.ids.length = 0) (h0 : St F [] F.H0) (hA : DVs.Ok F [] [.bslc (BR.root 0) (.f32 v15)]) {y : Bool} (hy : spec_l02Finite_g v15 = some y) : ∃ H', FnOk Try.prog 135 (DVs.av F [.bslc (BR.root 0) (.f32 v15)]) F.H0 ((spec_l02Finite_enc v15 y).1.av F) H' ∧ St F (spec_l02Finite_enc v15 y).2 H' ∧ (spec_l02Finite_enc v15 y).1.Ok F (spec_l02Finite_enc v15 y).2 :=
  fn_fin tok spec_l02Finite_hO mixed Try.func135 Try.call135 (by kernel_rfl) (LoopsOk_eq (l := [(0, bodyOf Try.f135 0)]) (by kernel_rfl) ⟨spec_l02Finite_l0_ok v15, trivial⟩) (spec_l02Finite_den v15) hy hm h0 hA
noncomputable def spec_l02Finite_F : DFn := fun args L =>
  match args with
  | [a1] =>
    optT (rowF32 L a1) fun v15 =>
    .call (spec_l02Finite_g v15) fun y => .leaf (.bool y, L)
  | _ => .fail
theorem spec_l02Finite_Fok : COk Try.prog 135 spec_l02Finite_F true := by
  intro F L H args r L' hs ha hr
  unfold spec_l02Finite_F at hr
  split at hr
  · rename_i a1
    obtain ⟨v15, hv15, hr⟩ := optT_run hr
    simp only [Tree.run] at hr
    obtain ⟨y, hy, hr⟩ := Option.bind_eq_some_iff.1 hr
    simp only [Tree.run, Option.some.injEq, Prod.mk.injEq] at hr
    obtain ⟨rfl, rfl⟩ := hr
    exact call_ok0 hs (fun k => (([a1.av F] : List AV)[k]?).getD .top) [a1] [.bslc (BR.root 0) (.f32 v15)] (fun F' h0 hi hρ => ⟨by simp [DVs.av, DV.av, BR.av, hρ], spec_l02Finite_fn v15 F' (by rw [hi]; rfl) (st_nil hi) ⟨bslc_ok hi (by rw [h0, hρ]; exact rowF32_ok hs (DVs.okAt ha 0 rfl) hv15), trivial⟩ hy⟩) rfl
  · cases hr
/-! spec.l07Short -/
noncomputable def spec_l07Short_LO (v14 : List Nat) : LOr := fun id e L =>
  match id with
  | _ => .fail
noncomputable def spec_l07Short_tab : List (FuncId × DFn × Bool) := [(135, spec_l02Finite_F, true)]
theorem spec_l07Short_hO : OrcOk Try.prog (tabD spec_l07Short_tab) (tabM spec_l07Short_tab) := tabD_cons spec_l02Finite_Fok (tabD_nil _)
noncomputable def spec_l07Short_T (v14 : List Nat) : Tree (Bool) :=
  (.br (decide ((1 : Int) ≤ ((v14.length : Nat) : Int))) (
   (.br (decide (((v14.length : Nat) : Int) ≤ (12 : Int))) (
    (.call (spec_l02Finite_g v14) fun v23 =>
    .leaf v23)
   ) (
    .leaf false
   ))
  ) (
   .leaf false
  ))

noncomputable def spec_l07Short_g (v14 : List Nat) : Option (Bool) := (spec_l07Short_T v14).run
def spec_l07Short_enc (v14 : List Nat) (y : Bool) : Rs := (.bool y, [])
theorem spec_l07Short_den (v14 : List Nat) : (den TT (tabD spec_l07Short_tab) (tabM spec_l07Short_tab) (spec_l07Short_LO v14) (codeOf Try.f88) ([.bslc (BR.root 0) (.f32 v14)] ++ List.replicate (Try.f88.ntmps - ([.bslc (BR.root 0) (.f32 v14)] : List DV).length) .undef) []).bind (retD TT Try.f88.results.toList 0) = (spec_l07Short_T v14).bind fun y => .leaf (spec_l07Short_enc v14 y) := by kernel_rfl
theorem spec_l07Short_fn (v14 : List Nat) (F : Fr) (hm : F.ids.length = 0) (h0 : St F [] F.H0) (hA : DVs.Ok F [] [.bslc (BR.root 0) (.f32 v14)]) {y : Bool} (hy : spec_l07Short_g v14 = some y) : ∃ H', FnOk Try.prog 88 (DVs.av F [.bslc (BR.root 0) (.f32 v14)]) F.H0 ((spec_l07Short_enc v14 y).1.av F) H' ∧ St F (spec_l07Short_enc v14 y).2 H' ∧ (spec_l07Short_enc v14 y).1.Ok F (spec_l07Short_enc v14 y).2 :=
  fn_fin tok spec_l07Short_hO mixed Try.func88 Try.call88 (by kernel_rfl) (LoopsOk_eq (l := []) (by kernel_rfl) trivial) (spec_l07Short_den v14) hy hm h0 hA
noncomputable def spec_l07Short_F : DFn := fun args L =>
  match args with
  | [a1] =>
    optT (rowF32 L a1) fun v14 =>
    .call (spec_l07Short_g v14) fun y => .leaf (.bool y, L)
  | _ => .fail
theorem spec_l07Short_Fok : COk Try.prog 88 spec_l07Short_F true := by
  intro F L H args r L' hs ha hr
  unfold spec_l07Short_F at hr
  split at hr
  · rename_i a1
    obtain ⟨v14, hv14, hr⟩ := optT_run hr
    simp only [Tree.run] at hr
    obtain ⟨y, hy, hr⟩ := Option.bind_eq_some_iff.1 hr
    simp only [Tree.run, Option.some.injEq, Prod.mk.injEq] at hr
    obtain ⟨rfl, rfl⟩ := hr
    exact call_ok0 hs (fun k => (([a1.av F] : List AV)[k]?).getD .top) [a1] [.bslc (BR.root 0) (.f32 v14)] (fun F' h0 hi hρ => ⟨by simp [DVs.av, DV.av, BR.av, hρ], spec_l07Short_fn v14 F' (by rw [hi]; rfl) (st_nil hi) ⟨bslc_ok hi (by rw [h0, hρ]; exact rowF32_ok hs (DVs.okAt ha 0 rfl) hv14), trivial⟩ hy⟩) rfl
  · cases hr
/-! spec.l07Grow -/
noncomputable def spec_l07Grow_l0_T (v28 : List Nat) (v29 : List Nat) (v31 : Int) (s : Nat × Int) : Tree ((Nat × Int) ⊕ (Nat)) :=
  (.br (decide (s.2 < ((v29.length : Nat) : Int))) (
   (.grd (inb s.2 v29.length) <|
   (.grd (inb (IntKind.i64.wrap ((IntKind.i64.wrap (v31 - (1 : Int))) - s.2)) v28.length) <|
   .leaf (.inl (fadd .f32 s.1 (fmul .f32 (nth v29 (Int.toNat s.2)) (nth v28 (Int.toNat (IntKind.i64.wrap ((IntKind.i64.wrap (v31 - (1 : Int))) - s.2))))), IntKind.i64.wrap (s.2 + (1 : Int))))))
  ) (
   .leaf (.inr s.1)
  ))

noncomputable def spec_l07Grow_l0_g (v28 : List Nat) (v29 : List Nat) (v31 : Int) (s0 : Nat × Int) : Option (Nat) := whileM (fun s => (spec_l07Grow_l0_T v28 v29 v31 s).run) s0
def spec_l07Grow_l0_E (v28 : List Nat) (v29 : List Nat) (v30 : Nat) (v31 : Int) (s : Nat × Int) : Sd := ([.bslc (BR.root 0) (.f32 v28), .bslc (BR.root 1) (.f32 v29), .flt .f32 v30, .int .i64 v31, .top, .top, .top, .top, .top, .top, .top, .flt .f32 s.1, .top, .top, .top, .top, .top, .int .i64 ((v29.length : Nat) : Int), .int .i64 s.2, .top, .top, .top, .top, .top, .top, .top, .top, .top, .top, .top, .top, .top, .top, .top, .top, .top, .top, .top, .top, .top, .top, .top, .top, .top, .top, .top, .top, .top, .top, .top, .top, .top, .top, .top, .top, .top, .top, .top, .top, .top, .top, .top, .top, .top, .top, .top, .top, .top, .top, .top, .top, .top, .top, .top, .top, .top, .top, .top, .top, .top], [])
def spec_l07Grow_l0_X (v28 : List Nat) (v29 : List Nat) (v30 : Nat) (v31 : Int) (x : Nat) : Out := (.normal, [.bslc (BR.root 0) (.f32 v28), .bslc (BR.root 1) (.f32 v29), .flt .f32 v30, .int .i64 v31, .top, .top, .top, .top, .top, .top, .top, .flt .f32 x, .top, .top, .top, .top, .top, .top, .top, .top, .top, .top, .top, .top, .top, .top, .top, .top, .top, .top, .top, .top, .top, .top, .top, .top, .top, .top, .top, .top, .top, .top, .top, .top, .top, .top, .top, .top, .top, .top, .top, .top, .top, .top, .top, .top, .top, .top, .top, .top, .top, .top, .top, .top, .top, .top, .top, .top, .top, .top, .top, .top, .top, .top, .top, .top, .top, .top, .top, .top], [])
def spec_l07Grow_l0_kill : List Nat := [0, 0, 0, 0, 1, 1, 1, 1, 1, 1, 1, 0, 1, 1, 1, 1, 1, 0, 0, 1, 1, 1, 1, 1, 1, 1, 1, 1, 1, 1, 1, 1, 1, 1, 1, 1, 1, 1, 1, 1, 1, 1, 1, 1, 1, 1, 1, 1, 1, 1, 1, 1, 1, 1, 1, 1, 1, 1, 1, 1, 1, 1, 1, 1, 1, 1, 1, 1, 1, 1, 1, 1, 1, 1, 1, 1, 1, 1, 1, 1]
def spec_l07Grow_l0_nx : Exit → List Nat
  | .exit 0 => [0, 0, 0, 0, 1, 1, 1, 1, 1, 1, 1, 0, 1, 1, 1, 1, 1, 1, 1, 1, 1, 1, 1, 1, 1, 1, 1, 1, 1, 1, 1, 1, 1, 1, 1, 1, 1, 1, 1, 1, 1, 1, 1, 1, 1, 1, 1, 1, 1, 1, 1, 1, 1, 1, 1, 1, 1, 1, 1, 1, 1, 1, 1, 1, 1, 1, 1, 1, 1, 1, 1, 1, 1, 1, 1, 1, 1, 1, 1, 1]
  | .ret => [1, 1, 1, 1, 1, 1, 1, 1, 0, 0, 0, 1, 1, 1, 1, 1, 1, 1, 1, 1, 1, 1, 1, 1, 1, 1, 1, 1, 1, 1, 1, 1, 1, 1, 1, 1, 1, 1, 1, 1, 1, 1, 1, 1, 1, 1, 1, 1, 1, 1, 1, 1, 1, 1, 1, 1, 1, 1, 1, 1, 1, 1, 1, 1, 1, 1, 1, 1, 1, 1, 1, 1, 1, 1, 1, 1, 1, 1, 1, 1]
  | _ => []
noncomputable def spec_l07Grow_l2_T (v29 : List Nat) (v31 : Int) (v44 : Nat) (s : Int × (List Nat)) : Tree ((Int × (List Nat)) ⊕ ((List Nat))) :=
  (.br (decide (s.1 < ((v29.length : Nat) : Int))) (
   (.grd (inb s.1 v29.length) <|
   (.grd (inb (IntKind.i64.wrap ((IntKind.i64.wrap (v31 - (2 : Int))) - s.1)) v29.length) <|
   (.grd (fits (s.2 ++ ([fsub .f32 (nth v29 (Int.toNat s.1)) (fmul .f32 v44 (nth v29 (Int.toNat (IntKind.i64.wrap ((IntKind.i64.wrap (v31 - (2 : Int))) - s.1)))))] : List Nat)).length) <|
   .leaf (.inl (IntKind.i64.wrap (s.1 + (1 : Int)), s.2 ++ ([fsub .f32 (nth v29 (Int.toNat s.1)) (fmul .f32 v44 (nth v29 (Int.toNat (IntKind.i64.wrap ((IntKind.i64.wrap (v31 - (2 : Int))) - s.1)))))] : List Nat))))))
  ) (
   .leaf (.inr s.2)
  ))

noncomputable def spec_l07Grow_l2_g (v29 : List Nat) (v31 : Int) (v44 : Nat) (s0 : Int × (List Nat)) : Option ((List Nat)) := whileM (fun s => (spec_l07Grow_l2_T v29 v31 v44 s).run) s0
def spec_l07Grow_l2_E (v28 : List Nat) (v29 : List Nat) (v30 : Nat) (v31 : Int) (v44 : Nat) (s : Int × (List Nat)) : Sd := ([.top, .bslc (BR.root 1) (.f32 v29), .flt .f32 v30, .int .i64 v31, .top, .top, .top, .top, .top, .top, .top, .top, .top, .flt .f32 v44, .own 0 0 ((s.2).length), .top, .top, .top, .top, .top, .top, .top, .top, .top, .top, .top, .top, .top, .top, .top, .top, .top, .top, .top, .top, .top, .top, .top, .top, .top, .top, .top, .top, .top, .top, .top, .int .i64 ((v29.length : Nat) : Int), .int .i64 s.1, .top, .top, .top, .top, .top, .top, .top, .top, .top, .top, .top, .top, .top, .top, .top, .top, .top, .top, .top, .top, .top, .top, .top, .top, .top, .top, .top, .top, .top, .top, .top, .top], [.row (.f32 s.2) 0])
def spec_l07Grow_l2_X (v28 : List Nat) (v29 : List Nat) (v30 : Nat) (v31 : Int) (v44 : Nat) (x : (List Nat)) : Out := (.normal, [.top, .top, .flt .f32 v30, .top, .top, .top, .top, .top, .top, .top, .top, .top, .top, .flt .f32 v44, .own 0 0 ((x).length), .top, .top, .top, .top, .top, .top, .top, .top, .top, .top, .top, .top, .top, .top, .top, .top, .top, .top, .top, .top, .top, .top, .top, .top, .top, .top, .top, .top, .top, .top, .top, .top, .top, .top, .top, .top, .top, .top, .top, .top, .top, .top, .top, .top, .top, .top, .top, .top, .top, .top, .top, .top, .top, .top, .top, .top, .top, .top, .top, .top, .top, .top, .top, .top, .top], [.row (.f32 x) 0])
def spec_l07Grow_l2_kill : List Nat := [1, 0, 0, 0, 1, 1, 1, 1, 1, 1, 1, 1, 1, 0, 0, 1, 1, 1, 1, 1, 1, 1, 1, 1, 1, 1, 1, 1, 1, 1, 1, 1, 1, 1, 1, 1, 1, 1, 1, 1, 1, 1, 1, 1, 1, 1, 0, 0, 1, 1, 1, 1, 1, 1, 1, 1, 1, 1, 1, 1, 1, 1, 1, 1, 1, 1, 1, 1, 1, 1, 1, 1, 1, 1, 1, 1, 1, 1, 1, 1]
def spec_l07Grow_l2_nx : Exit → List Nat
  | .exit 2 => [1, 1, 0, 1, 1, 1, 1, 1, 1, 1, 1, 1, 1, 0, 0, 1, 1, 1, 1, 1, 1, 1, 1, 1, 1, 1, 1, 1, 1, 1, 1, 1, 1, 1, 1, 1, 1, 1, 1, 1, 1, 1, 1, 1, 1, 1, 1, 1, 1, 1, 1, 1, 1, 1, 1, 1, 1, 1, 1, 1, 1, 1, 1, 1, 1, 1, 1, 1, 1, 1, 1, 1, 1, 1, 1, 1, 1, 1, 1, 1]
  | .ret => [1, 1, 1, 1, 1, 1, 1, 1, 0, 0, 0, 1, 1, 1, 1, 1, 1, 1, 1, 1, 1, 1, 1, 1, 1, 1, 1, 1, 1, 1, 1, 1, 1, 1, 1, 1, 1, 1, 1, 1, 1, 1, 1, 1, 1, 1, 1, 1, 1, 1, 1, 1, 1, 1, 1, 1, 1, 1, 1, 1, 1, 1, 1, 1, 1, 1, 1, 1, 1, 1, 1, 1, 1, 1, 1, 1, 1, 1, 1, 1]
  | _ => []
noncomputable def spec_l07Grow_LO (v28 : List Nat) (v29 : List Nat) (v30 : Nat) (v31 : Int) : LOr := fun id e L =>
  match id with
  | 0 => .need (normA 0 spec_l07Grow_l0_kill e L = some (spec_l07Grow_l0_E v28 v29 v30 v31 ((gF (vAt e 11)), (gI (vAt e 18))))) (.call (spec_l07Grow_l0_g v28 v29 v31 ((gF (vAt e 11)), (gI (vAt e 18)))) fun x => .leaf (spec_l07Grow_l0_X v28 v29 v30 v31 x))
  | 2 => .need (normA 0 spec_l07Grow_l2_kill e L = some (spec_l07Grow_l2_E v28 v29 v30 v31 (gF (vAt e 13)) ((gI (vAt e 47)), (gRF L (vAt e 14))))) (.call (spec_l07Grow_l2_g v29 v31 (gF (vAt e 13)) ((gI (vAt e 47)), (gRF L (vAt e 14)))) fun x => .leaf (spec_l07Grow_l2_X v28 v29 v30 v31 (gF (vAt e 13)) x))
  | _ => .fail
noncomputable def spec_l07Grow_tab : List (FuncId × DFn × Bool) := []
theorem spec_l07Grow_hO : OrcOk Try.prog (tabD spec_l07Grow_tab) (tabM spec_l07Grow_tab) := tabD_nil _
theorem spec_l07Grow_l0_be (v28 : List Nat) (v29 : List Nat) (v30 : Nat) (v31 : Int) (s : Nat × Int) : bodyT TT (tabD spec_l07Grow_tab) (tabM spec_l07Grow_tab) (spec_l07Grow_LO v28 v29 v30 v31) 0 spec_l07Grow_l0_kill spec_l07Grow_l0_nx (bodyOf Try.f89 0) 0 (spec_l07Grow_l0_E v28 v29 v30 v31 s) = (spec_l07Grow_l0_T v28 v29 v31 s).bind fun y => .leaf (outS (spec_l07Grow_l0_E v28 v29 v30 v31) (spec_l07Grow_l0_X v28 v29 v30 v31) y) := by kernel_rfl
theorem spec_l07Grow_l0_ok (v28 : List Nat) (v29 : List Nat) (v30 : Nat) (v31 : Int) : LSound Try.prog 0 (spec_l07Grow_LO v28 v29 v30 v31) 0 (bodyOf Try.f89 0) := by
  intro e L out h
  exact lo_ok (E := spec_l07Grow_l0_E v28 v29 v30 v31) (gT := spec_l07Grow_l0_T v28 v29 v31) (X := spec_l07Grow_l0_X v28 v29 v30 v31) (s0 := ((gF (vAt e 11)), (gI (vAt e 18)))) tok spec_l07Grow_hO mixed (LoopsOk_eq (l := []) (by kernel_rfl) trivial) (spec_l07Grow_l0_be v28 v29 v30 v31) rfl (by intro x; rfl) h
theorem spec_l07Grow_l2_be (v28 : List Nat) (v29 : List Nat) (v30 : Nat) (v31 : Int) (v44 : Nat) (s : Int × (List Nat)) : bodyT TT (tabD spec_l07Grow_tab) (tabM spec_l07Grow_tab) (spec_l07Grow_LO v28 v29 v30 v31) 0 spec_l07Grow_l2_kill spec_l07Grow_l2_nx (bodyOf Try.f89 2) 2 (spec_l07Grow_l2_E v28 v29 v30 v31 v44 s) = (spec_l07Grow_l2_T v29 v31 v44 s).bind fun y => .leaf (outS (spec_l07Grow_l2_E v28 v29 v30 v31 v44) (spec_l07Grow_l2_X v28 v29 v30 v31 v44) y) := by kernel_rfl
theorem spec_l07Grow_l2_ok (v28 : List Nat) (v29 : List Nat) (v30 : Nat) (v31 : Int) : LSound Try.prog 0 (spec_l07Grow_LO v28 v29 v30 v31) 2 (bodyOf Try.f89 2) := by
  intro e L out h
  exact lo_ok (E := spec_l07Grow_l2_E v28 v29 v30 v31 (gF (vAt e 13))) (gT := spec_l07Grow_l2_T v29 v31 (gF (vAt e 13))) (X := spec_l07Grow_l2_X v28 v29 v30 v31 (gF (vAt e 13))) (s0 := ((gI (vAt e 47)), (gRF L (vAt e 14)))) tok spec_l07Grow_hO mixed (LoopsOk_eq (l := []) (by kernel_rfl) trivial) (spec_l07Grow_l2_be v28 v29 v30 v31 (gF (vAt e 13))) rfl (by intro x; rfl) h
noncomputable def spec_l07Grow_T (v28 : List Nat) (v29 : List Nat) (v30 : Nat) (v31 : Int) : Tree (Nat × Nat × (List Nat)) :=
  (.need (some (spec_l07Grow_l0_E v28 v29 v30 v31 ((0 : Nat), (0 : Int))) = some (spec_l07Grow_l0_E v28 v29 v30 v31 ((0 : Nat), (0 : Int)))) <|
  (.call (spec_l07Grow_l0_g v28 v29 v31 ((0 : Nat), (0 : Int))) fun v38 =>
  (.grd (inb v31 v28.length) <|
  (.need (some (spec_l07Grow_l2_E v28 v29 v30 v31 (fdiv .f32 (fsub .f32 (nth v28 (Int.toNat v31)) v38) v30) ((0 : Int), ([] : List Nat))) = some (spec_l07Grow_l2_E v28 v29 v30 v31 (fdiv .f32 (fsub .f32 (nth v28 (Int.toNat v31)) v38) v30) ((0 : Int), ([] : List Nat)))) <|
  (.call (spec_l07Grow_l2_g v29 v31 (fdiv .f32 (fsub .f32 (nth v28 (Int.toNat v31)) v38) v30) ((0 : Int), ([] : List Nat))) fun v47 =>
  (.grd (fits (v47 ++ ([(fdiv .f32 (fsub .f32 (nth v28 (Int.toNat v31)) v38) v30)] : List Nat)).length) <|
  .leaf (fmul .f32 v30 (fsub .f32 (1065353216 : Nat) (fmul .f32 (fdiv .f32 (fsub .f32 (nth v28 (Int.toNat v31)) v38) v30) (fdiv .f32 (fsub .f32 (nth v28 (Int.toNat v31)) v38) v30))), (fdiv .f32 (fsub .f32 (nth v28 (Int.toNat v31)) v38) v30), v47 ++ ([(fdiv .f32 (fsub .f32 (nth v28 (Int.toNat v31)) v38) v30)] : List Nat))))))))

noncomputable def spec_l07Grow_g (v28 : List Nat) (v29 : List Nat) (v30 : Nat) (v31 : Int) : Option (Nat × Nat × (List Nat)) := (spec_l07Grow_T v28 v29 v30 v31).run
def spec_l07Grow_enc (v28 : List Nat) (v29 : List Nat) (v30 : Nat) (v31 : Int) (y : Nat × Nat × (List Nat)) : Rs := (.tup [.own 0 0 ((y.2.2).length), .flt .f32 y.1, .flt .f32 y.2.1], [.row (.f32 y.2.2) 0])
theorem spec_l07Grow_den (v28 : List Nat) (v29 : List Nat) (v30 : Nat) (v31 : Int) : (den TT (tabD spec_l07Grow_tab) (tabM spec_l07Grow_tab) (spec_l07Grow_LO v28 v29 v30 v31) (codeOf Try.f89) ([.bslc (BR.root 0) (.f32 v28), .bslc (BR.root 1) (.f32 v29), .flt .f32 v30, .int .i64 v31] ++ List.replicate (Try.f89.ntmps - ([.bslc (BR.root 0) (.f32 v28), .bslc (BR.root 1) (.f32 v29), .flt .f32 v30, .int .i64 v31] : List DV).length) .undef) []).bind (retD TT Try.f89.results.toList 0) = (spec_l07Grow_T v28 v29 v30 v31).bind fun y => .leaf (spec_l07Grow_enc v28 v29 v30 v31 y) := by kernel_rfl
theorem spec_l07Grow_fn (v28 : List Nat) (v29 : List Nat) (v30 : Nat) (v31 : Int) (F : Fr) (hm : F.ids.length = 0) (h0 : St F [] F.H0) (hA : DVs.Ok F [] [.bslc (BR.root 0) (.f32 v28), .bslc (BR.root 1) (.f32 v29), .flt .f32 v30, .int .i64 v31]) {y : Nat × Nat × (List Nat)} (hy : spec_l07Grow_g v28 v29 v30 v31 = some y) : ∃ H', FnOk Try.prog 89 (DVs.av F [.bslc (BR.root 0) (.f32 v28), .bslc (BR.root 1) (.f32 v29), .flt .f32 v30, .int .i64 v31]) F.H0 ((spec_l07Grow_enc v28 v29 v30 v31 y).1.av F) H' ∧ St F (spec_l07Grow_enc v28 v29 v30 v31 y).2 H' ∧ (spec_l07Grow_enc v28 v29 v30 v31 y).1.Ok F (spec_l07Grow_enc v28 v29 v30 v31 y).2 :=
  fn_fin tok spec_l07Grow_hO mixed Try.func89 Try.call89 (by kernel_rfl) (LoopsOk_eq (l := [(0, bodyOf Try.f89 0), (2, bodyOf Try.f89 2)]) (by kernel_rfl) ⟨spec_l07Grow_l0_ok v28 v29 v30 v31, spec_l07Grow_l2_ok v28 v29 v30 v31, trivial⟩) (spec_l07Grow_den v28 v29 v30 v31) hy hm h0 hA
noncomputable def spec_l07Grow_F : DFn := fun args L =>
  match args with
  | [a1, a2, .flt .f32 v30, .int .i64 v31] =>
    optT (rowF32 L a1) fun v28 =>
    optT (rowF32 L a2) fun v29 =>
    .call (spec_l07Grow_g v28 v29 v30 v31) fun y => .leaf (.tup [.own (L.length + 0) 0 ((y.2.2).length), .flt .f32 y.1, .flt .f32 y.2.1], L ++ [.row (.f32 y.2.2) 0])
  | _ => .fail
theorem spec_l07Grow_Fok : COk Try.prog 89 spec_l07Grow_F true := by
  intro F L H args r L' hs ha hr
  unfold spec_l07Grow_F at hr
  split at hr
  · rename_i a1 a2 v30 v31
    obtain ⟨v28, hv28, hr⟩ := optT_run hr
    obtain ⟨v29, hv29, hr⟩ := optT_run hr
    simp only [Tree.run] at hr
    obtain ⟨y, hy, hr⟩ := Option.bind_eq_some_iff.1 hr
    simp only [Tree.run, Option.some.injEq, Prod.mk.injEq] at hr
    obtain ⟨rfl, rfl⟩ := hr
    exact call_ok1 hs (fun k => (([a1.av F, a2.av F] : List AV)[k]?).getD .top) [a1, a2, .flt .f32 v30, .int .i64 v31] [.bslc (BR.root 0) (.f32 v28), .bslc (BR.root 1) (.f32 v29), .flt .f32 v30, .int .i64 v31] (fun F' h0 hi hρ => ⟨by simp [DVs.av, DV.av, BR.av, hρ], spec_l07Grow_fn v28 v29 v30 v31 F' (by rw [hi]; rfl) (st_nil hi) ⟨bslc_ok hi (by rw [h0, hρ]; exact rowF32_ok hs (DVs.okAt ha 0 rfl) hv28), bslc_ok hi (by rw [h0, hρ]; exact rowF32_ok hs (DVs.okAt ha 1 rfl) hv29), trivial, trivial, trivial⟩ hy⟩) rfl rfl
  · cases hr
/-! spec.l02List -/
noncomputable def spec_l02List_LO (v184 : List Nat) : LOr := fun id e L =>
  match id with
  | _ => .fail
noncomputable def spec_l02List_tab : List (FuncId × DFn × Bool) := [(135, spec_l02Finite_F, true)]
theorem spec_l02List_hO : OrcOk Try.prog (tabD spec_l02List_tab) (tabM spec_l02List_tab) := tabD_cons spec_l02Finite_Fok (tabD_nil _)
noncomputable def spec_l02List_T (v184 : List Nat) : Tree ((Unit) ⊕ (Unit)) :=
  (.call (spec_l02Finite_g v184) fun v185 =>
  (.br (!v185) (
   .leaf (.inl ())
  ) (
   .leaf (.inr ())
  )))

noncomputable def spec_l02List_g (v184 : List Nat) : Option ((Unit) ⊕ (Unit)) := (spec_l02List_T v184).run
def spec_l02List_enc (v184 : List Nat) (y : (Unit) ⊕ (Unit)) : Rs := (match y with | .inl y => (.tup [.nilslc, .lit false], []) | .inr y => (.tup [.bslc (BR.root 0) (.f32 v184), .lit true], []))
theorem spec_l02List_den (v184 : List Nat) : (den TT (tabD spec_l02List_tab) (tabM spec_l02List_tab) (spec_l02List_LO v184) (codeOf Try.f90) ([.bslc (BR.root 0) (.f32 v184)] ++ List.replicate (Try.f90.ntmps - ([.bslc (BR.root 0) (.f32 v184)] : List DV).length) .undef) []).bind (retD TT Try.f90.results.toList 0) = (spec_l02List_T v184).bind fun y => .leaf (spec_l02List_enc v184 y) := by kernel_rfl
theorem spec_l02List_fn (v184 : List Nat) (F : Fr) (hm : F.ids.length = 0) (h0 : St F [] F.H0) (hA : DVs.Ok F [] [.bslc (BR.root 0) (.f32 v184)]) {y : (Unit) ⊕ (Unit)} (hy : spec_l02List_g v184 = some y) : ∃ H', FnOk Try.prog 90 (DVs.av F [.bslc (BR.root 0) (.f32 v184)]) F.H0 ((spec_l02List_enc v184 y).1.av F) H' ∧ St F (spec_l02List_enc v184 y).2 H' ∧ (spec_l02List_enc v184 y).1.Ok F (spec_l02List_enc v184 y).2 :=
  fn_fin tok spec_l02List_hO mixed Try.func90 Try.call90 (by kernel_rfl) (LoopsOk_eq (l := []) (by kernel_rfl) trivial) (spec_l02List_den v184) hy hm h0 hA
noncomputable def spec_l02List_F : DFn := fun args L =>
  match args with
  | [a1] =>
    optT (rowF32 L a1) fun v184 =>
    .call (spec_l02List_g v184) fun y => .sum y (fun y0 => .leaf (.tup [.nilslc, .lit false], L)) (fun z0 => .leaf (.tup [a1, .lit true], L))
  | _ => .fail
theorem spec_l02List_Fok : COk Try.prog 90 spec_l02List_F true := by
  intro F L H args r L' hs ha hr
  unfold spec_l02List_F at hr
  split at hr
  · rename_i a1
    obtain ⟨v184, hv184, hr⟩ := optT_run hr
    simp only [Tree.run] at hr
    obtain ⟨y, hy, hr⟩ := Option.bind_eq_some_iff.1 hr
    cases y with
    | inl y =>
      simp only [Tree.run, Option.some.injEq, Prod.mk.injEq] at hr
      obtain ⟨rfl, rfl⟩ := hr
      exact call_ok0 hs (fun k => (([a1.av F] : List AV)[k]?).getD .top) [a1] [.bslc (BR.root 0) (.f32 v184)] (fun F' h0 hi hρ => ⟨by simp [DVs.av, DV.av, BR.av, hρ], spec_l02List_fn v184 F' (by rw [hi]; rfl) (st_nil hi) ⟨bslc_ok hi (by rw [h0, hρ]; exact rowF32_ok hs (DVs.okAt ha 0 rfl) hv184), trivial⟩ hy⟩) rfl
    | inr y =>
      simp only [Tree.run, Option.some.injEq, Prod.mk.injEq] at hr
      obtain ⟨rfl, rfl⟩ := hr
      exact call_al0 hs (fun k => (([a1.av F] : List AV)[k]?).getD .top) [a1] [.bslc (BR.root 0) (.f32 v184)] (fun F' h0 hi hρ => ⟨by simp [DVs.av, DV.av, BR.av, hρ], spec_l02List_fn v184 F' (by rw [hi]; rfl) (st_nil hi) ⟨bslc_ok hi (by rw [h0, hρ]; exact rowF32_ok hs (DVs.okAt ha 0 rfl) hv184), trivial⟩ hy⟩) (fun F' h0 hi hρ => by simp [spec_l02List_enc, DVs.av, DV.av, BR.av, hρ]) ⟨(DVs.okAt ha 0 rfl), trivial, trivial⟩
  · cases hr
/-! spec.ShiftSolve -/
noncomputable def spec_ShiftSolve_l2_T (v12 : List Nat) (v151 : Nat) (v152 : Int) (v154 : Int) (v156 : List Nat) (v157 : List Nat) (s : Nat × Int) : Tree ((Nat × Int) ⊕ (Nat)) :=
  (.br (decide (s.2 < v154)) (
   (.grd (inb s.2 ((v157).length)) <|
   (.grd (inb (IntKind.i64.wrap (v152 - s.2)) v12.length) <|
   .leaf (.inl (fadd .f32 s.1 (fmul .f32 (nth v157 (Int.toNat s.2)) (nth v12 (Int.toNat (IntKind.i64.wrap (v152 - s.2))))), IntKind.i64.wrap (s.2 + (1 : Int))))))
  ) (
   .leaf (.inr s.1)
  ))

noncomputable def spec_ShiftSolve_l2_g (v12 : List Nat) (v151 : Nat) (v152 : Int) (v154 : Int) (v156 : List Nat) (v157 : List Nat) (s0 : Nat × Int) : Option (Nat) := whileM (fun s => (spec_ShiftSolve_l2_T v12 v151 v152 v154 v156 v157 s).run) s0
def spec_ShiftSolve_l2_E (v12 : List Nat) (v13 : List Nat) (v151 : Nat) (v152 : Int) (v154 : Int) (v156 : List Nat) (v157 : List Nat) (s : Nat × Int) : Sd := ([.bslc (BR.root 0) (.f32 v12), .bslc (BR.root 1) (.f32 v13), .top, .top, .top, .top, .own 0 0 ((v156).length), .flt .f32 v151, .own 1 0 ((v157).length), .int .i64 v152, .top, .top, .top, .flt .f32 s.1, .top, .top, .top, .top, .top, .top, .top, .top, .top, .top, .top, .top, .top, .top, .top, .top, .top, .top, .top, .top, .top, .top, .top, .top, .top, .top, .top, .top, .top, .top, .top, .top, .top, .top, .top, .top, .top, .top, .top, .top, .top, .top, .top, .top, .top, .top, .top, .top, .top, .top, .top, .top, .top, .top, .top, .top, .top, .top, .int .i64 v154, .int .i64 s.2, .top, .top, .top, .top, .top, .top, .top, .top, .top, .top, .top, .top, .top, .top, .top, .top, .top, .top, .top, .top, .top, .top, .top, .top, .top, .top, .top, .top, .top, .top, .top, .top, .top, .top, .top, .top, .top, .top, .top, .top, .top, .top, .top, .top, .top, .top, .top, .top, .top, .top, .top, .top, .top, .top, .top], [.row (.f32 v156) 0, .row (.f32 v157) 0])
def spec_ShiftSolve_l2_X (v12 : List Nat) (v13 : List Nat) (v151 : Nat) (v152 : Int) (v154 : Int) (v156 : List Nat) (v157 : List Nat) (x : Nat) : Out := (.normal, [.bslc (BR.root 0) (.f32 v12), .bslc (BR.root 1) (.f32 v13), .top, .top, .top, .top, .own 0 0 ((v156).length), .flt .f32 v151, .own 1 0 ((v157).length), .int .i64 v152, .top, .top, .top, .flt .f32 x, .top, .top, .top, .top, .top, .top, .top, .top, .top, .top, .top, .top, .top, .top, .top, .top, .top, .top, .top, .top, .top, .top, .top, .top, .top, .top, .top, .top, .top, .top, .top, .top, .top, .top, .top, .top, .top, .top, .top, .top, .top, .top, .top, .top, .top, .top, .top, .top, .top, .top, .top, .top, .top, .top, .top, .top, .top, .top, .top, .top, .top, .top, .top, .top, .top, .top, .top, .top, .top, .top, .top, .top, .top, .top, .top, .top, .top, .top, .top, .top, .top, .top, .top, .top, .top, .top, .top, .top, .top, .top, .top, .top, .top, .top, .top, .top, .top, .top, .top, .top, .top, .top, .top, .top, .top, .top, .top, .top, .top, .top, .top, .top, .top, .top, .top], [.row (.f32 v156) 0, .row (.f32 v157) 0])
def spec_ShiftSolve_l2_kill : List Nat := [0, 0, 1, 1, 1, 1, 0, 0, 0, 0, 1, 1, 1, 0, 1, 1, 1, 1, 1, 1, 1, 1, 1, 1, 1, 1, 1, 1, 1, 1, 1, 1, 1, 1, 1, 1, 1, 1, 1, 1, 1, 1, 1, 1, 1, 1, 1, 1, 1, 1, 1, 1, 1, 1, 1, 1, 1, 1, 1, 1, 1, 1, 1, 1, 1, 1, 1, 1, 1, 1, 1, 1, 0, 0, 1, 1, 1, 1, 1, 1, 1, 1, 1, 1, 1, 1, 1, 1, 1, 1, 1, 1, 1, 1, 1, 1, 1, 1, 1, 1, 1, 1, 1, 1, 1, 1, 1, 1, 1, 1, 1, 1, 1, 1, 1, 1, 1, 1, 1, 1, 1, 1, 1, 1, 1, 1, 1, 1, 1]
def spec_ShiftSolve_l2_nx : Exit → List Nat
  | .exit 0 => [1, 1, 1, 1, 1, 1, 1, 1, 0, 1, 1, 1, 1, 1, 1, 1, 1, 1, 1, 1, 1, 1, 1, 1, 1, 1, 1, 1, 1, 1, 1, 1, 1, 1, 1, 1, 1, 1, 1, 1, 1, 1, 1, 1, 1, 1, 1, 1, 1, 1, 1, 1, 1, 1, 1, 1, 1, 1, 1, 1, 1, 1, 1, 1, 1, 1, 1, 1, 1, 1, 1, 1, 1, 1, 1, 1, 1, 1, 1, 1, 1, 1, 1, 1, 1, 1, 1, 1, 1, 1, 1, 1, 1, 1, 1, 1, 1, 1, 1, 1, 1, 1, 1, 1, 1, 1, 1, 1, 1, 1, 1, 1, 1, 1, 1, 1, 1, 1, 1, 1, 1, 1, 1, 1, 1, 1, 1, 1, 1]
  | .exit 1 => [0, 0, 1, 1, 1, 1, 0, 0, 0, 0, 1, 1, 1, 1, 1, 1, 1, 1, 1, 1, 1, 1, 1, 1, 1, 1, 1, 1, 1, 1, 1, 1, 1, 1, 1, 1, 1, 1, 1, 1, 1, 1, 1, 1, 1, 1, 1, 1, 1, 1, 1, 1, 1, 1, 1, 1, 1, 1, 1, 1, 1, 1, 1, 1, 1, 1, 1, 1, 1, 1, 1, 1, 1, 1, 1, 1, 1, 1, 1, 1, 1, 1, 1, 1, 1, 1, 1, 1, 1, 1, 1, 1, 1, 1, 1, 1, 1, 1, 1, 1, 1, 1, 1, 1, 1, 1, 1, 1, 1, 1, 1, 1, 1, 1, 1, 1, 1, 1, 1, 1, 1, 1, 1, 1, 1, 1, 1, 1, 1]
  | .exit 2 => [0, 0, 1, 1, 1, 1, 0, 0, 0, 0, 1, 1, 1, 0, 1, 1, 1, 1, 1, 1, 1, 1, 1, 1, 1, 1, 1, 1, 1, 1, 1, 1, 1, 1, 1, 1, 1, 1, 1, 1, 1, 1, 1, 1, 1, 1, 1, 1, 1, 1, 1, 1, 1, 1, 1, 1, 1, 1, 1, 1, 1, 1, 1, 1, 1, 1, 1, 1, 1, 1, 1, 1, 1, 1, 1, 1, 1, 1, 1, 1, 1, 1, 1, 1, 1, 1, 1, 1, 1, 1, 1, 1, 1, 1, 1, 1, 1, 1, 1, 1, 1, 1, 1, 1, 1, 1, 1, 1, 1, 1, 1, 1, 1, 1, 1, 1, 1, 1, 1, 1, 1, 1, 1, 1, 1, 1, 1, 1, 1]
  | .ret => [1, 1, 1, 1, 0, 0, 1, 1, 1, 1, 1, 1, 1, 1, 1, 1, 1, 1, 1, 1, 1, 1, 1, 1, 1, 1, 1, 1, 1, 1, 1, 1, 1, 1, 1, 1, 1, 1, 1, 1, 1, 1, 1, 1, 1, 1, 1, 1, 1, 1, 1, 1, 1, 1, 1, 1, 1, 1, 1, 1, 1, 1, 1, 1, 1, 1, 1, 1, 1, 1, 1, 1, 1, 1, 1, 1, 1, 1, 1, 1, 1, 1, 1, 1, 1, 1, 1, 1, 1, 1, 1, 1, 1, 1, 1, 1, 1, 1, 1, 1, 1, 1, 1, 1, 1, 1, 1, 1, 1, 1, 1, 1, 1, 1, 1, 1, 1, 1, 1, 1, 1, 1, 1, 1, 1, 1, 1, 1, 1]
  | _ => []
noncomputable def spec_ShiftSolve_l4_T (v173 : Nat) (v174 : Int) (v175 : Nat) (v176 : Int) (v178 : List Nat) (s : Int × (List Nat)) : Tree ((Int × (List Nat)) ⊕ ((List Nat))) :=
  (.br (decide (s.1 < v176)) (
   (.grd (inb s.1 ((s.2).length)) <|
   (.grd (inb (IntKind.i64.wrap ((IntKind.i64.wrap (v174 - (1 : Int))) - s.1)) ((v178).length)) <|
   (.grd (inb s.1 ((s.2).length)) <|
   .leaf (.inl (IntKind.i64.wrap (s.1 + (1 : Int)), List.set s.2 (Int.toNat s.1) (fsub .f32 (nth s.2 (Int.toNat s.1)) (fmul .f32 v175 (nth v178 (Int.toNat (IntKind.i64.wrap ((IntKind.i64.wrap (v174 - (1 : Int))) - s.1)))))))))))
  ) (
   .leaf (.inr s.2)
  ))

noncomputable def spec_ShiftSolve_l4_g (v173 : Nat) (v174 : Int) (v175 : Nat) (v176 : Int) (v178 : List Nat) (s0 : Int × (List Nat)) : Option ((List Nat)) := whileM (fun s => (spec_ShiftSolve_l4_T v173 v174 v175 v176 v178 s).run) s0
def spec_ShiftSolve_l4_E (v12 : List Nat) (v13 : List Nat) (v173 : Nat) (v174 : Int) (v175 : Nat) (v176 : Int) (v178 : List Nat) (s : Int × (List Nat)) : Sd := ([.bslc (BR.root 0) (.f32 v12), .bslc (BR.root 1) (.f32 v13), .top, .top, .top, .top, .own 0 0 ((v178).length), .flt .f32 v173, .own 1 0 ((s.2).length), .int .i64 v174, .top, .top, .top, .top, .top, .flt .f32 v175, .top, .top, .top, .top, .top, .top, .top, .top, .top, .top, .top, .top, .top, .top, .top, .top, .top, .top, .top, .top, .top, .top, .top, .top, .top, .top, .top, .top, .top, .top, .top, .top, .top, .top, .top, .top, .top, .top, .top, .top, .top, .top, .top, .top, .top, .top, .top, .top, .top, .top, .top, .top, .top, .top, .top, .top, .top, .top, .top, .top, .top, .top, .top, .top, .top, .top, .top, .top, .top, .top, .top, .top, .top, .top, .top, .top, .top, .top, .top, .top, .top, .top, .top, .int .i64 v176, .int .i64 s.1, .top, .top, .top, .top, .top, .top, .top, .top, .top, .top, .top, .top, .top, .top, .top, .top, .top, .top, .top, .top, .top, .top, .top, .top, .top, .top, .top, .top], [.row (.f32 v178) 0, .row (.f32 s.2) 0])
def spec_ShiftSolve_l4_X (v12 : List Nat) (v13 : List Nat) (v173 : Nat) (v174 : Int) (v175 : Nat) (v176 : Int) (v178 : List Nat) (x : (List Nat)) : Out := (.normal, [.bslc (BR.root 0) (.f32 v12), .bslc (BR.root 1) (.f32 v13), .top, .top, .top, .top, .own 0 0 ((v178).length), .flt .f32 v173, .own 1 0 ((x).length), .int .i64 v174, .top, .top, .top, .top, .top, .flt .f32 v175, .top, .top, .top, .top, .top, .top, .top, .top, .top, .top, .top, .top, .top, .top, .top, .top, .top, .top, .top, .top, .top, .top, .top, .top, .top, .top, .top, .top, .top, .top, .top, .top, .top, .top, .top, .top, .top, .top, .top, .top, .top, .top, .top, .top, .top, .top, .top, .top, .top, .top, .top, .top, .top, .top, .top, .top, .top, .top, .top, .top, .top, .top, .top, .top, .top, .top, .top, .top, .top, .top, .top, .top, .top, .top, .top, .top, .top, .top, .top, .top, .top, .top, .top, .top, .top, .top, .top, .top, .top, .top, .top, .top, .top, .top, .top, .top, .top, .top, .top, .top, .top, .top, .top, .top, .top, .top, .top, .top, .top, .top, .top, .top, .top], [.row (.f32 v178) 0, .row (.f32 x) 0])
def spec_ShiftSolve_l4_kill : List Nat := [0, 0, 1, 1, 1, 1, 0, 0, 0, 0, 1, 1, 1, 1, 1, 0, 1, 1, 1, 1, 1, 1, 1, 1, 1, 1, 1, 1, 1, 1, 1, 1, 1, 1, 1, 1, 1, 1, 1, 1, 1, 1, 1, 1, 1, 1, 1, 1, 1, 1, 1, 1, 1, 1, 1, 1, 1, 1, 1, 1, 1, 1, 1, 1, 1, 1, 1, 1, 1, 1, 1, 1, 1, 1, 1, 1, 1, 1, 1, 1, 1, 1, 1, 1, 1, 1, 1, 1, 1, 1, 1, 1, 1, 1, 1, 1, 1, 1, 1, 0, 0, 1, 1, 1, 1, 1, 1, 1, 1, 1, 1, 1, 1, 1, 1, 1, 1, 1, 1, 1, 1, 1, 1, 1, 1, 1, 1, 1, 1]
def spec_ShiftSolve_l4_nx : Exit → List Nat
  | .exit 0 => [1, 1, 1, 1, 1, 1, 1, 1, 0, 1, 1, 1, 1, 1, 1, 1, 1, 1, 1, 1, 1, 1, 1, 1, 1, 1, 1, 1, 1, 1, 1, 1, 1, 1, 1, 1, 1, 1, 1, 1, 1, 1, 1, 1, 1, 1, 1, 1, 1, 1, 1, 1, 1, 1, 1, 1, 1, 1, 1, 1, 1, 1, 1, 1, 1, 1, 1, 1, 1, 1, 1, 1, 1, 1, 1, 1, 1, 1, 1, 1, 1, 1, 1, 1, 1, 1, 1, 1, 1, 1, 1, 1, 1, 1, 1, 1, 1, 1, 1, 1, 1, 1, 1, 1, 1, 1, 1, 1, 1, 1, 1, 1, 1, 1, 1, 1, 1, 1, 1, 1, 1, 1, 1, 1, 1, 1, 1, 1, 1]
  | .exit 1 => [0, 0, 1, 1, 1, 1, 0, 0, 0, 0, 1, 1, 1, 1, 1, 1, 1, 1, 1, 1, 1, 1, 1, 1, 1, 1, 1, 1, 1, 1, 1, 1, 1, 1, 1, 1, 1, 1, 1, 1, 1, 1, 1, 1, 1, 1, 1, 1, 1, 1, 1, 1, 1, 1, 1, 1, 1, 1, 1, 1, 1, 1, 1, 1, 1, 1, 1, 1, 1, 1, 1, 1, 1, 1, 1, 1, 1, 1, 1, 1, 1, 1, 1, 1, 1, 1, 1, 1, 1, 1, 1, 1, 1, 1, 1, 1, 1, 1, 1, 1, 1, 1, 1, 1, 1, 1, 1, 1, 1, 1, 1, 1, 1, 1, 1, 1, 1, 1, 1, 1, 1, 1, 1, 1, 1, 1, 1, 1, 1]
  | .exit 4 => [0, 0, 1, 1, 1, 1, 0, 0, 0, 0, 1, 1, 1, 1, 1, 0, 1, 1, 1, 1, 1, 1, 1, 1, 1, 1, 1, 1, 1, 1, 1, 1, 1, 1, 1, 1, 1, 1, 1, 1, 1, 1, 1, 1, 1, 1, 1, 1, 1, 1, 1, 1, 1, 1, 1, 1, 1, 1, 1, 1, 1, 1, 1, 1, 1, 1, 1, 1, 1, 1, 1, 1, 1, 1, 1, 1, 1, 1, 1, 1, 1, 1, 1, 1, 1, 1, 1, 1, 1, 1, 1, 1, 1, 1, 1, 1, 1, 1, 1, 1, 1, 1, 1, 1, 1, 1, 1, 1, 1, 1, 1, 1, 1, 1, 1, 1, 1, 1, 1, 1, 1, 1, 1, 1, 1, 1, 1, 1, 1]
  | .ret => [1, 1, 1, 1, 0, 0, 1, 1, 1, 1, 1, 1, 1, 1, 1, 1, 1, 1, 1, 1, 1, 1, 1, 1, 1, 1, 1, 1, 1, 1, 1, 1, 1, 1, 1, 1, 1, 1, 1, 1, 1, 1, 1, 1, 1, 1, 1, 1, 1, 1, 1, 1, 1, 1, 1, 1, 1, 1, 1, 1, 1, 1, 1, 1, 1, 1, 1, 1, 1, 1, 1, 1, 1, 1, 1, 1, 1, 1, 1, 1, 1, 1, 1, 1, 1, 1, 1, 1, 1, 1, 1, 1, 1, 1, 1, 1, 1, 1, 1, 1, 1, 1, 1, 1, 1, 1, 1, 1, 1, 1, 1, 1, 1, 1, 1, 1, 1, 1, 1, 1, 1, 1, 1, 1, 1, 1, 1, 1, 1]
  | _ => []
noncomputable def spec_ShiftSolve_l0_T (v12 : List Nat) (v13 : List Nat) (s : Nat × Int × (List Nat) × (List Nat)) : Tree ((Nat × Int × (List Nat) × (List Nat)) ⊕ ((Unit) ⊕ ((List Nat)))) :=
  (.br (decide (s.2.1 < ((v12.length : Nat) : Int))) (
   (.call (spec_l07Grow_g v12 s.2.2.1 s.1 s.2.1) fun v136 =>
   (.br (!(fgrt .f32 v136.1 (0 : Nat))) (
    .leaf (.inr (.inl ()))
   ) (
    (.need (some (spec_ShiftSolve_l2_E v12 v13 v136.1 s.2.1 (((s.2.2.2).length : Nat) : Int) v136.2.2 s.2.2.2 ((0 : Nat), (0 : Int))) = some (spec_ShiftSolve_l2_E v12 v13 v136.1 s.2.1 (((s.2.2.2).length : Nat) : Int) v136.2.2 s.2.2.2 ((0 : Nat), (0 : Int)))) <|
    (.call (spec_ShiftSolve_l2_g v12 v136.1 s.2.1 (((s.2.2.2).length : Nat) : Int) v136.2.2 s.2.2.2 ((0 : Nat), (0 : Int))) fun v158 =>
    (.grd (inb s.2.1 v13.length) <|
    (.need (some (spec_ShiftSolve_l4_E v12 v13 v136.1 s.2.1 (fdiv .f32 (fsub .f32 (nth v13 (Int.toNat s.2.1)) v158) v136.1) (((s.2.2.2).length : Nat) : Int) v136.2.2 ((0 : Int), s.2.2.2)) = some (spec_ShiftSolve_l4_E v12 v13 v136.1 s.2.1 (fdiv .f32 (fsub .f32 (nth v13 (Int.toNat s.2.1)) v158) v136.1) (((s.2.2.2).length : Nat) : Int) v136.2.2 ((0 : Int), s.2.2.2))) <|
    (.call (spec_ShiftSolve_l4_g v136.1 s.2.1 (fdiv .f32 (fsub .f32 (nth v13 (Int.toNat s.2.1)) v158) v136.1) (((s.2.2.2).length : Nat) : Int) v136.2.2 ((0 : Int), s.2.2.2)) fun v180 =>
    (.grd (fits (v180 ++ ([(fdiv .f32 (fsub .f32 (nth v13 (Int.toNat s.2.1)) v158) v136.1)] : List Nat)).length) <|
    .leaf (.inl (v136.1, IntKind.i64.wrap (s.2.1 + (1 : Int)), v136.2.2, v180 ++ ([(fdiv .f32 (fsub .f32 (nth v13 (Int.toNat s.2.1)) v158) v136.1)] : List Nat)))))))))
   )))
  ) (
   .leaf (.inr (.inr s.2.2.2))
  ))

noncomputable def spec_ShiftSolve_l0_g (v12 : List Nat) (v13 : List Nat) (s0 : Nat × Int × (List Nat) × (List Nat)) : Option ((Unit) ⊕ ((List Nat))) := whileM (fun s => (spec_ShiftSolve_l0_T v12 v13 s).run) s0
def spec_ShiftSolve_l0_E (v12 : List Nat) (v13 : List Nat) (s : Nat × Int × (List Nat) × (List Nat)) : Sd := ([.bslc (BR.root 0) (.f32 v12), .bslc (BR.root 1) (.f32 v13), .top, .top, .top, .top, .own 0 0 ((s.2.2.1).length), .flt .f32 s.1, .own 1 0 ((s.2.2.2).length), .int .i64 s.2.1, .top, .top, .top, .top, .top, .top, .top, .top, .top, .top, .top, .top, .top, .top, .top, .top, .top, .top, .top, .top, .top, .top, .top, .top, .top, .top, .top, .top, .top, .top, .top, .top, .top, .top, .top, .top, .top, .top, .top, .top, .top, .top, .top, .top, .top, .top, .top, .top, .top, .top, .top, .top, .top, .top, .top, .top, .top, .top, .top, .top, .top, .top, .top, .top, .top, .top, .top, .top, .top, .top, .top, .top, .top, .top, .top, .top, .top, .top, .top, .top, .top, .top, .top, .top, .top, .top, .top, .top, .top, .top, .top, .top, .top, .top, .top, .top, .top, .top, .top, .top, .top, .top, .top, .top, .top, .top, .top, .top, .top, .top, .top, .top, .top, .top, .top, .top, .top, .top, .top], [.row (.f32 s.2.2.1) 0, .row (.f32 s.2.2.2) 0])
def spec_ShiftSolve_l0_X (v12 : List Nat) (v13 : List Nat) (x : (Unit) ⊕ ((List Nat))) : Out := (match x with | .inl x => (.ret, [.top, .top, .top, .top, .nilslc, .lit false, .top, .top, .top, .top, .top, .top, .top, .top, .top, .top, .top, .top, .top, .top, .top, .top, .top, .top, .top, .top, .top, .top, .top, .top, .top, .top, .top, .top, .top, .top, .top, .top, .top, .top, .top, .top, .top, .top, .top, .top, .top, .top, .top, .top, .top, .top, .top, .top, .top, .top, .top, .top, .top, .top, .top, .top, .top, .top, .top, .top, .top, .top, .top, .top, .top, .top, .top, .top, .top, .top, .top, .top, .top, .top, .top, .top, .top, .top, .top, .top, .top, .top, .top, .top, .top, .top, .top, .top, .top, .top, .top, .top, .top, .top, .top, .top, .top, .top, .top, .top, .top, .top, .top, .top, .top, .top, .top, .top, .top, .top, .top, .top, .top, .top, .top, .top, .top, .top, .top, .top, .top, .top, .top], []) | .inr x => (.normal, [.top, .top, .top, .top, .top, .top, .top, .top, .own 0 0 ((x).length), .top, .top, .top, .top, .top, .top, .top, .top, .top, .top, .top, .top, .top, .top, .top, .top, .top, .top, .top, .top, .top, .top, .top, .top, .top, .top, .top, .top, .top, .top, .top, .top, .top, .top, .top, .top, .top, .top, .top, .top, .top, .top, .top, .top, .top, .top, .top, .top, .top, .top, .top, .top, .top, .top, .top, .top, .top, .top, .top, .top, .top, .top, .top, .top, .top, .top, .top, .top, .top, .top, .top, .top, .top, .top, .top, .top, .top, .top, .top, .top, .top, .top, .top, .top, .top, .top, .top, .top, .top, .top, .top, .top, .top, .top, .top, .top, .top, .top, .top, .top, .top, .top, .top, .top, .top, .top, .top, .top, .top, .top, .top, .top, .top, .top, .top, .top, .top, .top, .top, .top], [.row (.f32 x) 0]))
def spec_ShiftSolve_l0_kill : List Nat := [0, 0, 1, 1, 1, 1, 0, 0, 0, 0, 1, 1, 1, 1, 1, 1, 1, 1, 1, 1, 1, 1, 1, 1, 1, 1, 1, 1, 1, 1, 1, 1, 1, 1, 1, 1, 1, 1, 1, 1, 1, 1, 1, 1, 1, 1, 1, 1, 1, 1, 1, 1, 1, 1, 1, 1, 1, 1, 1, 1, 1, 1, 1, 1, 1, 1, 1, 1, 1, 1, 1, 1, 1, 1, 1, 1, 1, 1, 1, 1, 1, 1, 1, 1, 1, 1, 1, 1, 1, 1, 1, 1, 1, 1, 1, 1, 1, 1, 1, 1, 1, 1, 1, 1, 1, 1, 1, 1, 1, 1, 1, 1, 1, 1, 1, 1, 1, 1, 1, 1, 1, 1, 1, 1, 1, 1, 1, 1, 1]
def spec_ShiftSolve_l0_nx : Exit → List Nat
  | .exit 0 => [1, 1, 1, 1, 1, 1, 1, 1, 0, 1, 1, 1, 1, 1, 1, 1, 1, 1, 1, 1, 1, 1, 1, 1, 1, 1, 1, 1, 1, 1, 1, 1, 1, 1, 1, 1, 1, 1, 1, 1, 1, 1, 1, 1, 1, 1, 1, 1, 1, 1, 1, 1, 1, 1, 1, 1, 1, 1, 1, 1, 1, 1, 1, 1, 1, 1, 1, 1, 1, 1, 1, 1, 1, 1, 1, 1, 1, 1, 1, 1, 1, 1, 1, 1, 1, 1, 1, 1, 1, 1, 1, 1, 1, 1, 1, 1, 1, 1, 1, 1, 1, 1, 1, 1, 1, 1, 1, 1, 1, 1, 1, 1, 1, 1, 1, 1, 1, 1, 1, 1, 1, 1, 1, 1, 1, 1, 1, 1, 1]
  | .ret => [1, 1, 1, 1, 0, 0, 1, 1, 1, 1, 1, 1, 1, 1, 1, 1, 1, 1, 1, 1, 1, 1, 1, 1, 1, 1, 1, 1, 1, 1, 1, 1, 1, 1, 1, 1, 1, 1, 1, 1, 1, 1, 1, 1, 1, 1, 1, 1, 1, 1, 1, 1, 1, 1, 1, 1, 1, 1, 1, 1, 1, 1, 1, 1, 1, 1, 1, 1, 1, 1, 1, 1, 1, 1, 1, 1, 1, 1, 1, 1, 1, 1, 1, 1, 1, 1, 1, 1, 1, 1, 1, 1, 1, 1, 1, 1, 1, 1, 1, 1, 1, 1, 1, 1, 1, 1, 1, 1, 1, 1, 1, 1, 1, 1, 1, 1, 1, 1, 1, 1, 1, 1, 1, 1, 1, 1, 1, 1, 1]
  | _ => []
noncomputable def spec_ShiftSolve_LO (v12 : List Nat) (v13 : List Nat) : LOr := fun id e L =>
  match id with
  | 2 => .need (normA 0 spec_ShiftSolve_l2_kill e L = some (spec_ShiftSolve_l2_E v12 v13 (gF (vAt e 7)) (gI (vAt e 9)) (gI (vAt e 72)) (gRF L (vAt e 6)) (gRF L (vAt e 8)) ((gF (vAt e 13)), (gI (vAt e 73))))) (.call (spec_ShiftSolve_l2_g v12 (gF (vAt e 7)) (gI (vAt e 9)) (gI (vAt e 72)) (gRF L (vAt e 6)) (gRF L (vAt e 8)) ((gF (vAt e 13)), (gI (vAt e 73)))) fun x => .leaf (spec_ShiftSolve_l2_X v12 v13 (gF (vAt e 7)) (gI (vAt e 9)) (gI (vAt e 72)) (gRF L (vAt e 6)) (gRF L (vAt e 8)) x))
  | 4 => .need (normA 0 spec_ShiftSolve_l4_kill e L = some (spec_ShiftSolve_l4_E v12 v13 (gF (vAt e 7)) (gI (vAt e 9)) (gF (vAt e 15)) (gI (vAt e 99)) (gRF L (vAt e 6)) ((gI (vAt e 100)), (gRF L (vAt e 8))))) (.call (spec_ShiftSolve_l4_g (gF (vAt e 7)) (gI (vAt e 9)) (gF (vAt e 15)) (gI (vAt e 99)) (gRF L (vAt e 6)) ((gI (vAt e 100)), (gRF L (vAt e 8)))) fun x => .leaf (spec_ShiftSolve_l4_X v12 v13 (gF (vAt e 7)) (gI (vAt e 9)) (gF (vAt e 15)) (gI (vAt e 99)) (gRF L (vAt e 6)) x))
  | 0 => .need (normA 0 spec_ShiftSolve_l0_kill e L = some (spec_ShiftSolve_l0_E v12 v13 ((gF (vAt e 7)), (gI (vAt e 9)), (gRF L (vAt e 6)), (gRF L (vAt e 8))))) (.call (spec_ShiftSolve_l0_g v12 v13 ((gF (vAt e 7)), (gI (vAt e 9)), (gRF L (vAt e 6)), (gRF L (vAt e 8)))) fun x => .sum x (fun b0 => .leaf (spec_ShiftSolve_l0_X v12 v13 (.inl b0))) (fun c0 => .leaf (spec_ShiftSolve_l0_X v12 v13 (.inr c0))))
  | _ => .fail
noncomputable def spec_ShiftSolve_tab : List (FuncId × DFn × Bool) := [(88, spec_l07Short_F, true), (89, spec_l07Grow_F, true), (90, spec_l02List_F, true)]
theorem spec_ShiftSolve_hO : OrcOk Try.prog (tabD spec_ShiftSolve_tab) (tabM spec_ShiftSolve_tab) := tabD_cons spec_l07Short_Fok (tabD_cons spec_l07Grow_Fok (tabD_cons spec_l02List_Fok (tabD_nil _)))
theorem spec_ShiftSolve_l2_be (v12 : List Nat) (v13 : List Nat) (v151 : Nat) (v152 : Int) (v154 : Int) (v156 : List Nat) (v157 : List Nat) (s : Nat × Int) : bodyT TT (tabD spec_ShiftSolve_tab) (tabM spec_ShiftSolve_tab) (spec_ShiftSolve_LO v12 v13) 0 spec_ShiftSolve_l2_kill spec_ShiftSolve_l2_nx (bodyOf Try.f32 2) 2 (spec_ShiftSolve_l2_E v12 v13 v151 v152 v154 v156 v157 s) = (spec_ShiftSolve_l2_T v12 v151 v152 v154 v156 v157 s).bind fun y => .leaf (outS (spec_ShiftSolve_l2_E v12 v13 v151 v152 v154 v156 v157) (spec_ShiftSolve_l2_X v12 v13 v151 v152 v154 v156 v157) y) := by kernel_rfl
theorem spec_ShiftSolve_l2_ok (v12 : List Nat) (v13 : List Nat) : LSound Try.prog 0 (spec_ShiftSolve_LO v12 v13) 2 (bodyOf Try.f32 2) := by
  intro e L out h
  exact lo_ok (E := spec_ShiftSolve_l2_E v12 v13 (gF (vAt e 7)) (gI (vAt e 9)) (gI (vAt e 72)) (gRF L (vAt e 6)) (gRF L (vAt e 8))) (gT := spec_ShiftSolve_l2_T v12 (gF (vAt e 7)) (gI (vAt e 9)) (gI (vAt e 72)) (gRF L (vAt e 6)) (gRF L (vAt e 8))) (X := spec_ShiftSolve_l2_X v12 v13 (gF (vAt e 7)) (gI (vAt e 9)) (gI (vAt e 72)) (gRF L (vAt e 6)) (gRF L (vAt e 8))) (s0 := ((gF (vAt e 13)), (gI (vAt e 73)))) tok spec_ShiftSolve_hO mixed (LoopsOk_eq (l := []) (by kernel_rfl) trivial) (spec_ShiftSolve_l2_be v12 v13 (gF (vAt e 7)) (gI (vAt e 9)) (gI (vAt e 72)) (gRF L (vAt e 6)) (gRF L (vAt e 8))) rfl (by intro x; rfl) h
theorem spec_ShiftSolve_l4_be (v12 : List Nat) (v13 : List Nat) (v173 : Nat) (v174 : Int) (v175 : Nat) (v176 : Int) (v178 : List Nat) (s : Int × (List Nat)) : bodyT TT (tabD spec_ShiftSolve_tab) (tabM spec_ShiftSolve_tab) (spec_ShiftSolve_LO v12 v13) 0 spec_ShiftSolve_l4_kill spec_ShiftSolve_l4_nx (bodyOf Try.f32 4) 4 (spec_ShiftSolve_l4_E v12 v13 v173 v174 v175 v176 v178 s) = (spec_ShiftSolve_l4_T v173 v174 v175 v176 v178 s).bind fun y => .leaf (outS (spec_ShiftSolve_l4_E v12 v13 v173 v174 v175 v176 v178) (spec_ShiftSolve_l4_X v12 v13 v173 v174 v175 v176 v178) y) := by kernel_rfl
theorem spec_ShiftSolve_l4_ok (v12 : List Nat) (v13 : List Nat) : LSound Try.prog 0 (spec_ShiftSolve_LO v12 v13) 4 (bodyOf Try.f32 4) := by
  intro e L out h
  exact lo_ok (E := spec_ShiftSolve_l4_E v12 v13 (gF (vAt e 7)) (gI (vAt e 9)) (gF (vAt e 15)) (gI (vAt e 99)) (gRF L (vAt e 6))) (gT := spec_ShiftSolve_l4_T (gF (vAt e 7)) (gI (vAt e 9)) (gF (vAt e 15)) (gI (vAt e 99)) (gRF L (vAt e 6))) (X := spec_ShiftSolve_l4_X v12 v13 (gF (vAt e 7)) (gI (vAt e 9)) (gF (vAt e 15)) (gI (vAt e 99)) (gRF L (vAt e 6))) (s0 := ((gI (vAt e 100)), (gRF L (vAt e 8)))) tok spec_ShiftSolve_hO mixed (LoopsOk_eq (l := []) (by kernel_rfl) trivial) (spec_ShiftSolve_l4_be v12 v13 (gF (vAt e 7)) (gI (vAt e 9)) (gF (vAt e 15)) (gI (vAt e 99)) (gRF L (vAt e 6))) rfl (by intro x; rfl) h
theorem spec_ShiftSolve_l0_be (v12 : List Nat) (v13 : List Nat) (s : Nat × Int × (List Nat) × (List Nat)) : bodyT TT (tabD spec_ShiftSolve_tab) (tabM spec_ShiftSolve_tab) (spec_ShiftSolve_LO v12 v13) 0 spec_ShiftSolve_l0_kill spec_ShiftSolve_l0_nx (bodyOf Try.f32 0) 0 (spec_ShiftSolve_l0_E v12 v13 s) = (spec_ShiftSolve_l0_T v12 v13 s).bind fun y => .leaf (outS (spec_ShiftSolve_l0_E v12 v13) (spec_ShiftSolve_l0_X v12 v13) y) := by kernel_rfl
theorem spec_ShiftSolve_l0_ok (v12 : List Nat) (v13 : List Nat) : LSound Try.prog 0 (spec_ShiftSolve_LO v12 v13) 0 (bodyOf Try.f32 0) := by
  intro e L out h
  exact lo_ok (E := spec_ShiftSolve_l0_E v12 v13) (gT := spec_ShiftSolve_l0_T v12 v13) (X := spec_ShiftSolve_l0_X v12 v13) (s0 := ((gF (vAt e 7)), (gI (vAt e 9)), (gRF L (vAt e 6)), (gRF L (vAt e 8)))) tok spec_ShiftSolve_hO mixed (LoopsOk_eq (l := [(2, bodyOf Try.f32 2), (4, bodyOf Try.f32 4)]) (by kernel_rfl) ⟨spec_ShiftSolve_l2_ok v12 v13, spec_ShiftSolve_l4_ok v12 v13, trivial⟩) (spec_ShiftSolve_l0_be v12 v13) rfl (by intro x; (cases x with | inl b => rfl | inr x => exact rfl)) h
noncomputable def spec_ShiftSolve_T (v12 : List Nat) (v13 : List Nat) : Tree ((Unit) ⊕ ((List Nat))) :=
  (.call (spec_l07Short_g v12) fun v24 =>
  (.br (!v24) (
   .leaf (.inl ())
  ) (
   (.call (spec_l07Short_g v13) fun v25 =>
   (.br (!v25) (
    .leaf (.inl ())
   ) (
    (.br (!decide (((v12.length : Nat) : Int) = ((v13.length : Nat) : Int))) (
     .leaf (.inl ())
    ) (
     (.grd (inb (0 : Int) v12.length) <|
     (.br (!(fgrt .f32 (nth v12 (Int.toNat (0 : Int))) (0 : Nat))) (
      .leaf (.inl ())
     ) (
      (.grd (inb (0 : Int) v12.length) <|
      (.grd (inb (0 : Int) v13.length) <|
      (.grd (inb (0 : Int) v12.length) <|
      (.need (some (spec_ShiftSolve_l0_E v12 v13 (nth v12 (Int.toNat (0 : Int)), (1 : Int), ([] : List Nat), ([fdiv .f32 (nth v13 (Int.toNat (0 : Int))) (nth v12 (Int.toNat (0 : Int)))] : List Nat))) = some (spec_ShiftSolve_l0_E v12 v13 (nth v12 (Int.toNat (0 : Int)), (1 : Int), ([] : List Nat), ([fdiv .f32 (nth v13 (Int.toNat (0 : Int))) (nth v12 (Int.toNat (0 : Int)))] : List Nat)))) <|
      (.call (spec_ShiftSolve_l0_g v12 v13 (nth v12 (Int.toNat (0 : Int)), (1 : Int), ([] : List Nat), ([fdiv .f32 (nth v13 (Int.toNat (0 : Int))) (nth v12 (Int.toNat (0 : Int)))] : List Nat))) fun v181 =>
      (.sum v181 (fun v182 =>
       .leaf (.inl ())
      ) (fun v183 =>
       (.call (spec_l02List_g v183) fun v186 =>
       (.sum v186 (fun v187 =>
        .leaf (.inl ())
       ) (fun v188 =>
        .leaf (.inr v183)
       )))
      )))))))
     )))
    ))
   )))
  )))

noncomputable def spec_ShiftSolve_g (v12 : List Nat) (v13 : List Nat) : Option ((Unit) ⊕ ((List Nat))) := (spec_ShiftSolve_T v12 v13).run
def spec_ShiftSolve_enc (v12 : List Nat) (v13 : List Nat) (y : (Unit) ⊕ ((List Nat))) : Rs := (match y with | .inl y => (.tup [.nilslc, .lit false], []) | .inr y => (.tup [.own 0 0 ((y).length), .lit true], [.row (.f32 y) 0]))
theorem spec_ShiftSolve_den (v12 : List Nat) (v13 : List Nat) : (den TT (tabD spec_ShiftSolve_tab) (tabM spec_ShiftSolve_tab) (spec_ShiftSolve_LO v12 v13) (codeOf Try.f32) ([.bslc (BR.root 0) (.f32 v12), .bslc (BR.root 1) (.f32 v13)] ++ List.replicate (Try.f32.ntmps - ([.bslc (BR.root 0) (.f32 v12), .bslc (BR.root 1) (.f32 v13)] : List DV).length) .undef) []).bind (retD TT Try.f32.results.toList 0) = (spec_ShiftSolve_T v12 v13).bind fun y => .leaf (spec_ShiftSolve_enc v12 v13 y) := by kernel_rfl
theorem spec_ShiftSolve_fn (v12 : List Nat) (v13 : List Nat) (F : Fr) (hm : F.ids.length = 0) (h0 : St F [] F.H0) (hA : DVs.Ok F [] [.bslc (BR.root 0) (.f32 v12), .bslc (BR.root 1) (.f32 v13)]) {y : (Unit) ⊕ ((List Nat))} (hy : spec_ShiftSolve_g v12 v13 = some y) : ∃ H', FnOk Try.prog 32 (DVs.av F [.bslc (BR.root 0) (.f32 v12), .bslc (BR.root 1) (.f32 v13)]) F.H0 ((spec_ShiftSolve_enc v12 v13 y).1.av F) H' ∧ St F (spec_ShiftSolve_enc v12 v13 y).2 H' ∧ (spec_ShiftSolve_enc v12 v13 y).1.Ok F (spec_ShiftSolve_enc v12 v13 y).2 :=
  fn_fin tok spec_ShiftSolve_hO mixed Try.func32 Try.call32 (by kernel_rfl) (LoopsOk_eq (l := [(0, bodyOf Try.f32 0)]) (by kernel_rfl) ⟨spec_ShiftSolve_l0_ok v12 v13, trivial⟩) (spec_ShiftSolve_den v12 v13) hy hm h0 hA
noncomputable def spec_ShiftSolve_F : DFn := fun args L =>
  match args with
  | [a1, a2] =>
    optT (rowF32 L a1) fun v12 =>
    optT (rowF32 L a2) fun v13 =>
    .call (spec_ShiftSolve_g v12 v13) fun y => .sum y (fun y0 => .leaf (.tup [.nilslc, .lit false], L)) (fun z0 => .leaf (.tup [.own (L.length + 0) 0 ((z0).length), .lit true], L ++ [.row (.f32 z0) 0]))
  | _ => .fail
theorem spec_ShiftSolve_Fok : COk Try.prog 32 spec_ShiftSolve_F true := by
  intro F L H args r L' hs ha hr
  unfold spec_ShiftSolve_F at hr
  split at hr
  · rename_i a1 a2
    obtain ⟨v12, hv12, hr⟩ := optT_run hr
    obtain ⟨v13, hv13, hr⟩ := optT_run hr
    simp only [Tree.run] at hr
    obtain ⟨y, hy, hr⟩ := Option.bind_eq_some_iff.1 hr
    cases y with
    | inl y =>
      simp only [Tree.run, Option.some.injEq, Prod.mk.injEq] at hr
      obtain ⟨rfl, rfl⟩ := hr
      exact call_ok0 hs (fun k => (([a1.av F, a2.av F] : List AV)[k]?).getD .top) [a1, a2] [.bslc (BR.root 0) (.f32 v12), .bslc (BR.root 1) (.f32 v13)] (fun F' h0 hi hρ => ⟨by simp [DVs.av, DV.av, BR.av, hρ], spec_ShiftSolve_fn v12 v13 F' (by rw [hi]; rfl) (st_nil hi) ⟨bslc_ok hi (by rw [h0, hρ]; exact rowF32_ok hs (DVs.okAt ha 0 rfl) hv12), bslc_ok hi (by rw [h0, hρ]; exact rowF32_ok hs (DVs.okAt ha 1 rfl) hv13), trivial⟩ hy⟩) rfl
    | inr y =>
      simp only [Tree.run, Option.some.injEq, Prod.mk.injEq] at hr
      obtain ⟨rfl, rfl⟩ := hr
      exact call_ok1 hs (fun k => (([a1.av F, a2.av F] : List AV)[k]?).getD .top) [a1, a2] [.bslc (BR.root 0) (.f32 v12), .bslc (BR.root 1) (.f32 v13)] (fun F' h0 hi hρ => ⟨by simp [DVs.av, DV.av, BR.av, hρ], spec_ShiftSolve_fn v12 v13 F' (by rw [hi]; rfl) (st_nil hi) ⟨bslc_ok hi (by rw [h0, hρ]; exact rowF32_ok hs (DVs.okAt ha 0 rfl) hv12), bslc_ok hi (by rw [h0, hρ]; exact rowF32_ok hs (DVs.okAt ha 1 rfl) hv13), trivial⟩ hy⟩) rfl rfl
  · cases hr
/-! impl.length[float32] -/
noncomputable def impl_lengthF_LO (v199 : List Nat) : LOr := fun id e L =>
  match id with
  | _ => .fail
noncomputable def impl_lengthF_tab : List (FuncId × DFn × Bool) := []
theorem impl_lengthF_hO : OrcOk Try.prog (tabD impl_lengthF_tab) (tabM impl_lengthF_tab) := tabD_nil _
noncomputable def impl_lengthF_T (v199 : List Nat) : Tree (Int) :=
  .leaf ((v199.length : Nat) : Int)

noncomputable def impl_lengthF_g (v199 : List Nat) : Option (Int) := (impl_lengthF_T v199).run
def impl_lengthF_enc (v199 : List Nat) (y : Int) : Rs := (.int .i64 y, [])
theorem impl_lengthF_den (v199 : List Nat) : (den TT (tabD impl_lengthF_tab) (tabM impl_lengthF_tab) (impl_lengthF_LO v199) (codeOf Try.f112) ([.bslc (BR.root 0) (.f32 v199)] ++ List.replicate (Try.f112.ntmps - ([.bslc (BR.root 0) (.f32 v199)] : List DV).length) .undef) []).bind (retD TT Try.f112.results.toList 0) = (impl_lengthF_T v199).bind fun y => .leaf (impl_lengthF_enc v199 y) := by kernel_rfl
theorem impl_lengthF_fn (v199 : List Nat) (F : Fr) (hm : F.ids.length = 0) (h0 : St F [] F.H0) (hA : DVs.Ok F [] [.bslc (BR.root 0) (.f32 v199)]) {y : Int} (hy : impl_lengthF_g v199 = some y) : ∃ H', FnOk Try.prog 112 (DVs.av F [.bslc (BR.root 0) (.f32 v199)]) F.H0 ((impl_lengthF_enc v199 y).1.av F) H' ∧ St F (impl_lengthF_enc v199 y).2 H' ∧ (impl_lengthF_enc v199 y).1.Ok F (impl_lengthF_enc v199 y).2 :=
  fn_fin tok impl_lengthF_hO mixed Try.func112 Try.call112 (by kernel_rfl) (LoopsOk_eq (l := []) (by kernel_rfl) trivial) (impl_lengthF_den v199) hy hm h0 hA
def impl_lengthF_v (v199 : List Nat) : Int :=
  ((v199.length : Nat) : Int)
theorem impl_lengthF_tot (v199 : List Nat) : impl_lengthF_g v199 = some (impl_lengthF_v v199) := by
  unfold impl_lengthF_g impl_lengthF_T impl_lengthF_v
  simp only [Tree.run]
  repeat' (first | rfl | split)
noncomputable def impl_lengthF_F : DFn := fun args L =>
  match args with
  | [a1] =>
    optT (rowF32 L a1) fun v199 =>
    .leaf (.int .i64 (impl_lengthF_v v199), L)
  | _ => .fail
theorem impl_lengthF_Fok : COk Try.prog 112 impl_lengthF_F true := by
  intro F L H args r L' hs ha hr
  unfold impl_lengthF_F at hr
  split at hr
  · rename_i a1
    obtain ⟨v199, hv199, hr⟩ := optT_run hr
    have hy := impl_lengthF_tot v199
    generalize impl_lengthF_v v199 = y at hy hr
    simp only [Tree.run, Option.some.injEq, Prod.mk.injEq] at hr
    obtain ⟨rfl, rfl⟩ := hr
    exact call_ok0 hs (fun k => (([a1.av F] : List AV)[k]?).getD .top) [a1] [.bslc (BR.root 0) (.f32 v199)] (fun F' h0 hi hρ => ⟨by simp [DVs.av, DV.av, BR.av, hρ], impl_lengthF_fn v199 F' (by rw [hi]; rfl) (st_nil hi) ⟨bslc_ok hi (by rw [h0, hρ]; exact rowF32_ok hs (DVs.okAt ha 0 rfl) hv199), trivial⟩ hy⟩) rfl
  · cases hr
/-! impl.inRange -/
noncomputable def impl_inRange_LO (v200 : Int) (v201 : Int) (v202 : Int) : LOr := fun id e L =>
  match id with
  | _ => .fail
noncomputable def impl_inRange_tab : List (FuncId × DFn × Bool) := []
theorem impl_inRange_hO : OrcOk Try.prog (tabD impl_inRange_tab) (tabM impl_inRange_tab) := tabD_nil _
noncomputable def impl_inRange_T (v200 : Int) (v201 : Int) (v202 : Int) : Tree (Bool) :=
  (.br (decide (v201 ≤ v200)) (
   .leaf (decide (v200 ≤ v202))
  ) (
   .leaf false
  ))

noncomputable def impl_inRange_g (v200 : Int) (v201 : Int) (v202 : Int) : Option (Bool) := (impl_inRange_T v200 v201 v202).run
def impl_inRange_enc (v200 : Int) (v201 : Int) (v202 : Int) (y : Bool) : Rs := (.bool y, [])
theorem impl_inRange_den (v200 : Int) (v201 : Int) (v202 : Int) : (den TT (tabD impl_inRange_tab) (tabM impl_inRange_tab) (impl_inRange_LO v200 v201 v202) (codeOf Try.f73) ([.int .i64 v200, .int .i64 v201, .int .i64 v202] ++ List.replicate (Try.f73.ntmps - ([.int .i64 v200, .int .i64 v201, .int .i64 v202] : List DV).length) .undef) []).bind (retD TT Try.f73.results.toList 0) = (impl_inRange_T v200 v201 v202).bind fun y => .leaf (impl_inRange_enc v200 v201 v202 y) := by kernel_rfl
theorem impl_inRange_fn (v200 : Int) (v201 : Int) (v202 : Int) (F : Fr) (hm : F.ids.length = 0) (h0 : St F [] F.H0) (hA : DVs.Ok F [] [.int .i64 v200, .int .i64 v201, .int .i64 v202]) {y : Bool} (hy : impl_inRange_g v200 v201 v202 = some y) : ∃ H', FnOk Try.prog 73 (DVs.av F [.int .i64 v200, .int .i64 v201, .int .i64 v202]) F.H0 ((impl_inRange_enc v200 v201 v202 y).1.av F) H' ∧ St F (impl_inRange_enc v200 v201 v202 y).2 H' ∧ (impl_inRange_enc v200 v201 v202 y).1.Ok F (impl_inRange_enc v200 v201 v202 y).2 :=
  fn_fin tok impl_inRange_hO mixed Try.func73 Try.call73 (by kernel_rfl) (LoopsOk_eq (l := []) (by kernel_rfl) trivial) (impl_inRange_den v200 v201 v202) hy hm h0 hA
def impl_inRange_v (v200 : Int) (v201 : Int) (v202 : Int) : Bool :=
  if (decide (v201 ≤ v200)) = true then (
   decide (v200 ≤ v202)
  ) else (
   false
  )
theorem impl_inRange_tot (v200 : Int) (v201 : Int) (v202 : Int) : impl_inRange_g v200 v201 v202 = some (impl_inRange_v v200 v201 v202) := by
  unfold impl_inRange_g impl_inRange_T impl_inRange_v
  simp only [Tree.run]
  repeat' (first | rfl | split)
noncomputable def impl_inRange_F : DFn := fun args L =>
  match args with
  | [.int .i64 v200, .int .i64 v201, .int .i64 v202] =>
    .leaf (.bool (impl_inRange_v v200 v201 v202), L)
  | _ => .fail
theorem impl_inRange_Fok : COk Try.prog 73 impl_inRange_F true := by
  intro F L H args r L' hs ha hr
  unfold impl_inRange_F at hr
  split at hr
  · rename_i v200 v201 v202
    have hy := impl_inRange_tot v200 v201 v202
    generalize impl_inRange_v v200 v201 v202 = y at hy hr
    simp only [Tree.run, Option.some.injEq, Prod.mk.injEq] at hr
    obtain ⟨rfl, rfl⟩ := hr
    exact call_ok0 hs (fun k => (([] : List AV)[k]?).getD .top) [.int .i64 v200, .int .i64 v201, .int .i64 v202] [.int .i64 v200, .int .i64 v201, .int .i64 v202] (fun F' h0 hi hρ => ⟨by simp [DVs.av, DV.av, BR.av, hρ], impl_inRange_fn v200 v201 v202 F' (by rw [hi]; rfl) (st_nil hi) ⟨trivial, trivial, trivial, trivial⟩ hy⟩) rfl
  · cases hr
/-! math.IsNaN -/
noncomputable def math_IsNaN_LO (v210 : Nat) : LOr := fun id e L =>
  match id with
  | _ => .fail
noncomputable def math_IsNaN_tab : List (FuncId × DFn × Bool) := []
theorem math_IsNaN_hO : OrcOk Try.prog (tabD math_IsNaN_tab) (tabM math_IsNaN_tab) := tabD_nil _
noncomputable def math_IsNaN_T (v210 : Nat) : Tree (Bool) :=
  .leaf (!feq .f64 v210 v210)

noncomputable def math_IsNaN_g (v210 : Nat) : Option (Bool) := (math_IsNaN_T v210).run
def math_IsNaN_enc (v210 : Nat) (y : Bool) : Rs := (.bool y, [])
theorem math_IsNaN_den (v210 : Nat) : (den TT (tabD math_IsNaN_tab) (tabM math_IsNaN_tab) (math_IsNaN_LO v210) (codeOf Try.f172) ([.flt .f64 v210] ++ List.replicate (Try.f172.ntmps - ([.flt .f64 v210] : List DV).length) .undef) []).bind (retD TT Try.f172.results.toList 0) = (math_IsNaN_T v210).bind fun y => .leaf (math_IsNaN_enc v210 y) := by kernel_rfl
theorem math_IsNaN_fn (v210 : Nat) (F : Fr) (hm : F.ids.length = 0) (h0 : St F [] F.H0) (hA : DVs.Ok F [] [.flt .f64 v210]) {y : Bool} (hy : math_IsNaN_g v210 = some y) : ∃ H', FnOk Try.prog 172 (DVs.av F [.flt .f64 v210]) F.H0 ((math_IsNaN_enc v210 y).1.av F) H' ∧ St F (math_IsNaN_enc v210 y).2 H' ∧ (math_IsNaN_enc v210 y).1.Ok F (math_IsNaN_enc v210 y).2 :=
  fn_fin tok math_IsNaN_hO mixed Try.func172 Try.call172 (by kernel_rfl) (LoopsOk_eq (l := []) (by kernel_rfl) trivial) (math_IsNaN_den v210) hy hm h0 hA
def math_IsNaN_v (v210 : Nat) : Bool :=
  !feq .f64 v210 v210
theorem math_IsNaN_tot (v210 : Nat) : math_IsNaN_g v210 = some (math_IsNaN_v v210) := by
  unfold math_IsNaN_g math_IsNaN_T math_IsNaN_v
  simp only [Tree.run]
  repeat' (first | rfl | split)
noncomputable def math_IsNaN_F : DFn := fun args L =>
  match args with
  | [.flt .f64 v210] =>
    .leaf (.bool (math_IsNaN_v v210), L)
  | _ => .fail
theorem math_IsNaN_Fok : COk Try.prog 172 math_IsNaN_F true := by
  intro F L H args r L' hs ha hr
  unfold math_IsNaN_F at hr
  split at hr
  · rename_i v210
    have hy := math_IsNaN_tot v210
    generalize math_IsNaN_v v210 = y at hy hr
    simp only [Tree.run, Option.some.injEq, Prod.mk.injEq] at hr
    obtain ⟨rfl, rfl⟩ := hr
    exact call_ok0 hs (fun k => (([] : List AV)[k]?).getD .top) [.flt .f64 v210] [.flt .f64 v210] (fun F' h0 hi hρ => ⟨by simp [DVs.av, DV.av, BR.av, hρ], math_IsNaN_fn v210 F' (by rw [hi]; rfl) (st_nil hi) ⟨trivial, trivial⟩ hy⟩) rfl
  · cases hr
/-! math.IsInf -/
noncomputable def math_IsInf_LO (v211 : Nat) (v212 : Int) : LOr := fun id e L =>
  match id with
  | _ => .fail
noncomputable def math_IsInf_tab : List (FuncId × DFn × Bool) := [(97, Abs_F, true)]
theorem math_IsInf_hO : OrcOk Try.prog (tabD math_IsInf_tab) (tabM math_IsInf_tab) := tabD_cons Abs_Fok (tabD_nil _)
noncomputable def math_IsInf_T (v211 : Nat) (v212 : Int) : Tree (Bool) :=
  (.br (decide (v212 = (0 : Int))) (
   .leaf (fgrt .f64 (fabs v211) (9218868437227405311 : Nat))
  ) (
   (.br (decide (v212 < (0 : Int))) (
    .leaf (fgrt .f64 (fneg .f64 v211) (9218868437227405311 : Nat))
   ) (
    .leaf (fgrt .f64 v211 (9218868437227405311 : Nat))
   ))
  ))

noncomputable def math_IsInf_g (v211 : Nat) (v212 : Int) : Option (Bool) := (math_IsInf_T v211 v212).run
def math_IsInf_enc (v211 : Nat) (v212 : Int) (y : Bool) : Rs := (.bool y, [])
theorem math_IsInf_den (v211 : Nat) (v212 : Int) : (den TT (tabD math_IsInf_tab) (tabM math_IsInf_tab) (math_IsInf_LO v211 v212) (codeOf Try.f173) ([.flt .f64 v211, .int .i64 v212] ++ List.replicate (Try.f173.ntmps - ([.flt .f64 v211, .int .i64 v212] : List DV).length) .undef) []).bind (retD TT Try.f173.results.toList 0) = (math_IsInf_T v211 v212).bind fun y => .leaf (math_IsInf_enc v211 v212 y) := by kernel_rfl
theorem math_IsInf_fn (v211 : Nat) (v212 : Int) (F : Fr) (hm : F.ids.length = 0) (h0 : St F [] F.H0) (hA : DVs.Ok F [] [.flt .f64 v211, .int .i64 v212]) {y : Bool} (hy : math_IsInf_g v211 v212 = some y) : ∃ H', FnOk Try.prog 173 (DVs.av F [.flt .f64 v211, .int .i64 v212]) F.H0 ((math_IsInf_enc v211 v212 y).1.av F) H' ∧ St F (math_IsInf_enc v211 v212 y).2 H' ∧ (math_IsInf_enc v211 v212 y).1.Ok F (math_IsInf_enc v211 v212 y).2 :=
  fn_fin tok math_IsInf_hO mixed Try.func173 Try.call173 (by kernel_rfl) (LoopsOk_eq (l := []) (by kernel_rfl) trivial) (math_IsInf_den v211 v212) hy hm h0 hA
def math_IsInf_v (v211 : Nat) (v212 : Int) : Bool :=
  if (decide (v212 = (0 : Int))) = true then (
   fgrt .f64 (fabs v211) (9218868437227405311 : Nat)
  ) else (
   if (decide (v212 < (0 : Int))) = true then (
    fgrt .f64 (fneg .f64 v211) (9218868437227405311 : Nat)
   ) else (
    fgrt .f64 v211 (9218868437227405311 : Nat)
   )
  )
theorem math_IsInf_tot (v211 : Nat) (v212 : Int) : math_IsInf_g v211 v212 = some (math_IsInf_v v211 v212) := by
  unfold math_IsInf_g math_IsInf_T math_IsInf_v
  simp only [Tree.run]
  repeat' (first | rfl | split)
noncomputable def math_IsInf_F : DFn := fun args L =>
  match args with
  | [.flt .f64 v211, .int .i64 v212] =>
    .leaf (.bool (math_IsInf_v v211 v212), L)
  | _ => .fail
theorem math_IsInf_Fok : COk Try.prog 173 math_IsInf_F true := by
  intro F L H args r L' hs ha hr
  unfold math_IsInf_F at hr
  split at hr
  · rename_i v211 v212
    have hy := math_IsInf_tot v211 v212
    generalize math_IsInf_v v211 v212 = y at hy hr
    simp only [Tree.run, Option.some.injEq, Prod.mk.injEq] at hr
    obtain ⟨rfl, rfl⟩ := hr
    exact call_ok0 hs (fun k => (([] : List AV)[k]?).getD .top) [.flt .f64 v211, .int .i64 v212] [.flt .f64 v211, .int .i64 v212] (fun F' h0 hi hρ => ⟨by simp [DVs.av, DV.av, BR.av, hρ], math_IsInf_fn v211 v212 F' (by rw [hi]; rfl) (st_nil hi) ⟨trivial, trivial, trivial⟩ hy⟩) rfl
  · cases hr
/-! impl.isFinite64 -/
noncomputable def impl_isFinite64_LO (v209 : Nat) : LOr := fun id e L =>
  match id with
  | _ => .fail
noncomputable def impl_isFinite64_tab : List (FuncId × DFn × Bool) := [(172, math_IsNaN_F, true), (173, math_IsInf_F, true)]
theorem impl_isFinite64_hO : OrcOk Try.prog (tabD impl_isFinite64_tab) (tabM impl_isFinite64_tab) := tabD_cons math_IsNaN_Fok (tabD_cons math_IsInf_Fok (tabD_nil _))
noncomputable def impl_isFinite64_T (v209 : Nat) : Tree (Bool) :=
  (.br (!(math_IsNaN_v v209)) (
   .leaf (!(math_IsInf_v v209 (0 : Int)))
  ) (
   .leaf false
  ))

noncomputable def impl_isFinite64_g (v209 : Nat) : Option (Bool) := (impl_isFinite64_T v209).run
def impl_isFinite64_enc (v209 : Nat) (y : Bool) : Rs := (.bool y, [])
theorem impl_isFinite64_den (v209 : Nat) : (den TT (tabD impl_isFinite64_tab) (tabM impl_isFinite64_tab) (impl_isFinite64_LO v209) (codeOf Try.f149) ([.flt .f64 v209] ++ List.replicate (Try.f149.ntmps - ([.flt .f64 v209] : List DV).length) .undef) []).bind (retD TT Try.f149.results.toList 0) = (impl_isFinite64_T v209).bind fun y => .leaf (impl_isFinite64_enc v209 y) := by kernel_rfl
theorem impl_isFinite64_fn (v209 : Nat) (F : Fr) (hm : F.ids.length = 0) (h0 : St F [] F.H0) (hA : DVs.Ok F [] [.flt .f64 v209]) {y : Bool} (hy : impl_isFinite64_g v209 = some y) : ∃ H', FnOk Try.prog 149 (DVs.av F [.flt .f64 v209]) F.H0 ((impl_isFinite64_enc v209 y).1.av F) H' ∧ St F (impl_isFinite64_enc v209 y).2 H' ∧ (impl_isFinite64_enc v209 y).1.Ok F (impl_isFinite64_enc v209 y).2 :=
  fn_fin tok impl_isFinite64_hO mixed Try.func149 Try.call149 (by kernel_rfl) (LoopsOk_eq (l := []) (by kernel_rfl) trivial) (impl_isFinite64_den v209) hy hm h0 hA
def impl_isFinite64_v (v209 : Nat) : Bool :=
  if (!(math_IsNaN_v v209)) = true then (
   !(math_IsInf_v v209 (0 : Int))
  ) else (
   false
  )
theorem impl_isFinite64_tot (v209 : Nat) : impl_isFinite64_g v209 = some (impl_isFinite64_v v209) := by
  unfold impl_isFinite64_g impl_isFinite64_T impl_isFinite64_v
  simp only [Tree.run]
  repeat' (first | rfl | split)
noncomputable def impl_isFinite64_F : DFn := fun args L =>
  match args with
  | [.flt .f64 v209] =>
    .leaf (.bool (impl_isFinite64_v v209), L)
  | _ => .fail
theorem impl_isFinite64_Fok : COk Try.prog 149 impl_isFinite64_F true := by
  intro F L H args r L' hs ha hr
  unfold impl_isFinite64_F at hr
  split at hr
  · rename_i v209
    have hy := impl_isFinite64_tot v209
    generalize impl_isFinite64_v v209 = y at hy hr
    simp only [Tree.run, Option.some.injEq, Prod.mk.injEq] at hr
    obtain ⟨rfl, rfl⟩ := hr
    exact call_ok0 hs (fun k => (([] : List AV)[k]?).getD .top) [.flt .f64 v209] [.flt .f64 v209] (fun F' h0 hi hρ => ⟨by simp [DVs.av, DV.av, BR.av, hρ], impl_isFinite64_fn v209 F' (by rw [hi]; rfl) (st_nil hi) ⟨trivial, trivial⟩ hy⟩) rfl
  · cases hr
/-! impl.IsFinite -/
noncomputable def impl_IsFinite_LO (v208 : Nat) : LOr := fun id e L =>
  match id with
  | _ => .fail
noncomputable def impl_IsFinite_tab : List (FuncId × DFn × Bool) := [(149, impl_isFinite64_F, true)]
theorem impl_IsFinite_hO : OrcOk Try.prog (tabD impl_IsFinite_tab) (tabM impl_IsFinite_tab) := tabD_cons impl_isFinite64_Fok (tabD_nil _)
noncomputable def impl_IsFinite_T (v208 : Nat) : Tree (Bool) :=
  .leaf (impl_isFinite64_v (wid v208))

noncomputable def impl_IsFinite_g (v208 : Nat) : Option (Bool) := (impl_IsFinite_T v208).run
def impl_IsFinite_enc (v208 : Nat) (y : Bool) : Rs := (.bool y, [])
theorem impl_IsFinite_den (v208 : Nat) : (den TT (tabD impl_IsFinite_tab) (tabM impl_IsFinite_tab) (impl_IsFinite_LO v208) (codeOf Try.f96) ([.flt .f32 v208] ++ List.replicate (Try.f96.ntmps - ([.flt .f32 v208] : List DV).length) .undef) []).bind (retD TT Try.f96.results.toList 0) = (impl_IsFinite_T v208).bind fun y => .leaf (impl_IsFinite_enc v208 y) := by kernel_rfl
theorem impl_IsFinite_fn (v208 : Nat) (F : Fr) (hm : F.ids.length = 0) (h0 : St F [] F.H0) (hA : DVs.Ok F [] [.flt .f32 v208]) {y : Bool} (hy : impl_IsFinite_g v208 = some y) : ∃ H', FnOk Try.prog 96 (DVs.av F [.flt .f32 v208]) F.H0 ((impl_IsFinite_enc v208 y).1.av F) H' ∧ St F (impl_IsFinite_enc v208 y).2 H' ∧ (impl_IsFinite_enc v208 y).1.Ok F (impl_IsFinite_enc v208 y).2 :=
  fn_fin tok impl_IsFinite_hO mixed Try.func96 Try.call96 (by kernel_rfl) (LoopsOk_eq (l := []) (by kernel_rfl) trivial) (impl_IsFinite_den v208) hy hm h0 hA
def impl_IsFinite_v (v208 : Nat) : Bool :=
  (impl_isFinite64_v (wid v208))
theorem impl_IsFinite_tot (v208 : Nat) : impl_IsFinite_g v208 = some (impl_IsFinite_v v208) := by
  unfold impl_IsFinite_g impl_IsFinite_T impl_IsFinite_v
  simp only [Tree.run]
  repeat' (first | rfl | split)
noncomputable def impl_IsFinite_F : DFn := fun args L =>
  match args with
  | [.flt .f32 v208] =>
    .leaf (.bool (impl_IsFinite_v v208), L)
  | _ => .fail
theorem impl_IsFinite_Fok : COk Try.prog 96 impl_IsFinite_F true := by
  intro F L H args r L' hs ha hr
  unfold impl_IsFinite_F at hr
  split at hr
  · rename_i v208
    have hy := impl_IsFinite_tot v208
    generalize impl_IsFinite_v v208 = y at hy hr
    simp only [Tree.run, Option.some.injEq, Prod.mk.injEq] at hr
    obtain ⟨rfl, rfl⟩ := hr
    exact call_ok0 hs (fun k => (([] : List AV)[k]?).getD .top) [.flt .f32 v208] [.flt .f32 v208] (fun F' h0 hi hρ => ⟨by simp [DVs.av, DV.av, BR.av, hρ], impl_IsFinite_fn v208 F' (by rw [hi]; rfl) (st_nil hi) ⟨trivial, trivial⟩ hy⟩) rfl
  · cases hr
/-! impl.areFinite$1 -/
noncomputable def impl_areFinite_1_LO (v207 : Nat) : LOr := fun id e L =>
  match id with
  | _ => .fail
noncomputable def impl_areFinite_1_tab : List (FuncId × DFn × Bool) := [(96, impl_IsFinite_F, true)]
theorem impl_areFinite_1_hO : OrcOk Try.prog (tabD impl_areFinite_1_tab) (tabM impl_areFinite_1_tab) := tabD_cons impl_IsFinite_Fok (tabD_nil _)
noncomputable def impl_areFinite_1_T (v207 : Nat) : Tree (Bool) :=
  .leaf (!(impl_IsFinite_v v207))

noncomputable def impl_areFinite_1_g (v207 : Nat) : Option (Bool) := (impl_areFinite_1_T v207).run
def impl_areFinite_1_enc (v207 : Nat) (y : Bool) : Rs := (.bool y, [])
theorem impl_areFinite_1_den (v207 : Nat) : (den TT (tabD impl_areFinite_1_tab) (tabM impl_areFinite_1_tab) (impl_areFinite_1_LO v207) (codeOf Try.f138) ([.flt .f32 v207] ++ List.replicate (Try.f138.ntmps - ([.flt .f32 v207] : List DV).length) .undef) []).bind (retD TT Try.f138.results.toList 0) = (impl_areFinite_1_T v207).bind fun y => .leaf (impl_areFinite_1_enc v207 y) := by kernel_rfl
theorem impl_areFinite_1_fn (v207 : Nat) (F : Fr) (hm : F.ids.length = 0) (h0 : St F [] F.H0) (hA : DVs.Ok F [] [.flt .f32 v207]) {y : Bool} (hy : impl_areFinite_1_g v207 = some y) : ∃ H', FnOk Try.prog 138 (DVs.av F [.flt .f32 v207]) F.H0 ((impl_areFinite_1_enc v207 y).1.av F) H' ∧ St F (impl_areFinite_1_enc v207 y).2 H' ∧ (impl_areFinite_1_enc v207 y).1.Ok F (impl_areFinite_1_enc v207 y).2 :=
  fn_fin tok impl_areFinite_1_hO mixed Try.func138 Try.call138 (by kernel_rfl) (LoopsOk_eq (l := []) (by kernel_rfl) trivial) (impl_areFinite_1_den v207) hy hm h0 hA
def impl_areFinite_1_v (v207 : Nat) : Bool :=
  !(impl_IsFinite_v v207)
theorem impl_areFinite_1_tot (v207 : Nat) : impl_areFinite_1_g v207 = some (impl_areFinite_1_v v207) := by
  unfold impl_areFinite_1_g impl_areFinite_1_T impl_areFinite_1_v
  simp only [Tree.run]
  repeat' (first | rfl | split)
noncomputable def impl_areFinite_1_F : DFn := fun args L =>
  match args with
  | [.flt .f32 v207] =>
    .leaf (.bool (impl_areFinite_1_v v207), L)
  | _ => .fail
theorem impl_areFinite_1_Fok : COk Try.prog 138 impl_areFinite_1_F true := by
  intro F L H args r L' hs ha hr
  unfold impl_areFinite_1_F at hr
  split at hr
  · rename_i v207
    have hy := impl_areFinite_1_tot v207
    generalize impl_areFinite_1_v v207 = y at hy hr
    simp only [Tree.run, Option.some.injEq, Prod.mk.injEq] at hr
    obtain ⟨rfl, rfl⟩ := hr
    exact call_ok0 hs (fun k => (([] : List AV)[k]?).getD .top) [.flt .f32 v207] [.flt .f32 v207] (fun F' h0 hi hρ => ⟨by simp [DVs.av, DV.av, BR.av, hρ], impl_areFinite_1_fn v207 F' (by rw [hi]; rfl) (st_nil hi) ⟨trivial, trivial⟩ hy⟩) rfl
  · cases hr
/-! slices.IndexFunc[list of float32,float32] -/
noncomputable def slices_IndexFuncF_l0_T (v205 : List Nat) (s : Int) : Tree ((Int) ⊕ ((Int) ⊕ (Unit))) :=
  (.br (decide (s < ((v205.length : Nat) : Int))) (
   (.grd (inb s v205.length) <|
   (.br (impl_areFinite_1_v (nth v205 (Int.toNat s))) (
    .leaf (.inr (.inl s))
   ) (
    .leaf (.inl (IntKind.i64.wrap (s + (1 : Int))))
   )))
  ) (
   .leaf (.inr (.inr ()))
  ))

noncomputable def slices_IndexFuncF_l0_g (v205 : List Nat) (s0 : Int) : Option ((Int) ⊕ (Unit)) := whileM (fun s => (slices_IndexFuncF_l0_T v205 s).run) s0
def slices_IndexFuncF_l0_E (v205 : List Nat) (s : Int) : Sd := ([.bslc (BR.root 0) (.f32 v205), .fn 138 [], .top, .top, .top, .top, .top, .int .i64 ((v205.length : Nat) : Int), .int .i64 s, .top, .top, .top, .top, .top, .top, .top, .top, .top, .top], [])
def slices_IndexFuncF_l0_X (v205 : List Nat) (x : (Int) ⊕ (Unit)) : Out := (match x with | .inl x => (.ret, [.top, .top, .top, .top, .int .i64 x, .top, .top, .top, .top, .top, .top, .top, .top, .top, .top, .top, .top, .top, .top], []) | .inr x => (.normal, [.top, .top, .top, .top, .top, .top, .top, .top, .top, .top, .top, .top, .top, .top, .top, .top, .top, .top, .top], []))
def slices_IndexFuncF_l0_kill : List Nat := [0, 0, 1, 1, 1, 1, 1, 0, 0, 1, 1, 1, 1, 1, 1, 1, 1, 1, 1]
def slices_IndexFuncF_l0_nx : Exit → List Nat
  | .exit 0 => [1, 1, 1, 1, 1, 1, 1, 1, 1, 1, 1, 1, 1, 1, 1, 1, 1, 1, 1]
  | .ret => [1, 1, 1, 1, 0, 1, 1, 1, 1, 1, 1, 1, 1, 1, 1, 1, 1, 1, 1]
  | _ => []
noncomputable def slices_IndexFuncF_LO (v205 : List Nat) : LOr := fun id e L =>
  match id with
  | 0 => .need (normA 0 slices_IndexFuncF_l0_kill e L = some (slices_IndexFuncF_l0_E v205 (gI (vAt e 8)))) (.call (slices_IndexFuncF_l0_g v205 (gI (vAt e 8))) fun x => .sum x (fun b0 => .leaf (slices_IndexFuncF_l0_X v205 (.inl b0))) (fun c0 => .leaf (slices_IndexFuncF_l0_X v205 (.inr c0))))
  | _ => .fail
noncomputable def slices_IndexFuncF_tab : List (FuncId × DFn × Bool) := [(138, impl_areFinite_1_F, true)]
theorem slices_IndexFuncF_hO : OrcOk Try.prog (tabD slices_IndexFuncF_tab) (tabM slices_IndexFuncF_tab) := tabD_cons impl_areFinite_1_Fok (tabD_nil _)
theorem slices_IndexFuncF_l0_be (v205 : List Nat) (s : Int) : bodyT TT (tabD slices_IndexFuncF_tab) (tabM slices_IndexFuncF_tab) (slices_IndexFuncF_LO v205) 0 slices_IndexFuncF_l0_kill slices_IndexFuncF_l0_nx (bodyOf Try.f168 0) 0 (slices_IndexFuncF_l0_E v205 s) = (slices_IndexFuncF_l0_T v205 s).bind fun y => .leaf (outS (slices_IndexFuncF_l0_E v205) (slices_IndexFuncF_l0_X v205) y) := by kernel_rfl
theorem slices_IndexFuncF_l0_ok (v205 : List Nat) : LSound Try.prog 0 (slices_IndexFuncF_LO v205) 0 (bodyOf Try.f168 0) := by
  intro e L out h
  exact lo_ok (E := slices_IndexFuncF_l0_E v205) (gT := slices_IndexFuncF_l0_T v205) (X := slices_IndexFuncF_l0_X v205) (s0 := (gI (vAt e 8))) tok slices_IndexFuncF_hO mixed (LoopsOk_eq (l := []) (by kernel_rfl) trivial) (slices_IndexFuncF_l0_be v205) rfl (by intro x; (cases x with | inl b => rfl | inr x => exact rfl)) h
noncomputable def slices_IndexFuncF_T (v205 : List Nat) : Tree (Int) :=
  (.need (some (slices_IndexFuncF_l0_E v205 (0 : Int)) = some (slices_IndexFuncF_l0_E v205 (0 : Int))) <|
  (.call (slices_IndexFuncF_l0_g v205 (0 : Int)) fun v215 =>
  (.sum v215 (fun v216 =>
   .leaf v216
  ) (fun v217 =>
   .leaf (-1 : Int)
  ))))

noncomputable def slices_IndexFuncF_g (v205 : List Nat) : Option (Int) := (slices_IndexFuncF_T v205).run
def slices_IndexFuncF_enc (v205 : List Nat) (y : Int) : Rs := (.int .i64 y, [])
theorem slices_IndexFuncF_den (v205 : List Nat) : (den TT (tabD slices_IndexFuncF_tab) (tabM slices_IndexFuncF_tab) (slices_IndexFuncF_LO v205) (codeOf Try.f168) ([.bslc (BR.root 0) (.f32 v205), .fn 138 []] ++ List.replicate (Try.f168.ntmps - ([.bslc (BR.root 0) (.f32 v205), .fn 138 []] : List DV).length) .undef) []).bind (retD TT Try.f168.results.toList 0) = (slices_IndexFuncF_T v205).bind fun y => .leaf (slices_IndexFuncF_enc v205 y) := by kernel_rfl
theorem slices_IndexFuncF_fn (v205 : List Nat) (F : Fr) (hm : F.ids.length = 0) (h0 : St F [] F.H0) (hA : DVs.Ok F [] [.bslc (BR.root 0) (.f32 v205), .fn 138 []]) {y : Int} (hy : slices_IndexFuncF_g v205 = some y) : ∃ H', FnOk Try.prog 168 (DVs.av F [.bslc (BR.root 0) (.f32 v205), .fn 138 []]) F.H0 ((slices_IndexFuncF_enc v205 y).1.av F) H' ∧ St F (slices_IndexFuncF_enc v205 y).2 H' ∧ (slices_IndexFuncF_enc v205 y).1.Ok F (slices_IndexFuncF_enc v205 y).2 :=
  fn_fin tok slices_IndexFuncF_hO mixed Try.func168 Try.call168 (by kernel_rfl) (LoopsOk_eq (l := [(0, bodyOf Try.f168 0)]) (by kernel_rfl) ⟨slices_IndexFuncF_l0_ok v205, trivial⟩) (slices_IndexFuncF_den v205) hy hm h0 hA
noncomputable def slices_IndexFuncF_F : DFn := fun args L =>
  match args with
  | [a1, .fn 138 []] =>
    optT (rowF32 L a1) fun v205 =>
    .call (slices_IndexFuncF_g v205) fun y => .leaf (.int .i64 y, L)
  | _ => .fail
theorem slices_IndexFuncF_Fok : COk Try.prog 168 slices_IndexFuncF_F true := by
  intro F L H args r L' hs ha hr
  unfold slices_IndexFuncF_F at hr
  split at hr
  · rename_i a1
    obtain ⟨v205, hv205, hr⟩ := optT_run hr
    simp only [Tree.run] at hr
    obtain ⟨y, hy, hr⟩ := Option.bind_eq_some_iff.1 hr
    simp only [Tree.run, Option.some.injEq, Prod.mk.injEq] at hr
    obtain ⟨rfl, rfl⟩ := hr
    exact call_ok0 hs (fun k => (([a1.av F] : List AV)[k]?).getD .top) [a1, .fn 138 []] [.bslc (BR.root 0) (.f32 v205), .fn 138 []] (fun F' h0 hi hρ => ⟨by simp [DVs.av, DV.av, BR.av, hρ], slices_IndexFuncF_fn v205 F' (by rw [hi]; rfl) (st_nil hi) ⟨bslc_ok hi (by rw [h0, hρ]; exact rowF32_ok hs (DVs.okAt ha 0 rfl) hv205), trivial, trivial⟩ hy⟩) rfl
  · cases hr
/-! slices.ContainsFunc[list of float32,float32] -/
noncomputable def slices_ContainsFuncF_LO (v204 : List Nat) : LOr := fun id e L =>
  match id with
  | _ => .fail
noncomputable def slices_ContainsFuncF_tab : List (FuncId × DFn × Bool) := [(168, slices_IndexFuncF_F, true)]
theorem slices_ContainsFuncF_hO : OrcOk Try.prog (tabD slices_ContainsFuncF_tab) (tabM slices_ContainsFuncF_tab) := tabD_cons slices_IndexFuncF_Fok (tabD_nil _)
noncomputable def slices_ContainsFuncF_T (v204 : List Nat) : Tree (Bool) :=
  (.call (slices_IndexFuncF_g v204) fun v218 =>
  .leaf (decide ((0 : Int) ≤ v218)))

noncomputable def slices_ContainsFuncF_g (v204 : List Nat) : Option (Bool) := (slices_ContainsFuncF_T v204).run
def slices_ContainsFuncF_enc (v204 : List Nat) (y : Bool) : Rs := (.bool y, [])
theorem slices_ContainsFuncF_den (v204 : List Nat) : (den TT (tabD slices_ContainsFuncF_tab) (tabM slices_ContainsFuncF_tab) (slices_ContainsFuncF_LO v204) (codeOf Try.f137) ([.bslc (BR.root 0) (.f32 v204), .fn 138 []] ++ List.replicate (Try.f137.ntmps - ([.bslc (BR.root 0) (.f32 v204), .fn 138 []] : List DV).length) .undef) []).bind (retD TT Try.f137.results.toList 0) = (slices_ContainsFuncF_T v204).bind fun y => .leaf (slices_ContainsFuncF_enc v204 y) := by kernel_rfl
theorem slices_ContainsFuncF_fn (v204 : List Nat) (F : Fr) (hm : F.ids.length = 0) (h0 : St F [] F.H0) (hA : DVs.Ok F [] [.bslc (BR.root 0) (.f32 v204), .fn 138 []]) {y : Bool} (hy : slices_ContainsFuncF_g v204 = some y) : ∃ H', FnOk Try.prog 137 (DVs.av F [.bslc (BR.root 0) (.f32 v204), .fn 138 []]) F.H0 ((slices_ContainsFuncF_enc v204 y).1.av F) H' ∧ St F (slices_ContainsFuncF_enc v204 y).2 H' ∧ (slices_ContainsFuncF_enc v204 y).1.Ok F (slices_ContainsFuncF_enc v204 y).2 :=
  fn_fin tok slices_ContainsFuncF_hO mixed Try.func137 Try.call137 (by kernel_rfl) (LoopsOk_eq (l := []) (by kernel_rfl) trivial) (slices_ContainsFuncF_den v204) hy hm h0 hA
noncomputable def slices_ContainsFuncF_F : DFn := fun args L =>
  match args with
  | [a1, .fn 138 []] =>
    optT (rowF32 L a1) fun v204 =>
    .call (slices_ContainsFuncF_g v204) fun y => .leaf (.bool y, L)
  | _ => .fail
theorem slices_ContainsFuncF_Fok : COk Try.prog 137 slices_ContainsFuncF_F true := by
  intro F L H args r L' hs ha hr
  unfold slices_ContainsFuncF_F at hr
  split at hr
  · rename_i a1
    obtain ⟨v204, hv204, hr⟩ := optT_run hr
    simp only [Tree.run] at hr
    obtain ⟨y, hy, hr⟩ := Option.bind_eq_some_iff.1 hr
    simp only [Tree.run, Option.some.injEq, Prod.mk.injEq] at hr
    obtain ⟨rfl, rfl⟩ := hr
    exact call_ok0 hs (fun k => (([a1.av F] : List AV)[k]?).getD .top) [a1, .fn 138 []] [.bslc (BR.root 0) (.f32 v204), .fn 138 []] (fun F' h0 hi hρ => ⟨by simp [DVs.av, DV.av, BR.av, hρ], slices_ContainsFuncF_fn v204 F' (by rw [hi]; rfl) (st_nil hi) ⟨bslc_ok hi (by rw [h0, hρ]; exact rowF32_ok hs (DVs.okAt ha 0 rfl) hv204), trivial, trivial⟩ hy⟩) rfl
  · cases hr
/-! impl.areFinite -/
noncomputable def impl_areFinite_LO (v203 : List Nat) : LOr := fun id e L =>
  match id with
  | _ => .fail
noncomputable def impl_areFinite_tab : List (FuncId × DFn × Bool) := [(137, slices_ContainsFuncF_F, true)]
theorem impl_areFinite_hO : OrcOk Try.prog (tabD impl_areFinite_tab) (tabM impl_areFinite_tab) := tabD_cons slices_ContainsFuncF_Fok (tabD_nil _)
noncomputable def impl_areFinite_T (v203 : List Nat) : Tree (Bool) :=
  (.call (slices_ContainsFuncF_g v203) fun v219 =>
  .leaf (!v219))

noncomputable def impl_areFinite_g (v203 : List Nat) : Option (Bool) := (impl_areFinite_T v203).run
def impl_areFinite_enc (v203 : List Nat) (y : Bool) : Rs := (.bool y, [])
theorem impl_areFinite_den (v203 : List Nat) : (den TT (tabD impl_areFinite_tab) (tabM impl_areFinite_tab) (impl_areFinite_LO v203) (codeOf Try.f68) ([.bslc (BR.root 0) (.f32 v203)] ++ List.replicate (Try.f68.ntmps - ([.bslc (BR.root 0) (.f32 v203)] : List DV).length) .undef) []).bind (retD TT Try.f68.results.toList 0) = (impl_areFinite_T v203).bind fun y => .leaf (impl_areFinite_enc v203 y) := by kernel_rfl
theorem impl_areFinite_fn (v203 : List Nat) (F : Fr) (hm : F.ids.length = 0) (h0 : St F [] F.H0) (hA : DVs.Ok F [] [.bslc (BR.root 0) (.f32 v203)]) {y : Bool} (hy : impl_areFinite_g v203 = some y) : ∃ H', FnOk Try.prog 68 (DVs.av F [.bslc (BR.root 0) (.f32 v203)]) F.H0 ((impl_areFinite_enc v203 y).1.av F) H' ∧ St F (impl_areFinite_enc v203 y).2 H' ∧ (impl_areFinite_enc v203 y).1.Ok F (impl_areFinite_enc v203 y).2 :=
  fn_fin tok impl_areFinite_hO mixed Try.func68 Try.call68 (by kernel_rfl) (LoopsOk_eq (l := []) (by kernel_rfl) trivial) (impl_areFinite_den v203) hy hm h0 hA
noncomputable def impl_areFinite_F : DFn := fun args L =>
  match args with
  | [a1] =>
    optT (rowF32 L a1) fun v203 =>
    .call (impl_areFinite_g v203) fun y => .leaf (.bool y, L)
  | _ => .fail
theorem impl_areFinite_Fok : COk Try.prog 68 impl_areFinite_F true := by
  intro F L H args r L' hs ha hr
  unfold impl_areFinite_F at hr
  split at hr
  · rename_i a1
    obtain ⟨v203, hv203, hr⟩ := optT_run hr
    simp only [Tree.run] at hr
    obtain ⟨y, hy, hr⟩ := Option.bind_eq_some_iff.1 hr
    simp only [Tree.run, Option.some.injEq, Prod.mk.injEq] at hr
    obtain ⟨rfl, rfl⟩ := hr
    exact call_ok0 hs (fun k => (([a1.av F] : List AV)[k]?).getD .top) [a1] [.bslc (BR.root 0) (.f32 v203)] (fun F' h0 hi hρ => ⟨by simp [DVs.av, DV.av, BR.av, hρ], impl_areFinite_fn v203 F' (by rw [hi]; rfl) (st_nil hi) ⟨bslc_ok hi (by rw [h0, hρ]; exact rowF32_ok hs (DVs.okAt ha 0 rfl) hv203), trivial⟩ hy⟩) rfl
  · cases hr
/-! impl.isList -/
noncomputable def impl_isList_LO (v197 : List Nat) (v198 : Int) : LOr := fun id e L =>
  match id with
  | _ => .fail
noncomputable def impl_isList_tab : List (FuncId × DFn × Bool) := [(112, impl_lengthF_F, true), (73, impl_inRange_F, true), (68, impl_areFinite_F, true)]
theorem impl_isList_hO : OrcOk Try.prog (tabD impl_isList_tab) (tabM impl_isList_tab) := tabD_cons impl_lengthF_Fok (tabD_cons impl_inRange_Fok (tabD_cons impl_areFinite_Fok (tabD_nil _)))
noncomputable def impl_isList_T (v197 : List Nat) (v198 : Int) : Tree (Bool) :=
  (.br (impl_inRange_v (impl_lengthF_v v197) (1 : Int) v198) (
   (.call (impl_areFinite_g v197) fun v220 =>
   .leaf v220)
  ) (
   .leaf false
  ))

noncomputable def impl_isList_g (v197 : List Nat) (v198 : Int) : Option (Bool) := (impl_isList_T v197 v198).run
def impl_isList_enc (v197 : List Nat) (v198 : Int) (y : Bool) : Rs := (.bool y, [])
theorem impl_isList_den (v197 : List Nat) (v198 : Int) : (den TT (tabD impl_isList_tab) (tabM impl_isList_tab) (impl_isList_LO v197 v198) (codeOf Try.f145) ([.bslc (BR.root 0) (.f32 v197), .int .i64 v198] ++ List.replicate (Try.f145.ntmps - ([.bslc (BR.root 0) (.f32 v197), .int .i64 v198] : List DV).length) .undef) []).bind (retD TT Try.f145.results.toList 0) = (impl_isList_T v197 v198).bind fun y => .leaf (impl_isList_enc v197 v198 y) := by kernel_rfl
theorem impl_isList_fn (v197 : List Nat) (v198 : Int) (F : Fr) (hm : F.ids.length = 0) (h0 : St F [] F.H0) (hA : DVs.Ok F [] [.bslc (BR.root 0) (.f32 v197), .int .i64 v198]) {y : Bool} (hy : impl_isList_g v197 v198 = some y) : ∃ H', FnOk Try.prog 145 (DVs.av F [.bslc (BR.root 0) (.f32 v197), .int .i64 v198]) F.H0 ((impl_isList_enc v197 v198 y).1.av F) H' ∧ St F (impl_isList_enc v197 v198 y).2 H' ∧ (impl_isList_enc v197 v198 y).1.Ok F (impl_isList_enc v197 v198 y).2 :=
  fn_fin tok impl_isList_hO mixed Try.func145 Try.call145 (by kernel_rfl) (LoopsOk_eq (l := []) (by kernel_rfl) trivial) (impl_isList_den v197 v198) hy hm h0 hA
noncomputable def impl_isList_F : DFn := fun args L =>
  match args with
  | [a1, .int .i64 v198] =>
    optT (rowF32 L a1) fun v197 =>
    .call (impl_isList_g v197 v198) fun y => .leaf (.bool y, L)
  | _ => .fail
theorem impl_isList_Fok : COk Try.prog 145 impl_isList_F true := by
  intro F L H args r L' hs ha hr
  unfold impl_isList_F at hr
  split at hr
  · rename_i a1 v198
    obtain ⟨v197, hv197, hr⟩ := optT_run hr
    simp only [Tree.run] at hr
    obtain ⟨y, hy, hr⟩ := Option.bind_eq_some_iff.1 hr
    simp only [Tree.run, Option.some.injEq, Prod.mk.injEq] at hr
    obtain ⟨rfl, rfl⟩ := hr
    exact call_ok0 hs (fun k => (([a1.av F] : List AV)[k]?).getD .top) [a1, .int .i64 v198] [.bslc (BR.root 0) (.f32 v197), .int .i64 v198] (fun F' h0 hi hρ => ⟨by simp [DVs.av, DV.av, BR.av, hρ], impl_isList_fn v197 v198 F' (by rw [hi]; rfl) (st_nil hi) ⟨bslc_ok hi (by rw [h0, hρ]; exact rowF32_ok hs (DVs.okAt ha 0 rfl) hv197), trivial, trivial⟩ hy⟩) rfl
  · cases hr
/-! impl.isShiftList -/
noncomputable def impl_isShiftList_LO (v196 : List Nat) : LOr := fun id e L =>
  match id with
  | _ => .fail
noncomputable def impl_isShiftList_tab : List (FuncId × DFn × Bool) := [(145, impl_isList_F, true)]
theorem impl_isShiftList_hO : OrcOk Try.prog (tabD impl_isShiftList_tab) (tabM impl_isShiftList_tab) := tabD_cons impl_isList_Fok (tabD_nil _)
noncomputable def impl_isShiftList_T (v196 : List Nat) : Tree (Bool) :=
  (.call (impl_isList_g v196 (12 : Int)) fun v221 =>
  (.br v221 (
   (.grd (inb (0 : Int) v196.length) <|
   .leaf (fgrt .f32 (nth v196 (Int.toNat (0 : Int))) (0 : Nat)))
  ) (
   .leaf false
  )))

noncomputable def impl_isShiftList_g (v196 : List Nat) : Option (Bool) := (impl_isShiftList_T v196).run
def impl_isShiftList_enc (v196 : List Nat) (y : Bool) : Rs := (.bool y, [])
theorem impl_isShiftList_den (v196 : List Nat) : (den TT (tabD impl_isShiftList_tab) (tabM impl_isShiftList_tab) (impl_isShiftList_LO v196) (codeOf Try.f91) ([.bslc (BR.root 0) (.f32 v196)] ++ List.replicate (Try.f91.ntmps - ([.bslc (BR.root 0) (.f32 v196)] : List DV).length) .undef) []).bind (retD TT Try.f91.results.toList 0) = (impl_isShiftList_T v196).bind fun y => .leaf (impl_isShiftList_enc v196 y) := by kernel_rfl
theorem impl_isShiftList_fn (v196 : List Nat) (F : Fr) (hm : F.ids.length = 0) (h0 : St F [] F.H0) (hA : DVs.Ok F [] [.bslc (BR.root 0) (.f32 v196)]) {y : Bool} (hy : impl_isShiftList_g v196 = some y) : ∃ H', FnOk Try.prog 91 (DVs.av F [.bslc (BR.root 0) (.f32 v196)]) F.H0 ((impl_isShiftList_enc v196 y).1.av F) H' ∧ St F (impl_isShiftList_enc v196 y).2 H' ∧ (impl_isShiftList_enc v196 y).1.Ok F (impl_isShiftList_enc v196 y).2 :=
  fn_fin tok impl_isShiftList_hO mixed Try.func91 Try.call91 (by kernel_rfl) (LoopsOk_eq (l := []) (by kernel_rfl) trivial) (impl_isShiftList_den v196) hy hm h0 hA
noncomputable def impl_isShiftList_F : DFn := fun args L =>
  match args with
  | [a1] =>
    optT (rowF32 L a1) fun v196 =>
    .call (impl_isShiftList_g v196) fun y => .leaf (.bool y, L)
  | _ => .fail
theorem impl_isShiftList_Fok : COk Try.prog 91 impl_isShiftList_F true := by
  intro F L H args r L' hs ha hr
  unfold impl_isShiftList_F at hr
  split at hr
  · rename_i a1
    obtain ⟨v196, hv196, hr⟩ := optT_run hr
    simp only [Tree.run] at hr
    obtain ⟨y, hy, hr⟩ := Option.bind_eq_some_iff.1 hr
    simp only [Tree.run, Option.some.injEq, Prod.mk.injEq] at hr
    obtain ⟨rfl, rfl⟩ := hr
    exact call_ok0 hs (fun k => (([a1.av F] : List AV)[k]?).getD .top) [a1] [.bslc (BR.root 0) (.f32 v196)] (fun F' h0 hi hρ => ⟨by simp [DVs.av, DV.av, BR.av, hρ], impl_isShiftList_fn v196 F' (by rw [hi]; rfl) (st_nil hi) ⟨bslc_ok hi (by rw [h0, hρ]; exact rowF32_ok hs (DVs.okAt ha 0 rfl) hv196), trivial⟩ hy⟩) rfl
  · cases hr
/-! impl.mul -/
noncomputable def impl_mul_LO (v232 : Nat) (v233 : Nat) : LOr := fun id e L =>
  match id with
  | _ => .fail
noncomputable def impl_mul_tab : List (FuncId × DFn × Bool) := []
theorem impl_mul_hO : OrcOk Try.prog (tabD impl_mul_tab) (tabM impl_mul_tab) := tabD_nil _
noncomputable def impl_mul_T (v232 : Nat) (v233 : Nat) : Tree (Nat) :=
  .leaf (fmul .f32 v232 v233)

noncomputable def impl_mul_g (v232 : Nat) (v233 : Nat) : Option (Nat) := (impl_mul_T v232 v233).run
def impl_mul_enc (v232 : Nat) (v233 : Nat) (y : Nat) : Rs := (.flt .f32 y, [])
theorem impl_mul_den (v232 : Nat) (v233 : Nat) : (den TT (tabD impl_mul_tab) (tabM impl_mul_tab) (impl_mul_LO v232 v233) (codeOf Try.f65) ([.flt .f32 v232, .flt .f32 v233] ++ List.replicate (Try.f65.ntmps - ([.flt .f32 v232, .flt .f32 v233] : List DV).length) .undef) []).bind (retD TT Try.f65.results.toList 0) = (impl_mul_T v232 v233).bind fun y => .leaf (impl_mul_enc v232 v233 y) := by kernel_rfl
theorem impl_mul_fn (v232 : Nat) (v233 : Nat) (F : Fr) (hm : F.ids.length = 0) (h0 : St F [] F.H0) (hA : DVs.Ok F [] [.flt .f32 v232, .flt .f32 v233]) {y : Nat} (hy : impl_mul_g v232 v233 = some y) : ∃ H', FnOk Try.prog 65 (DVs.av F [.flt .f32 v232, .flt .f32 v233]) F.H0 ((impl_mul_enc v232 v233 y).1.av F) H' ∧ St F (impl_mul_enc v232 v233 y).2 H' ∧ (impl_mul_enc v232 v233 y).1.Ok F (impl_mul_enc v232 v233 y).2 :=
  fn_fin tok impl_mul_hO mixed Try.func65 Try.call65 (by kernel_rfl) (LoopsOk_eq (l := []) (by kernel_rfl) trivial) (impl_mul_den v232 v233) hy hm h0 hA
def impl_mul_v (v232 : Nat) (v233 : Nat) : Nat :=
  fmul .f32 v232 v233
theorem impl_mul_tot (v232 : Nat) (v233 : Nat) : impl_mul_g v232 v233 = some (impl_mul_v v232 v233) := by
  unfold impl_mul_g impl_mul_T impl_mul_v
  simp only [Tree.run]
  repeat' (first | rfl | split)
noncomputable def impl_mul_F : DFn := fun args L =>
  match args with
  | [.flt .f32 v232, .flt .f32 v233] =>
    .leaf (.flt .f32 (impl_mul_v v232 v233), L)
  | _ => .fail
theorem impl_mul_Fok : COk Try.prog 65 impl_mul_F true := by
  intro F L H args r L' hs ha hr
  unfold impl_mul_F at hr
  split at hr
  · rename_i v232 v233
    have hy := impl_mul_tot v232 v233
    generalize impl_mul_v v232 v233 = y at hy hr
    simp only [Tree.run, Option.some.injEq, Prod.mk.injEq] at hr
    obtain ⟨rfl, rfl⟩ := hr
    exact call_ok0 hs (fun k => (([] : List AV)[k]?).getD .top) [.flt .f32 v232, .flt .f32 v233] [.flt .f32 v232, .flt .f32 v233] (fun F' h0 hi hρ => ⟨by simp [DVs.av, DV.av, BR.av, hρ], impl_mul_fn v232 v233 F' (by rw [hi]; rfl) (st_nil hi) ⟨trivial, trivial, trivial⟩ hy⟩) rfl
  · cases hr
/-! slices.Clone[list of float32,float32] -/
noncomputable def slices_CloneF_LO (v239 : List Nat) : LOr := fun id e L =>
  match id with
  | _ => .fail
noncomputable def slices_CloneF_tab : List (FuncId × DFn × Bool) := []
theorem slices_CloneF_hO : OrcOk Try.prog (tabD slices_CloneF_tab) (tabM slices_CloneF_tab) := tabD_nil _
noncomputable def slices_CloneF_T (v239 : List Nat) : Tree (Unit) :=
  (.grd (decide (0 < v239.length)) <|
  (.grd (fits (([] : List Nat) ++ v239).length) <|
  .leaf ()))

noncomputable def slices_CloneF_g (v239 : List Nat) : Option (Unit) := (slices_CloneF_T v239).run
def slices_CloneF_enc (v239 : List Nat) (y : Unit) : Rs := (.own 0 0 ((([] : List Nat) ++ v239).length), [.row (.f32 (([] : List Nat) ++ v239)) 0])
theorem slices_CloneF_den (v239 : List Nat) : (den TT (tabD slices_CloneF_tab) (tabM slices_CloneF_tab) (slices_CloneF_LO v239) (codeOf Try.f105) ([.bslc (BR.root 0) (.f32 v239)] ++ List.replicate (Try.f105.ntmps - ([.bslc (BR.root 0) (.f32 v239)] : List DV).length) .undef) []).bind (retD TT Try.f105.results.toList 0) = (slices_CloneF_T v239).bind fun y => .leaf (slices_CloneF_enc v239 y) := by kernel_rfl
theorem slices_CloneF_fn (v239 : List Nat) (F : Fr) (hm : F.ids.length = 0) (h0 : St F [] F.H0) (hA : DVs.Ok F [] [.bslc (BR.root 0) (.f32 v239)]) {y : Unit} (hy : slices_CloneF_g v239 = some y) : ∃ H', FnOk Try.prog 105 (DVs.av F [.bslc (BR.root 0) (.f32 v239)]) F.H0 ((slices_CloneF_enc v239 y).1.av F) H' ∧ St F (slices_CloneF_enc v239 y).2 H' ∧ (slices_CloneF_enc v239 y).1.Ok F (slices_CloneF_enc v239 y).2 :=
  fn_fin tok slices_CloneF_hO mixed Try.func105 Try.call105 (by kernel_rfl) (LoopsOk_eq (l := []) (by kernel_rfl) trivial) (slices_CloneF_den v239) hy hm h0 hA
noncomputable def slices_CloneF_F : DFn := fun args L =>
  match args with
  | [a1] =>
    optT (rowF32 L a1) fun v239 =>
    .call (slices_CloneF_g v239) fun y => .leaf (.own (L.length + 0) 0 ((([] : List Nat) ++ v239).length), L ++ [.row (.f32 (([] : List Nat) ++ v239)) 0])
  | _ => .fail
theorem slices_CloneF_Fok : COk Try.prog 105 slices_CloneF_F true := by
  intro F L H args r L' hs ha hr
  unfold slices_CloneF_F at hr
  split at hr
  · rename_i a1
    obtain ⟨v239, hv239, hr⟩ := optT_run hr
    simp only [Tree.run] at hr
    obtain ⟨y, hy, hr⟩ := Option.bind_eq_some_iff.1 hr
    simp only [Tree.run, Option.some.injEq, Prod.mk.injEq] at hr
    obtain ⟨rfl, rfl⟩ := hr
    exact call_ok1 hs (fun k => (([a1.av F] : List AV)[k]?).getD .top) [a1] [.bslc (BR.root 0) (.f32 v239)] (fun F' h0 hi hρ => ⟨by simp [DVs.av, DV.av, BR.av, hρ], slices_CloneF_fn v239 F' (by rw [hi]; rfl) (st_nil hi) ⟨bslc_ok hi (by rw [h0, hρ]; exact rowF32_ok hs (DVs.okAt ha 0 rfl) hv239), trivial⟩ hy⟩) rfl rfl
  · cases hr
/-! (*impl.reflections).next -/
noncomputable def impl_reflections_next_l0_T (v265 : List Nat) (v268 : List Nat) (v269 : Int) (s : Nat × Int) : Tree ((Nat × Int) ⊕ (Nat)) :=
  (.br (decide (s.2 < ((v265.length : Nat) : Int))) (
   (.grd (inb s.2 ((v265).length)) <|
   (.grd (inb (IntKind.i64.wrap ((IntKind.i64.wrap (v269 - (1 : Int))) - s.2)) v268.length) <|
   .leaf (.inl (fadd .f32 s.1 (impl_mul_v (nth v265 (Int.toNat s.2)) (nth v268 (Int.toNat (IntKind.i64.wrap ((IntKind.i64.wrap (v269 - (1 : Int))) - s.2))))), IntKind.i64.wrap (s.2 + (1 : Int))))))
  ) (
   .leaf (.inr s.1)
  ))

noncomputable def impl_reflections_next_l0_g (v265 : List Nat) (v268 : List Nat) (v269 : Int) (s0 : Nat × Int) : Option (Nat) := whileM (fun s => (impl_reflections_next_l0_T v265 v268 v269 s).run) s0
def impl_reflections_next_l0_E (v265 : List Nat) (v266 : List Nat) (v267 : Nat) (v268 : List Nat) (v269 : Int) (s : Nat × Int) : Sd := ([.ptr 0 (0 : Nat) 0 (3 : Nat), .bslc (BR.root 3) (.f32 v268), .int .i64 v269, .top, .top, .top, .top, .flt .f32 s.1, .top, .top, .top, .top, .top, .top, .top, .top, .own 1 0 ((v265).length), .int .i64 ((v265.length : Nat) : Int), .int .i64 s.2, .top, .top, .top, .top, .top, .top, .top, .top, .top, .top, .top, .top, .top, .top, .top, .top, .top, .top, .top, .top, .top, .top, .top, .top, .top, .top, .top, .top, .top, .top, .top, .top, .top, .top, .top, .top, .top, .top, .top, .top, .top, .top, .top, .top, .top, .top, .top, .top, .top, .top, .top, .top, .top, .top, .top, .top, .top, .top, .top, .top, .top, .top, .top, .top, .top, .top, .top, .top, .top, .top, .top, .top, .top, .top, .top, .top, .top, .top, .top, .top, .top, .top, .top, .top, .top, .top, .top, .top, .top, .top, .top, .top, .top, .top, .top, .top], [.gen [.own 1 0 ((v265).length), .own 2 0 ((v266).length), .flt .f32 v267] false 0, .row (.f32 v265) 0, .row (.f32 v266) 0])
def impl_reflections_next_l0_X (v265 : List Nat) (v266 : List Nat) (v267 : Nat) (v268 : List Nat) (v269 : Int) (x : Nat) : Out := (.normal, [.ptr 0 (0 : Nat) 0 (3 : Nat), .bslc (BR.root 3) (.f32 v268), .int .i64 v269, .top, .top, .top, .top, .flt .f32 x, .top, .top, .top, .top, .top, .top, .top, .top, .top, .top, .top, .top, .top, .top, .top, .top, .top, .top, .top, .top, .top, .top, .top, .top, .top, .top, .top, .top, .top, .top, .top, .top, .top, .top, .top, .top, .top, .top, .top, .top, .top, .top, .top, .top, .top, .top, .top, .top, .top, .top, .top, .top, .top, .top, .top, .top, .top, .top, .top, .top, .top, .top, .top, .top, .top, .top, .top, .top, .top, .top, .top, .top, .top, .top, .top, .top, .top, .top, .top, .top, .top, .top, .top, .top, .top, .top, .top, .top, .top, .top, .top, .top, .top, .top, .top, .top, .top, .top, .top, .top, .top, .top, .top, .top, .top, .top, .top], [.gen [.own 1 0 ((v265).length), .own 2 0 ((v266).length), .flt .f32 v267] false 0, .row (.f32 v265) 0, .row (.f32 v266) 0])
def impl_reflections_next_l0_kill : List Nat := [0, 0, 0, 1, 1, 1, 1, 0, 1, 1, 1, 1, 1, 1, 1, 1, 0, 0, 0, 1, 1, 1, 1, 1, 1, 1, 1, 1, 1, 1, 1, 1, 1, 1, 1, 1, 1, 1, 1, 1, 1, 1, 1, 1, 1, 1, 1, 1, 1, 1, 1, 1, 1, 1, 1, 1, 1, 1, 1, 1, 1, 1, 1, 1, 1, 1, 1, 1, 1, 1, 1, 1, 1, 1, 1, 1, 1, 1, 1, 1, 1, 1, 1, 1, 1, 1, 1, 1, 1, 1, 1, 1, 1, 1, 1, 1, 1, 1, 1, 1, 1, 1, 1, 1, 1, 1, 1, 1, 1, 1, 1, 1, 1, 1, 1]
def impl_reflections_next_l0_nx : Exit → List Nat
  | .exit 0 => [0, 0, 0, 1, 1, 1, 1, 0, 1, 1, 1, 1, 1, 1, 1, 1, 1, 1, 1, 1, 1, 1, 1, 1, 1, 1, 1, 1, 1, 1, 1, 1, 1, 1, 1, 1, 1, 1, 1, 1, 1, 1, 1, 1, 1, 1, 1, 1, 1, 1, 1, 1, 1, 1, 1, 1, 1, 1, 1, 1, 1, 1, 1, 1, 1, 1, 1, 1, 1, 1, 1, 1, 1, 1, 1, 1, 1, 1, 1, 1, 1, 1, 1, 1, 1, 1, 1, 1, 1, 1, 1, 1, 1, 1, 1, 1, 1, 1, 1, 1, 1, 1, 1, 1, 1, 1, 1, 1, 1, 1, 1, 1, 1, 1, 1]
  | .ret => [1, 1, 1, 1, 1, 1, 0, 1, 1, 1, 1, 1, 1, 1, 1, 1, 1, 1, 1, 1, 1, 1, 1, 1, 1, 1, 1, 1, 1, 1, 1, 1, 1, 1, 1, 1, 1, 1, 1, 1, 1, 1, 1, 1, 1, 1, 1, 1, 1, 1, 1, 1, 1, 1, 1, 1, 1, 1, 1, 1, 1, 1, 1, 1, 1, 1, 1, 1, 1, 1, 1, 1, 1, 1, 1, 1, 1, 1, 1, 1, 1, 1, 1, 1, 1, 1, 1, 1, 1, 1, 1, 1, 1, 1, 1, 1, 1, 1, 1, 1, 1, 1, 1, 1, 1, 1, 1, 1, 1, 1, 1, 1, 1, 1, 1]
  | _ => []
noncomputable def impl_reflections_next_l2_T (v265 : List Nat) (v269 : Int) (v283 : Nat) (s : Int × (List Nat)) : Tree ((Int × (List Nat)) ⊕ ((List Nat))) :=
  (.br (decide (s.1 < (((v265).length : Nat) : Int))) (
   (.grd (inb s.1 ((s.2).length)) <|
   (.grd (inb (IntKind.i64.wrap ((IntKind.i64.wrap (v269 - (2 : Int))) - s.1)) ((([] : List Nat) ++ v265).length)) <|
   (.grd (inb s.1 ((s.2).length)) <|
   .leaf (.inl (IntKind.i64.wrap (s.1 + (1 : Int)), List.set s.2 (Int.toNat s.1) (fsub .f32 (nth s.2 (Int.toNat s.1)) (impl_mul_v v283 (nth (([] : List Nat) ++ v265) (Int.toNat (IntKind.i64.wrap ((IntKind.i64.wrap (v269 - (2 : Int))) - s.1)))))))))))
  ) (
   .leaf (.inr s.2)
  ))

noncomputable def impl_reflections_next_l2_g (v265 : List Nat) (v269 : Int) (v283 : Nat) (s0 : Int × (List Nat)) : Option ((List Nat)) := whileM (fun s => (impl_reflections_next_l2_T v265 v269 v283 s).run) s0
def impl_reflections_next_l2_E (v265 : List Nat) (v266 : List Nat) (v267 : Nat) (v268 : List Nat) (v269 : Int) (v283 : Nat) (s : Int × (List Nat)) : Sd := ([.ptr 0 (0 : Nat) 0 (3 : Nat), .top, .int .i64 v269, .top, .top, .top, .top, .top, .top, .top, .flt .f32 v283, .own 3 0 ((([] : List Nat) ++ v265).length), .top, .top, .top, .top, .top, .top, .top, .top, .top, .top, .top, .top, .top, .top, .top, .top, .top, .top, .top, .top, .top, .top, .top, .top, .top, .top, .top, .top, .top, .top, .top, .top, .top, .top, .top, .top, .top, .top, .top, .top, .top, .top, .top, .int .i64 (((v265).length : Nat) : Int), .int .i64 s.1, .top, .top, .top, .top, .top, .top, .top, .top, .top, .top, .top, .top, .top, .top, .top, .top, .top, .top, .top, .top, .top, .top, .top, .top, .top, .top, .top, .top, .top, .top, .top, .top, .top, .top, .top, .top, .top, .top, .top, .top, .top, .top, .top, .top, .top, .top, .top, .top, .top, .top, .top, .top, .top, .top, .top, .top, .top, .top], [.gen [.own 1 0 ((s.2).length), .own 2 0 ((v266).length), .flt .f32 v267] false 0, .row (.f32 s.2) 0, .row (.f32 v266) 0, .row (.f32 (([] : List Nat) ++ v265)) 0])
def impl_reflections_next_l2_X (v265 : List Nat) (v266 : List Nat) (v267 : Nat) (v268 : List Nat) (v269 : Int) (v283 : Nat) (x : (List Nat)) : Out := (.normal, [.ptr 0 (0 : Nat) 0 (3 : Nat), .top, .top, .top, .top, .top, .top, .top, .top, .top, .flt .f32 v283, .top, .top, .top, .top, .top, .top, .top, .top, .top, .top, .top, .top, .top, .top, .top, .top, .top, .top, .top, .top, .top, .top, .top, .top, .top, .top, .top, .top, .top, .top, .top, .top, .top, .top, .top, .top, .top, .top, .top, .top, .top, .top, .top, .top, .top, .top, .top, .top, .top, .top, .top, .top, .top, .top, .top, .top, .top, .top, .top, .top, .top, .top, .top, .top, .top, .top, .top, .top, .top, .top, .top, .top, .top, .top, .top, .top, .top, .top, .top, .top, .top, .top, .top, .top, .top, .top, .top, .top, .top, .top, .top, .top, .top, .top, .top, .top, .top, .top, .top, .top, .top, .top, .top, .top], [.gen [.own 1 0 ((x).length), .own 2 0 ((v266).length), .flt .f32 v267] false 0, .row (.f32 x) 0, .row (.f32 v266) 0])
def impl_reflections_next_l2_kill : List Nat := [0, 1, 0, 1, 1, 1, 1, 1, 1, 1, 0, 0, 1, 1, 1, 1, 1, 1, 1, 1, 1, 1, 1, 1, 1, 1, 1, 1, 1, 1, 1, 1, 1, 1, 1, 1, 1, 1, 1, 1, 1, 1, 1, 1, 1, 1, 1, 1, 1, 1, 1, 1, 1, 1, 1, 0, 0, 1, 1, 1, 1, 1, 1, 1, 1, 1, 1, 1, 1, 1, 1, 1, 1, 1, 1, 1, 1, 1, 1, 1, 1, 1, 1, 1, 1, 1, 1, 1, 1, 1, 1, 1, 1, 1, 1, 1, 1, 1, 1, 1, 1, 1, 1, 1, 1, 1, 1, 1, 1, 1, 1, 1, 1, 1, 1]
def impl_reflections_next_l2_nx : Exit → List Nat
  | .exit 2 => [0, 1, 1, 1, 1, 1, 1, 1, 1, 1, 0, 1, 1, 1, 1, 1, 1, 1, 1, 1, 1, 1, 1, 1, 1, 1, 1, 1, 1, 1, 1, 1, 1, 1, 1, 1, 1, 1, 1, 1, 1, 1, 1, 1, 1, 1, 1, 1, 1, 1, 1, 1, 1, 1, 1, 1, 1, 1, 1, 1, 1, 1, 1, 1, 1, 1, 1, 1, 1, 1, 1, 1, 1, 1, 1, 1, 1, 1, 1, 1, 1, 1, 1, 1, 1, 1, 1, 1, 1, 1, 1, 1, 1, 1, 1, 1, 1, 1, 1, 1, 1, 1, 1, 1, 1, 1, 1, 1, 1, 1, 1, 1, 1, 1, 1]
  | .ret => [1, 1, 1, 1, 1, 1, 0, 1, 1, 1, 1, 1, 1, 1, 1, 1, 1, 1, 1, 1, 1, 1, 1, 1, 1, 1, 1, 1, 1, 1, 1, 1, 1, 1, 1, 1, 1, 1, 1, 1, 1, 1, 1, 1, 1, 1, 1, 1, 1, 1, 1, 1, 1, 1, 1, 1, 1, 1, 1, 1, 1, 1, 1, 1, 1, 1, 1, 1, 1, 1, 1, 1, 1, 1, 1, 1, 1, 1, 1, 1, 1, 1, 1, 1, 1, 1, 1, 1, 1, 1, 1, 1, 1, 1, 1, 1, 1, 1, 1, 1, 1, 1, 1, 1, 1, 1, 1, 1, 1, 1, 1, 1, 1, 1, 1]
  | _ => []
noncomputable def impl_reflections_next_LO (v265 : List Nat) (v266 : List Nat) (v267 : Nat) (v268 : List Nat) (v269 : Int) : LOr := fun id e L =>
  match id with
  | 0 => .need (normA 3 impl_reflections_next_l0_kill e L = some (impl_reflections_next_l0_E v265 v266 v267 v268 v269 ((gF (vAt e 7)), (gI (vAt e 18))))) (.call (impl_reflections_next_l0_g v265 v268 v269 ((gF (vAt e 7)), (gI (vAt e 18)))) fun x => .leaf (impl_reflections_next_l0_X v265 v266 v267 v268 v269 x))
  | 2 => .need (normA 3 impl_reflections_next_l2_kill e L = some (impl_reflections_next_l2_E v265 v266 v267 v268 v269 (gF (vAt e 10)) ((gI (vAt e 56)), (gRF L (cAt L (vAt e 0) 0))))) (.call (impl_reflections_next_l2_g v265 v269 (gF (vAt e 10)) ((gI (vAt e 56)), (gRF L (cAt L (vAt e 0) 0)))) fun x => .leaf (impl_reflections_next_l2_X v265 v266 v267 v268 v269 (gF (vAt e 10)) x))
  | _ => .fail
noncomputable def impl_reflections_next_tab : List (FuncId × DFn × Bool) := [(65, impl_mul_F, true), (105, slices_CloneF_F, true)]
theorem impl_reflections_next_hO : OrcOk Try.prog (tabD impl_reflections_next_tab) (tabM impl_reflections_next_tab) := tabD_cons impl_mul_Fok (tabD_cons slices_CloneF_Fok (tabD_nil _))
theorem impl_reflections_next_l0_be (v265 : List Nat) (v266 : List Nat) (v267 : Nat) (v268 : List Nat) (v269 : Int) (s : Nat × Int) : bodyT TT (tabD impl_reflections_next_tab) (tabM impl_reflections_next_tab) (impl_reflections_next_LO v265 v266 v267 v268 v269) 3 impl_reflections_next_l0_kill impl_reflections_next_l0_nx (bodyOf Try.f92 0) 0 (impl_reflections_next_l0_E v265 v266 v267 v268 v269 s) = (impl_reflections_next_l0_T v265 v268 v269 s).bind fun y => .leaf (outS (impl_reflections_next_l0_E v265 v266 v267 v268 v269) (impl_reflections_next_l0_X v265 v266 v267 v268 v269) y) := by kernel_rfl
theorem impl_reflections_next_l0_ok (v265 : List Nat) (v266 : List Nat) (v267 : Nat) (v268 : List Nat) (v269 : Int) : LSound Try.prog 3 (impl_reflections_next_LO v265 v266 v267 v268 v269) 0 (bodyOf Try.f92 0) := by
  intro e L out h
  exact lo_ok (E := impl_reflections_next_l0_E v265 v266 v267 v268 v269) (gT := impl_reflections_next_l0_T v265 v268 v269) (X := impl_reflections_next_l0_X v265 v266 v267 v268 v269) (s0 := ((gF (vAt e 7)), (gI (vAt e 18)))) tok impl_reflections_next_hO mixed (LoopsOk_eq (l := []) (by kernel_rfl) trivial) (impl_reflections_next_l0_be v265 v266 v267 v268 v269) rfl (by intro x; rfl) h
theorem impl_reflections_next_l2_be (v265 : List Nat) (v266 : List Nat) (v267 : Nat) (v268 : List Nat) (v269 : Int) (v283 : Nat) (s : Int × (List Nat)) : bodyT TT (tabD impl_reflections_next_tab) (tabM impl_reflections_next_tab) (impl_reflections_next_LO v265 v266 v267 v268 v269) 3 impl_reflections_next_l2_kill impl_reflections_next_l2_nx (bodyOf Try.f92 2) 2 (impl_reflections_next_l2_E v265 v266 v267 v268 v269 v283 s) = (impl_reflections_next_l2_T v265 v269 v283 s).bind fun y => .leaf (outS (impl_reflections_next_l2_E v265 v266 v267 v268 v269 v283) (impl_reflections_next_l2_X v265 v266 v267 v268 v269 v283) y) := by kernel_rfl
theorem impl_reflections_next_l2_ok (v265 : List Nat) (v266 : List Nat) (v267 : Nat) (v268 : List Nat) (v269 : Int) : LSound Try.prog 3 (impl_reflections_next_LO v265 v266 v267 v268 v269) 2 (bodyOf Try.f92 2) := by
  intro e L out h
  exact lo_ok (E := impl_reflections_next_l2_E v265 v266 v267 v268 v269 (gF (vAt e 10))) (gT := impl_reflections_next_l2_T v265 v269 (gF (vAt e 10))) (X := impl_reflections_next_l2_X v265 v266 v267 v268 v269 (gF (vAt e 10))) (s0 := ((gI (vAt e 56)), (gRF L (cAt L (vAt e 0) 0)))) tok impl_reflections_next_hO mixed (LoopsOk_eq (l := []) (by kernel_rfl) trivial) (impl_reflections_next_l2_be v265 v266 v267 v268 v269 (gF (vAt e 10))) rfl (by intro x; rfl) h
noncomputable def impl_reflections_next_T (v265 : List Nat) (v266 : List Nat) (v267 : Nat) (v268 : List Nat) (v269 : Int) : Tree (Bool × Nat × (List Nat) × (List Nat)) :=
  (.need (some (impl_reflections_next_l0_E v265 v266 v267 v268 v269 ((0 : Nat), (0 : Int))) = some (impl_reflections_next_l0_E v265 v266 v267 v268 v269 ((0 : Nat), (0 : Int)))) <|
  (.call (impl_reflections_next_l0_g v265 v268 v269 ((0 : Nat), (0 : Int))) fun v276 =>
  (.grd (inb v269 v268.length) <|
  (.call (slices_CloneF_g v265) fun v277 =>
  (.need (some (impl_reflections_next_l2_E v265 v266 v267 v268 v269 (fdiv .f32 (fsub .f32 (nth v268 (Int.toNat v269)) v276) v267) ((0 : Int), v265)) = some (impl_reflections_next_l2_E v265 v266 v267 v268 v269 (fdiv .f32 (fsub .f32 (nth v268 (Int.toNat v269)) v276) v267) ((0 : Int), v265))) <|
  (.call (impl_reflections_next_l2_g v265 v269 (fdiv .f32 (fsub .f32 (nth v268 (Int.toNat v269)) v276) v267) ((0 : Int), v265)) fun v286 =>
  (.grd (fits (v286 ++ ([(fdiv .f32 (fsub .f32 (nth v268 (Int.toNat v269)) v276) v267)] : List Nat)).length) <|
  (.grd (fits (v266 ++ ([(fdiv .f32 (fsub .f32 (nth v268 (Int.toNat v269)) v276) v267)] : List Nat)).length) <|
  .leaf (fgrt .f32 (impl_mul_v v267 (fsub .f32 (1065353216 : Nat) (impl_mul_v (fdiv .f32 (fsub .f32 (nth v268 (Int.toNat v269)) v276) v267) (fdiv .f32 (fsub .f32 (nth v268 (Int.toNat v269)) v276) v267)))) (0 : Nat), (impl_mul_v v267 (fsub .f32 (1065353216 : Nat) (impl_mul_v (fdiv .f32 (fsub .f32 (nth v268 (Int.toNat v269)) v276) v267) (fdiv .f32 (fsub .f32 (nth v268 (Int.toNat v269)) v276) v267)))), v286 ++ ([(fdiv .f32 (fsub .f32 (nth v268 (Int.toNat v269)) v276) v267)] : List Nat), v266 ++ ([(fdiv .f32 (fsub .f32 (nth v268 (Int.toNat v269)) v276) v267)] : List Nat))))))))))

noncomputable def impl_reflections_next_g (v265 : List Nat) (v266 : List Nat) (v267 : Nat) (v268 : List Nat) (v269 : Int) : Option (Bool × Nat × (List Nat) × (List Nat)) := (impl_reflections_next_T v265 v266 v267 v268 v269).run
def impl_reflections_next_enc (v265 : List Nat) (v266 : List Nat) (v267 : Nat) (v268 : List Nat) (v269 : Int) (y : Bool × Nat × (List Nat) × (List Nat)) : Rs := (.bool y.1, [.gen [.own 1 0 ((y.2.2.1).length), .own 2 0 ((y.2.2.2).length), .flt .f32 y.2.1] false 0, .row (.f32 y.2.2.1) 0, .row (.f32 y.2.2.2) 0])
theorem impl_reflections_next_den (v265 : List Nat) (v266 : List Nat) (v267 : Nat) (v268 : List Nat) (v269 : Int) : (den TT (tabD impl_reflections_next_tab) (tabM impl_reflections_next_tab) (impl_reflections_next_LO v265 v266 v267 v268 v269) (codeOf Try.f92) ([.ptr 0 (0 : Nat) 0 (3 : Nat), .bslc (BR.root 3) (.f32 v268), .int .i64 v269] ++ List.replicate (Try.f92.ntmps - ([.ptr 0 (0 : Nat) 0 (3 : Nat), .bslc (BR.root 3) (.f32 v268), .int .i64 v269] : List DV).length) .undef) [.gen [.own 1 0 v265.length, .own 2 0 v266.length, .flt .f32 v267] false 0, .row (.f32 v265) 0, .row (.f32 v266) 0]).bind (retD TT Try.f92.results.toList 3) = (impl_reflections_next_T v265 v266 v267 v268 v269).bind fun y => .leaf (impl_reflections_next_enc v265 v266 v267 v268 v269 y) := by kernel_rfl
theorem impl_reflections_next_fn (v265 : List Nat) (v266 : List Nat) (v267 : Nat) (v268 : List Nat) (v269 : Int) (F : Fr) (hm : F.ids.length = 3) (h0 : St F [.gen [.own 1 0 v265.length, .own 2 0 v266.length, .flt .f32 v267] false 0, .row (.f32 v265) 0, .row (.f32 v266) 0] F.H0) (hA : DVs.Ok F [.gen [.own 1 0 v265.length, .own 2 0 v266.length, .flt .f32 v267] false 0, .row (.f32 v265) 0, .row (.f32 v266) 0] [.ptr 0 (0 : Nat) 0 (3 : Nat), .bslc (BR.root 3) (.f32 v268), .int .i64 v269]) {y : Bool × Nat × (List Nat) × (List Nat)} (hy : impl_reflections_next_g v265 v266 v267 v268 v269 = some y) : ∃ H', FnOk Try.prog 92 (DVs.av F [.ptr 0 (0 : Nat) 0 (3 : Nat), .bslc (BR.root 3) (.f32 v268), .int .i64 v269]) F.H0 ((impl_reflections_next_enc v265 v266 v267 v268 v269 y).1.av F) H' ∧ St F (impl_reflections_next_enc v265 v266 v267 v268 v269 y).2 H' ∧ (impl_reflections_next_enc v265 v266 v267 v268 v269 y).1.Ok F (impl_reflections_next_enc v265 v266 v267 v268 v269 y).2 :=
  fn_fin tok impl_reflections_next_hO mixed Try.func92 Try.call92 (by kernel_rfl) (LoopsOk_eq (l := [(0, bodyOf Try.f92 0), (2, bodyOf Try.f92 2)]) (by kernel_rfl) ⟨impl_reflections_next_l0_ok v265 v266 v267 v268 v269, impl_reflections_next_l2_ok v265 v266 v267 v268 v269, trivial⟩) (impl_reflections_next_den v265 v266 v267 v268 v269) hy hm h0 hA
noncomputable def impl_reflections_next_F : DFn := fun args L =>
  match args with
  | [a1, a4, .int .i64 v269] =>
    optT (genOf L 3 false a1) fun qg0 =>
    (match qg0.2 with
    | [a2, a3, .flt .f32 v267] =>
    optT (ownF32 L a2) fun qv265 =>
    optT (ownF32 L a3) fun qv266 =>
    optT (rowF32 L a4) fun v268 =>
    (match sepB [qg0.1, qv265.1, qv266.1] [a4] with
    | true =>
    .call (impl_reflections_next_g qv265.2 qv266.2 v267 v268 v269) fun y => .grd (decide (qv265.2.length ≤ y.2.2.1.length)) (.grd (decide (qv266.2.length ≤ y.2.2.2.length)) (.leaf (.bool y.1, setB L [(qg0.1, .gen [.own qv265.1 (verAt L qv265.1 + 1) ((y.2.2.1).length), .own qv266.1 (verAt L qv266.1 + 1) ((y.2.2.2).length), .flt .f32 y.2.1] false (verAt L qg0.1)), (qv265.1, .row (.f32 y.2.2.1) (verAt L qv265.1 + 1)), (qv266.1, .row (.f32 y.2.2.2) (verAt L qv266.1 + 1))] ++ [])))
    | false => .fail)
    | _ => .fail)
  | _ => .fail
theorem impl_reflections_next_Fok : COk Try.prog 92 impl_reflections_next_F false := by
  intro F L H args r L' hs ha hr
  unfold impl_reflections_next_F at hr
  split at hr
  · rename_i a1 a4 v269
    obtain ⟨⟨jg0, cg0⟩, hg0, hr⟩ := optT_run hr
    simp only at hr
    split at hr
    · rename_i a2 a3 v267
      obtain ⟨hge0, hgu0, hga0, hgn0, hgc0, hgf0⟩ := genOf_spec hs (DVs.okAt ha 0 rfl) hg0
      obtain ⟨⟨jv265, v265⟩, hqv265, hr⟩ := optT_run hr
      simp only at hr
      obtain ⟨⟨jv266, v266⟩, hqv266, hr⟩ := optT_run hr
      simp only at hr
      obtain ⟨v268, hv268, hr⟩ := optT_run hr
      split at hr
      · rename_i hsep
        obtain ⟨hnd, hsepv⟩ := sepB_spec hsep
        simp only [Tree.run] at hr
        obtain ⟨y, hy, hr⟩ := Option.bind_eq_some_iff.1 hr
        try simp only [Tree.run] at hr
        obtain ⟨hl0, hr⟩ := ite_run hr
        obtain ⟨hl1, hr⟩ := ite_run hr
        simp only [Option.some.injEq, Prod.mk.injEq] at hr
        obtain ⟨rfl, rfl⟩ := hr
        obtain ⟨hr1, hu1, ha1, hb1⟩ := (ownR_spec (DVs.okAt hgc0 0 rfl) (ownF32_or hqv265))
        obtain ⟨hr2, hu2, ha2, hb2⟩ := (ownR_spec (DVs.okAt hgc0 1 rfl) (ownF32_or hqv266))
        exact mutG_ok hs [a1, a2, a3, a4] ⟨(DVs.okAt ha 0 rfl), (DVs.okAt hgc0 0 rfl), (DVs.okAt hgc0 1 rfl), (DVs.okAt ha 1 rfl), trivial⟩ [a1, a4, .int .i64 v269] [.ptr 0 (0 : Nat) 0 (3 : Nat), .bslc (BR.root 3) (.f32 v268), .int .i64 v269] [jg0, jv265, jv266] [verAt L jg0, verAt L jv265 + 1, verAt L jv266 + 1] [.gen [.own 1 0 v265.length, .own 2 0 v266.length, .flt .f32 v267] false 0, .row (.f32 v265) 0, .row (.f32 v266) 0] [.gen [.own 1 0 ((y.2.2.1).length), .own 2 0 ((y.2.2.2).length), .flt .f32 y.2.1] false 0, .row (.f32 y.2.2.1) 0, .row (.f32 y.2.2.2) 0] [.gen [.own jv265 (verAt L jv265 + 1) ((y.2.2.1).length), .own jv266 (verAt L jv266 + 1) ((y.2.2.2).length), .flt .f32 y.2.1] false (verAt L jg0), .row (.f32 y.2.2.1) (verAt L jv265 + 1), .row (.f32 y.2.2.2) (verAt L jv266 + 1)] [] hnd rfl rfl (fun j hj => by
            simp at hj
            rcases hj with rfl | rfl | rfl
            · exact ex_lt hge0
            · exact ex_lt hr1
            · exact ex_lt hr2) (fun j hj => by
            simp at hj
            rcases hj with rfl | rfl | rfl
            · exact reach_refs (by simp [DVs.refs, DV.refs, hgu0])
            · exact reach_1 (deep_mem (by simp [DVs.refs, DV.refs, hgu0]) hge0 (by simp [DVs.refs, DV.refs, hu1]))
            · exact reach_1 (deep_mem (by simp [DVs.refs, DV.refs, hgu0]) hge0 (by simp [DVs.refs, DV.refs, hu2]))) (fun F' h0 hi hρ ab hS => by
            have ab0 := ab 0 _ rfl; have ab1 := ab 1 _ rfl; have ab2 := ab 2 _ rfl;
            refine ⟨fun i j b' h1 h2 => ?_, by simp [DBlk.blk, DVs.av, DV.av, BR.av, hρ, Row.len, hga0, ab0, ha1, ab1, ha2, ab2], fun hst => impl_reflections_next_fn v265 v266 v267 v268 v269 F' (by rw [hi]; rfl) hst ⟨⟨_, rfl, Nat.le_refl _, by decide, Nat.le_refl _, fun _ => rfl⟩, bslcM hS (by rw [hρ]; rfl) (hsepv a4 (by simp)) (DVs.okAt ha 1 rfl) (rowF32_or hv268), trivial, trivial⟩ hy⟩
            rcases i with _ | _ | _ | i
            · simp at h1 h2; subst h1; subst h2; obtain ⟨ver_, hv_⟩ := hge0; exact ⟨_, hv_, by simp [DBlk.blk, DVs.av, DV.av, BR.av, hρ, Row.len, hga0, ab0, ha1, ab1, ha2, ab2], ⟨⟨⟨_, rfl, Nat.le_refl _, Nat.le_refl _, fun _ => rfl, (ownR_spec (DVs.okAt hgc0 0 rfl) (ownF32_or hqv265)).2.2.2⟩, ⟨_, rfl, Nat.le_refl _, Nat.le_refl _, fun _ => rfl, (ownR_spec (DVs.okAt hgc0 1 rfl) (ownF32_or hqv266)).2.2.2⟩, trivial, trivial⟩, fun hf => by cases hf⟩⟩
            · simp at h1 h2; subst h1; subst h2; obtain ⟨ver_, hv_⟩ := hr1; exact ⟨_, hv_, rfl, hb1⟩
            · simp at h1 h2; subst h1; subst h2; obtain ⟨ver_, hv_⟩ := hr2; exact ⟨_, hv_, rfl, hb2⟩
            · simp at h1) rfl rfl (fun i j b b' h1 h2 h3 => by
            rcases i with _ | _ | _ | i
            · simp at h1; subst h1; cases h3; exact growG hge0 rfl h2
            · simp at h1; subst h1; cases h3; exact growB hr1 (of_decide_eq_true hl0) h2
            · simp at h1; subst h1; cases h3; exact growB hr2 (of_decide_eq_true hl1) h2
            · simp at h1)
      · cases hr
    · cases hr
  · cases hr
/-! slices.Clone[list of float32,float32] -/
noncomputable def slices_CloneF_i1_LO : LOr := fun id e L =>
  match id with
  | _ => .fail
noncomputable def slices_CloneF_i1_tab : List (FuncId × DFn × Bool) := []
theorem slices_CloneF_i1_hO : OrcOk Try.prog (tabD slices_CloneF_i1_tab) (tabM slices_CloneF_i1_tab) := tabD_nil _
noncomputable def slices_CloneF_i1_T : Tree (Unit) :=
  .leaf ()

noncomputable def slices_CloneF_i1_g : Option (Unit) := (slices_CloneF_i1_T).run
def slices_CloneF_i1_enc (y : Unit) : Rs := (.nilslc, [])
theorem slices_CloneF_i1_den : (den TT (tabD slices_CloneF_i1_tab) (tabM slices_CloneF_i1_tab) (slices_CloneF_i1_LO) (codeOf Try.f105) ([.nilslc] ++ List.replicate (Try.f105.ntmps - ([.nilslc] : List DV).length) .undef) []).bind (retD TT Try.f105.results.toList 0) = (slices_CloneF_i1_T).bind fun y => .leaf (slices_CloneF_i1_enc y) := by kernel_rfl
theorem slices_CloneF_i1_fn (F : Fr) (hm : F.ids.length = 0) (h0 : St F [] F.H0) (hA : DVs.Ok F [] [.nilslc]) {y : Unit} (hy : slices_CloneF_i1_g = some y) : ∃ H', FnOk Try.prog 105 (DVs.av F [.nilslc]) F.H0 ((slices_CloneF_i1_enc y).1.av F) H' ∧ St F (slices_CloneF_i1_enc y).2 H' ∧ (slices_CloneF_i1_enc y).1.Ok F (slices_CloneF_i1_enc y).2 :=
  fn_fin tok slices_CloneF_i1_hO mixed Try.func105 Try.call105 (by kernel_rfl) (LoopsOk_eq (l := []) (by kernel_rfl) trivial) (slices_CloneF_i1_den) hy hm h0 hA
def slices_CloneF_i1_v : Unit :=
  ()
theorem slices_CloneF_i1_tot : slices_CloneF_i1_g = some (slices_CloneF_i1_v) := by
  unfold slices_CloneF_i1_g slices_CloneF_i1_T slices_CloneF_i1_v
  simp only [Tree.run]
  repeat' (first | rfl | split)
noncomputable def slices_CloneF_i1_F : DFn := fun args L =>
  match args with
  | [.nilslc] =>
    .leaf (.nilslc, L)
  | _ => .fail
theorem slices_CloneF_i1_Fok : COk Try.prog 105 slices_CloneF_i1_F true := by
  intro F L H args r L' hs ha hr
  unfold slices_CloneF_i1_F at hr
  split at hr
  · skip
    have hy := slices_CloneF_i1_tot
    generalize slices_CloneF_i1_v = y at hy hr
    simp only [Tree.run, Option.some.injEq, Prod.mk.injEq] at hr
    obtain ⟨rfl, rfl⟩ := hr
    exact call_ok0 hs (fun k => (([] : List AV)[k]?).getD .top) [.nilslc] [.nilslc] (fun F' h0 hi hρ => ⟨by simp [DVs.av, DV.av, BR.av, hρ], slices_CloneF_i1_fn  F' (by rw [hi]; rfl) (st_nil hi) ⟨trivial, trivial⟩ hy⟩) rfl
  · cases hr
/-! (*impl.reflections).next -/
noncomputable def impl_reflections_next_i1_l0_T (s : Unit) : Tree ((Unit) ⊕ (Unit)) :=
  (.br (decide ((0 : Int) < (0 : Int))) (
   .fail
  ) (
   .leaf (.inr ())
  ))

noncomputable def impl_reflections_next_i1_l0_g (s0 : Unit) : Option (Unit) := whileM (fun s => (impl_reflections_next_i1_l0_T s).run) s0
def impl_reflections_next_i1_l0_E (v295 : Nat) (v296 : List Nat) (v297 : Int) (s : Unit) : Sd := ([.ptr 0 (0 : Nat) 0 (3 : Nat), .bslc (BR.root 1) (.f32 v296), .int .i64 v297, .top, .top, .top, .top, .flt .f32 (0 : Nat), .top, .top, .top, .top, .top, .top, .top, .top, .nilslc, .int .i64 (0 : Int), .int .i64 (0 : Int), .top, .top, .top, .top, .top, .top, .top, .top, .top, .top, .top, .top, .top, .top, .top, .top, .top, .top, .top, .top, .top, .top, .top, .top, .top, .top, .top, .top, .top, .top, .top, .top, .top, .top, .top, .top, .top, .top, .top, .top, .top, .top, .top, .top, .top, .top, .top, .top, .top, .top, .top, .top, .top, .top, .top, .top, .top, .top, .top, .top, .top, .top, .top, .top, .top, .top, .top, .top, .top, .top, .top, .top, .top, .top, .top, .top, .top, .top, .top, .top, .top, .top, .top, .top, .top, .top, .top, .top, .top, .top, .top, .top, .top, .top, .top, .top], [.gen [.nilslc, .nilslc, .flt .f32 v295] false 0])
def impl_reflections_next_i1_l0_X (v295 : Nat) (v296 : List Nat) (v297 : Int) (x : Unit) : Out := (.normal, [.ptr 0 (0 : Nat) 0 (3 : Nat), .bslc (BR.root 1) (.f32 v296), .int .i64 v297, .top, .top, .top, .top, .flt .f32 (0 : Nat), .top, .top, .top, .top, .top, .top, .top, .top, .top, .top, .top, .top, .top, .top, .top, .top, .top, .top, .top, .top, .top, .top, .top, .top, .top, .top, .top, .top, .top, .top, .top, .top, .top, .top, .top, .top, .top, .top, .top, .top, .top, .top, .top, .top, .top, .top, .top, .top, .top, .top, .top, .top, .top, .top, .top, .top, .top, .top, .top, .top, .top, .top, .top, .top, .top, .top, .top, .top, .top, .top, .top, .top, .top, .top, .top, .top, .top, .top, .top, .top, .top, .top, .top, .top, .top, .top, .top, .top, .top, .top, .top, .top, .top, .top, .top, .top, .top, .top, .top, .top, .top, .top, .top, .top, .top, .top, .top], [.gen [.nilslc, .nilslc, .flt .f32 v295] false 0])
def impl_reflections_next_i1_l0_kill : List Nat := [0, 0, 0, 1, 1, 1, 1, 0, 1, 1, 1, 1, 1, 1, 1, 1, 0, 0, 0, 1, 1, 1, 1, 1, 1, 1, 1, 1, 1, 1, 1, 1, 1, 1, 1, 1, 1, 1, 1, 1, 1, 1, 1, 1, 1, 1, 1, 1, 1, 1, 1, 1, 1, 1, 1, 1, 1, 1, 1, 1, 1, 1, 1, 1, 1, 1, 1, 1, 1, 1, 1, 1, 1, 1, 1, 1, 1, 1, 1, 1, 1, 1, 1, 1, 1, 1, 1, 1, 1, 1, 1, 1, 1, 1, 1, 1, 1, 1, 1, 1, 1, 1, 1, 1, 1, 1, 1, 1, 1, 1, 1, 1, 1, 1, 1]
def impl_reflections_next_i1_l0_nx : Exit → List Nat
  | .exit 0 => [0, 0, 0, 1, 1, 1, 1, 0, 1, 1, 1, 1, 1, 1, 1, 1, 1, 1, 1, 1, 1, 1, 1, 1, 1, 1, 1, 1, 1, 1, 1, 1, 1, 1, 1, 1, 1, 1, 1, 1, 1, 1, 1, 1, 1, 1, 1, 1, 1, 1, 1, 1, 1, 1, 1, 1, 1, 1, 1, 1, 1, 1, 1, 1, 1, 1, 1, 1, 1, 1, 1, 1, 1, 1, 1, 1, 1, 1, 1, 1, 1, 1, 1, 1, 1, 1, 1, 1, 1, 1, 1, 1, 1, 1, 1, 1, 1, 1, 1, 1, 1, 1, 1, 1, 1, 1, 1, 1, 1, 1, 1, 1, 1, 1, 1]
  | .ret => [1, 1, 1, 1, 1, 1, 0, 1, 1, 1, 1, 1, 1, 1, 1, 1, 1, 1, 1, 1, 1, 1, 1, 1, 1, 1, 1, 1, 1, 1, 1, 1, 1, 1, 1, 1, 1, 1, 1, 1, 1, 1, 1, 1, 1, 1, 1, 1, 1, 1, 1, 1, 1, 1, 1, 1, 1, 1, 1, 1, 1, 1, 1, 1, 1, 1, 1, 1, 1, 1, 1, 1, 1, 1, 1, 1, 1, 1, 1, 1, 1, 1, 1, 1, 1, 1, 1, 1, 1, 1, 1, 1, 1, 1, 1, 1, 1, 1, 1, 1, 1, 1, 1, 1, 1, 1, 1, 1, 1, 1, 1, 1, 1, 1, 1]
  | _ => []
noncomputable def impl_reflections_next_i1_l2_T (s : Unit) : Tree ((Unit) ⊕ (Unit)) :=
  (.br (decide ((0 : Int) < (0 : Int))) (
   .fail
  ) (
   .leaf (.inr ())
  ))

noncomputable def impl_reflections_next_i1_l2_g (s0 : Unit) : Option (Unit) := whileM (fun s => (impl_reflections_next_i1_l2_T s).run) s0
def impl_reflections_next_i1_l2_E (v295 : Nat) (v296 : List Nat) (v297 : Int) (s : Unit) : Sd := ([.ptr 0 (0 : Nat) 0 (3 : Nat), .top, .int .i64 v297, .top, .top, .top, .top, .top, .top, .top, .flt .f32 (fdiv .f32 (fsub .f32 (nth v296 (Int.toNat v297)) (0 : Nat)) v295), .nilslc, .top, .top, .top, .top, .top, .top, .top, .top, .top, .top, .top, .top, .top, .top, .top, .top, .top, .top, .top, .top, .top, .top, .top, .top, .top, .top, .top, .top, .top, .top, .top, .top, .top, .top, .top, .top, .top, .top, .top, .top, .top, .top, .top, .int .i64 (0 : Int), .int .i64 (0 : Int), .top, .top, .top, .top, .top, .top, .top, .top, .top, .top, .top, .top, .top, .top, .top, .top, .top, .top, .top, .top, .top, .top, .top, .top, .top, .top, .top, .top, .top, .top, .top, .top, .top, .top, .top, .top, .top, .top, .top, .top, .top, .top, .top, .top, .top, .top, .top, .top, .top, .top, .top, .top, .top, .top, .top, .top, .top, .top], [.gen [.nilslc, .nilslc, .flt .f32 v295] false 0])
def impl_reflections_next_i1_l2_X (v295 : Nat) (v296 : List Nat) (v297 : Int) (x : Unit) : Out := (.normal, [.ptr 0 (0 : Nat) 0 (3 : Nat), .top, .top, .top, .top, .top, .top, .top, .top, .top, .flt .f32 (fdiv .f32 (fsub .f32 (nth v296 (Int.toNat v297)) (0 : Nat)) v295), .top, .top, .top, .top, .top, .top, .top, .top, .top, .top, .top, .top, .top, .top, .top, .top, .top, .top, .top, .top, .top, .top, .top, .top, .top, .top, .top, .top, .top, .top, .top, .top, .top, .top, .top, .top, .top, .top, .top, .top, .top, .top, .top, .top, .top, .top, .top, .top, .top, .top, .top, .top, .top, .top, .top, .top, .top, .top, .top, .top, .top, .top, .top, .top, .top, .top, .top, .top, .top, .top, .top, .top, .top, .top, .top, .top, .top, .top, .top, .top, .top, .top, .top, .top, .top, .top, .top, .top, .top, .top, .top, .top, .top, .top, .top, .top, .top, .top, .top, .top, .top, .top, .top, .top], [.gen [.nilslc, .nilslc, .flt .f32 v295] false 0])
def impl_reflections_next_i1_l2_kill : List Nat := [0, 1, 0, 1, 1, 1, 1, 1, 1, 1, 0, 0, 1, 1, 1, 1, 1, 1, 1, 1, 1, 1, 1, 1, 1, 1, 1, 1, 1, 1, 1, 1, 1, 1, 1, 1, 1, 1, 1, 1, 1, 1, 1, 1, 1, 1, 1, 1, 1, 1, 1, 1, 1, 1, 1, 0, 0, 1, 1, 1, 1, 1, 1, 1, 1, 1, 1, 1, 1, 1, 1, 1, 1, 1, 1, 1, 1, 1, 1, 1, 1, 1, 1, 1, 1, 1, 1, 1, 1, 1, 1, 1, 1, 1, 1, 1, 1, 1, 1, 1, 1, 1, 1, 1, 1, 1, 1, 1, 1, 1, 1, 1, 1, 1, 1]
def impl_reflections_next_i1_l2_nx : Exit → List Nat
  | .exit 2 => [0, 1, 1, 1, 1, 1, 1, 1, 1, 1, 0, 1, 1, 1, 1, 1, 1, 1, 1, 1, 1, 1, 1, 1, 1, 1, 1, 1, 1, 1, 1, 1, 1, 1, 1, 1, 1, 1, 1, 1, 1, 1, 1, 1, 1, 1, 1, 1, 1, 1, 1, 1, 1, 1, 1, 1, 1, 1, 1, 1, 1, 1, 1, 1, 1, 1, 1, 1, 1, 1, 1, 1, 1, 1, 1, 1, 1, 1, 1, 1, 1, 1, 1, 1, 1, 1, 1, 1, 1, 1, 1, 1, 1, 1, 1, 1, 1, 1, 1, 1, 1, 1, 1, 1, 1, 1, 1, 1, 1, 1, 1, 1, 1, 1, 1]
  | .ret => [1, 1, 1, 1, 1, 1, 0, 1, 1, 1, 1, 1, 1, 1, 1, 1, 1, 1, 1, 1, 1, 1, 1, 1, 1, 1, 1, 1, 1, 1, 1, 1, 1, 1, 1, 1, 1, 1, 1, 1, 1, 1, 1, 1, 1, 1, 1, 1, 1, 1, 1, 1, 1, 1, 1, 1, 1, 1, 1, 1, 1, 1, 1, 1, 1, 1, 1, 1, 1, 1, 1, 1, 1, 1, 1, 1, 1, 1, 1, 1, 1, 1, 1, 1, 1, 1, 1, 1, 1, 1, 1, 1, 1, 1, 1, 1, 1, 1, 1, 1, 1, 1, 1, 1, 1, 1, 1, 1, 1, 1, 1, 1, 1, 1, 1]
  | _ => []
noncomputable def impl_reflections_next_i1_LO (v295 : Nat) (v296 : List Nat) (v297 : Int) : LOr := fun id e L =>
  match id with
  | 0 => .need (normA 1 impl_reflections_next_i1_l0_kill e L = some (impl_reflections_next_i1_l0_E v295 v296 v297 ())) (.call (impl_reflections_next_i1_l0_g ()) fun x => .leaf (impl_reflections_next_i1_l0_X v295 v296 v297 x))
  | 2 => .need (normA 1 impl_reflections_next_i1_l2_kill e L = some (impl_reflections_next_i1_l2_E v295 v296 v297 ())) (.call (impl_reflections_next_i1_l2_g ()) fun x => .leaf (impl_reflections_next_i1_l2_X v295 v296 v297 x))
  | _ => .fail
noncomputable def impl_reflections_next_i1_tab : List (FuncId × DFn × Bool) := [(105, slices_CloneF_i1_F, true), (65, impl_mul_F, true)]
theorem impl_reflections_next_i1_hO : OrcOk Try.prog (tabD impl_reflections_next_i1_tab) (tabM impl_reflections_next_i1_tab) := tabD_cons slices_CloneF_i1_Fok (tabD_cons impl_mul_Fok (tabD_nil _))
theorem impl_reflections_next_i1_l0_be (v295 : Nat) (v296 : List Nat) (v297 : Int) (s : Unit) : bodyT TT (tabD impl_reflections_next_i1_tab) (tabM impl_reflections_next_i1_tab) (impl_reflections_next_i1_LO v295 v296 v297) 1 impl_reflections_next_i1_l0_kill impl_reflections_next_i1_l0_nx (bodyOf Try.f92 0) 0 (impl_reflections_next_i1_l0_E v295 v296 v297 s) = (impl_reflections_next_i1_l0_T s).bind fun y => .leaf (outS (impl_reflections_next_i1_l0_E v295 v296 v297) (impl_reflections_next_i1_l0_X v295 v296 v297) y) := by kernel_rfl
theorem impl_reflections_next_i1_l0_ok (v295 : Nat) (v296 : List Nat) (v297 : Int) : LSound Try.prog 1 (impl_reflections_next_i1_LO v295 v296 v297) 0 (bodyOf Try.f92 0) := by
  intro e L out h
  exact lo_ok (E := impl_reflections_next_i1_l0_E v295 v296 v297) (gT := impl_reflections_next_i1_l0_T) (X := impl_reflections_next_i1_l0_X v295 v296 v297) (s0 := ()) tok impl_reflections_next_i1_hO mixed (LoopsOk_eq (l := []) (by kernel_rfl) trivial) (impl_reflections_next_i1_l0_be v295 v296 v297) rfl (by intro x; rfl) h
theorem impl_reflections_next_i1_l2_be (v295 : Nat) (v296 : List Nat) (v297 : Int) (s : Unit) : bodyT TT (tabD impl_reflections_next_i1_tab) (tabM impl_reflections_next_i1_tab) (impl_reflections_next_i1_LO v295 v296 v297) 1 impl_reflections_next_i1_l2_kill impl_reflections_next_i1_l2_nx (bodyOf Try.f92 2) 2 (impl_reflections_next_i1_l2_E v295 v296 v297 s) = (impl_reflections_next_i1_l2_T s).bind fun y => .leaf (outS (impl_reflections_next_i1_l2_E v295 v296 v297) (impl_reflections_next_i1_l2_X v295 v296 v297) y) := by kernel_rfl
theorem impl_reflections_next_i1_l2_ok (v295 : Nat) (v296 : List Nat) (v297 : Int) : LSound Try.prog 1 (impl_reflections_next_i1_LO v295 v296 v297) 2 (bodyOf Try.f92 2) := by
  intro e L out h
  exact lo_ok (E := impl_reflections_next_i1_l2_E v295 v296 v297) (gT := impl_reflections_next_i1_l2_T) (X := impl_reflections_next_i1_l2_X v295 v296 v297) (s0 := ()) tok impl_reflections_next_i1_hO mixed (LoopsOk_eq (l := []) (by kernel_rfl) trivial) (impl_reflections_next_i1_l2_be v295 v296 v297) rfl (by intro x; rfl) h
noncomputable def impl_reflections_next_i1_T (v295 : Nat) (v296 : List Nat) (v297 : Int) : Tree (Bool × Nat) :=
  (.need (some (impl_reflections_next_i1_l0_E v295 v296 v297 ()) = some (impl_reflections_next_i1_l0_E v295 v296 v297 ())) <|
  (.call (impl_reflections_next_i1_l0_g ()) fun v300 =>
  (.grd (inb v297 v296.length) <|
  (.need (some (impl_reflections_next_i1_l2_E v295 v296 v297 ()) = some (impl_reflections_next_i1_l2_E v295 v296 v297 ())) <|
  (.call (impl_reflections_next_i1_l2_g ()) fun v302 =>
  (.grd (fits ([fdiv .f32 (fsub .f32 (nth v296 (Int.toNat v297)) (0 : Nat)) v295] : List Nat).length) <|
  (.br (decide (([fdiv .f32 (fsub .f32 (nth v296 (Int.toNat v297)) (0 : Nat)) v295] : List Nat).length = 0)) (
   .fail
  ) (
   (.grd (fits ([fdiv .f32 (fsub .f32 (nth v296 (Int.toNat v297)) (0 : Nat)) v295] : List Nat).length) <|
   (.br (decide (([fdiv .f32 (fsub .f32 (nth v296 (Int.toNat v297)) (0 : Nat)) v295] : List Nat).length = 0)) (
    .fail
   ) (
    .leaf (fgrt .f32 (impl_mul_v v295 (fsub .f32 (1065353216 : Nat) (impl_mul_v (fdiv .f32 (fsub .f32 (nth v296 (Int.toNat v297)) (0 : Nat)) v295) (fdiv .f32 (fsub .f32 (nth v296 (Int.toNat v297)) (0 : Nat)) v295)))) (0 : Nat), (impl_mul_v v295 (fsub .f32 (1065353216 : Nat) (impl_mul_v (fdiv .f32 (fsub .f32 (nth v296 (Int.toNat v297)) (0 : Nat)) v295) (fdiv .f32 (fsub .f32 (nth v296 (Int.toNat v297)) (0 : Nat)) v295)))))
   )))
  ))))))))

noncomputable def impl_reflections_next_i1_g (v295 : Nat) (v296 : List Nat) (v297 : Int) : Option (Bool × Nat) := (impl_reflections_next_i1_T v295 v296 v297).run
def impl_reflections_next_i1_enc (v295 : Nat) (v296 : List Nat) (v297 : Int) (y : Bool × Nat) : Rs := (.bool y.1, [.gen [.own 1 0 ((([fdiv .f32 (fsub .f32 (nth v296 (Int.toNat v297)) (0 : Nat)) v295] : List Nat)).length), .own 2 0 ((([fdiv .f32 (fsub .f32 (nth v296 (Int.toNat v297)) (0 : Nat)) v295] : List Nat)).length), .flt .f32 y.2] false 0, .row (.f32 ([fdiv .f32 (fsub .f32 (nth v296 (Int.toNat v297)) (0 : Nat)) v295] : List Nat)) 0, .row (.f32 ([fdiv .f32 (fsub .f32 (nth v296 (Int.toNat v297)) (0 : Nat)) v295] : List Nat)) 0])
theorem impl_reflections_next_i1_den (v295 : Nat) (v296 : List Nat) (v297 : Int) : (den TT (tabD impl_reflections_next_i1_tab) (tabM impl_reflections_next_i1_tab) (impl_reflections_next_i1_LO v295 v296 v297) (codeOf Try.f92) ([.ptr 0 (0 : Nat) 0 (3 : Nat), .bslc (BR.root 1) (.f32 v296), .int .i64 v297] ++ List.replicate (Try.f92.ntmps - ([.ptr 0 (0 : Nat) 0 (3 : Nat), .bslc (BR.root 1) (.f32 v296), .int .i64 v297] : List DV).length) .undef) [.gen [.nilslc, .nilslc, .flt .f32 v295] false 0]).bind (retD TT Try.f92.results.toList 1) = (impl_reflections_next_i1_T v295 v296 v297).bind fun y => .leaf (impl_reflections_next_i1_enc v295 v296 v297 y) := by kernel_rfl
theorem impl_reflections_next_i1_fn (v295 : Nat) (v296 : List Nat) (v297 : Int) (F : Fr) (hm : F.ids.length = 1) (h0 : St F [.gen [.nilslc, .nilslc, .flt .f32 v295] false 0] F.H0) (hA : DVs.Ok F [.gen [.nilslc, .nilslc, .flt .f32 v295] false 0] [.ptr 0 (0 : Nat) 0 (3 : Nat), .bslc (BR.root 1) (.f32 v296), .int .i64 v297]) {y : Bool × Nat} (hy : impl_reflections_next_i1_g v295 v296 v297 = some y) : ∃ H', FnOk Try.prog 92 (DVs.av F [.ptr 0 (0 : Nat) 0 (3 : Nat), .bslc (BR.root 1) (.f32 v296), .int .i64 v297]) F.H0 ((impl_reflections_next_i1_enc v295 v296 v297 y).1.av F) H' ∧ St F (impl_reflections_next_i1_enc v295 v296 v297 y).2 H' ∧ (impl_reflections_next_i1_enc v295 v296 v297 y).1.Ok F (impl_reflections_next_i1_enc v295 v296 v297 y).2 :=
  fn_fin tok impl_reflections_next_i1_hO mixed Try.func92 Try.call92 (by kernel_rfl) (LoopsOk_eq (l := [(0, bodyOf Try.f92 0), (2, bodyOf Try.f92 2)]) (by kernel_rfl) ⟨impl_reflections_next_i1_l0_ok v295 v296 v297, impl_reflections_next_i1_l2_ok v295 v296 v297, trivial⟩) (impl_reflections_next_i1_den v295 v296 v297) hy hm h0 hA
noncomputable def impl_reflections_next_i1_F : DFn := fun args L =>
  match args with
  | [a1, a2, .int .i64 v297] =>
    optT (genOf L 3 false a1) fun qg0 =>
    (match qg0.2 with
    | [.nilslc, .nilslc, .flt .f32 v295] =>
    optT (rowF32 L a2) fun v296 =>
    (match sepB [qg0.1] [a2] with
    | true =>
    .call (impl_reflections_next_i1_g v295 v296 v297) fun y => .leaf (.bool y.1, setB L [(qg0.1, .gen [.own (L.length + 0) 0 ((([fdiv .f32 (fsub .f32 (nth v296 (Int.toNat v297)) (0 : Nat)) v295] : List Nat)).length), .own (L.length + 1) 0 ((([fdiv .f32 (fsub .f32 (nth v296 (Int.toNat v297)) (0 : Nat)) v295] : List Nat)).length), .flt .f32 y.2] false (verAt L qg0.1))] ++ [.row (.f32 ([fdiv .f32 (fsub .f32 (nth v296 (Int.toNat v297)) (0 : Nat)) v295] : List Nat)) 0, .row (.f32 ([fdiv .f32 (fsub .f32 (nth v296 (Int.toNat v297)) (0 : Nat)) v295] : List Nat)) 0])
    | false => .fail)
    | _ => .fail)
  | _ => .fail
theorem impl_reflections_next_i1_Fok : COk Try.prog 92 impl_reflections_next_i1_F false := by
  intro F L H args r L' hs ha hr
  unfold impl_reflections_next_i1_F at hr
  split at hr
  · rename_i a1 a2 v297
    obtain ⟨⟨jg0, cg0⟩, hg0, hr⟩ := optT_run hr
    simp only at hr
    split at hr
    · rename_i v295
      obtain ⟨hge0, hgu0, hga0, hgn0, hgc0, hgf0⟩ := genOf_spec hs (DVs.okAt ha 0 rfl) hg0
      obtain ⟨v296, hv296, hr⟩ := optT_run hr
      split at hr
      · rename_i hsep
        obtain ⟨hnd, hsepv⟩ := sepB_spec hsep
        simp only [Tree.run] at hr
        obtain ⟨y, hy, hr⟩ := Option.bind_eq_some_iff.1 hr
        try simp only [Tree.run] at hr
        simp only [Option.some.injEq, Prod.mk.injEq] at hr
        obtain ⟨rfl, rfl⟩ := hr
        exact mutG_ok hs [a1, a2] ⟨(DVs.okAt ha 0 rfl), (DVs.okAt ha 1 rfl), trivial⟩ [a1, a2, .int .i64 v297] [.ptr 0 (0 : Nat) 0 (3 : Nat), .bslc (BR.root 1) (.f32 v296), .int .i64 v297] [jg0] [verAt L jg0] [.gen [.nilslc, .nilslc, .flt .f32 v295] false 0] [.gen [.own 1 0 ((([fdiv .f32 (fsub .f32 (nth v296 (Int.toNat v297)) (0 : Nat)) v295] : List Nat)).length), .own 2 0 ((([fdiv .f32 (fsub .f32 (nth v296 (Int.toNat v297)) (0 : Nat)) v295] : List Nat)).length), .flt .f32 y.2] false 0, .row (.f32 ([fdiv .f32 (fsub .f32 (nth v296 (Int.toNat v297)) (0 : Nat)) v295] : List Nat)) 0, .row (.f32 ([fdiv .f32 (fsub .f32 (nth v296 (Int.toNat v297)) (0 : Nat)) v295] : List Nat)) 0] [.gen [.own (L.length + 0) 0 ((([fdiv .f32 (fsub .f32 (nth v296 (Int.toNat v297)) (0 : Nat)) v295] : List Nat)).length), .own (L.length + 1) 0 ((([fdiv .f32 (fsub .f32 (nth v296 (Int.toNat v297)) (0 : Nat)) v295] : List Nat)).length), .flt .f32 y.2] false (verAt L jg0)] [.row (.f32 ([fdiv .f32 (fsub .f32 (nth v296 (Int.toNat v297)) (0 : Nat)) v295] : List Nat)) 0, .row (.f32 ([fdiv .f32 (fsub .f32 (nth v296 (Int.toNat v297)) (0 : Nat)) v295] : List Nat)) 0] hnd rfl rfl (fun j hj => by
            simp at hj
            subst hj; exact ex_lt hge0) (fun j hj => by
            simp at hj
            subst hj; exact reach_refs (by simp [DVs.refs, DV.refs, hgu0])) (fun F' h0 hi hρ ab hS => by
            have ab0 := ab 0 _ rfl;
            refine ⟨fun i j b' h1 h2 => ?_, by simp [DBlk.blk, DVs.av, DV.av, BR.av, hρ, Row.len, hga0, ab0], fun hst => impl_reflections_next_i1_fn v295 v296 v297 F' (by rw [hi]; rfl) hst ⟨⟨_, rfl, Nat.le_refl _, by decide, Nat.le_refl _, fun _ => rfl⟩, bslcM hS (by rw [hρ]; rfl) (hsepv a2 (by simp)) (DVs.okAt ha 1 rfl) (rowF32_or hv296), trivial, trivial⟩ hy⟩
            rcases i with _ | i
            · simp at h1 h2; subst h1; subst h2; obtain ⟨ver_, hv_⟩ := hge0; exact ⟨_, hv_, by simp [DBlk.blk, DVs.av, DV.av, BR.av, hρ, Row.len, hga0, ab0], ⟨⟨trivial, trivial, trivial, trivial⟩, fun hf => by cases hf⟩⟩
            · simp at h1) rfl rfl (fun i j b b' h1 h2 h3 => by
            rcases i with _ | i
            · simp at h1; subst h1; cases h3; exact growG hge0 rfl h2
            · simp at h1)
      · cases hr
    · cases hr
  · cases hr
/-! impl.allFinite -/
noncomputable def impl_allFinite_LO (v701 : List Nat) : LOr := fun id e L =>
  match id with
  | _ => .fail
noncomputable def impl_allFinite_tab : List (FuncId × DFn × Bool) := [(68, impl_areFinite_F, true)]
theorem impl_allFinite_hO : OrcOk Try.prog (tabD impl_allFinite_tab) (tabM impl_allFinite_tab) := tabD_cons impl_areFinite_Fok (tabD_nil _)
noncomputable def impl_allFinite_T (v701 : List Nat) : Tree ((Unit) ⊕ (Unit)) :=
  (.call (impl_areFinite_g v701) fun v702 =>
  (.br (!v702) (
   .leaf (.inl ())
  ) (
   .leaf (.inr ())
  )))

noncomputable def impl_allFinite_g (v701 : List Nat) : Option ((Unit) ⊕ (Unit)) := (impl_allFinite_T v701).run
def impl_allFinite_enc (v701 : List Nat) (y : (Unit) ⊕ (Unit)) : Rs := (match y with | .inl y => (.tup [.nilslc, .lit false], []) | .inr y => (.tup [.bslc (BR.root 0) (.f32 v701), .lit true], []))
theorem impl_allFinite_den (v701 : List Nat) : (den TT (tabD impl_allFinite_tab) (tabM impl_allFinite_tab) (impl_allFinite_LO v701) (codeOf Try.f93) ([.bslc (BR.root 0) (.f32 v701)] ++ List.replicate (Try.f93.ntmps - ([.bslc (BR.root 0) (.f32 v701)] : List DV).length) .undef) []).bind (retD TT Try.f93.results.toList 0) = (impl_allFinite_T v701).bind fun y => .leaf (impl_allFinite_enc v701 y) := by kernel_rfl
theorem impl_allFinite_fn (v701 : List Nat) (F : Fr) (hm : F.ids.length = 0) (h0 : St F [] F.H0) (hA : DVs.Ok F [] [.bslc (BR.root 0) (.f32 v701)]) {y : (Unit) ⊕ (Unit)} (hy : impl_allFinite_g v701 = some y) : ∃ H', FnOk Try.prog 93 (DVs.av F [.bslc (BR.root 0) (.f32 v701)]) F.H0 ((impl_allFinite_enc v701 y).1.av F) H' ∧ St F (impl_allFinite_enc v701 y).2 H' ∧ (impl_allFinite_enc v701 y).1.Ok F (impl_allFinite_enc v701 y).2 :=
  fn_fin tok impl_allFinite_hO mixed Try.func93 Try.call93 (by kernel_rfl) (LoopsOk_eq (l := []) (by kernel_rfl) trivial) (impl_allFinite_den v701) hy hm h0 hA
noncomputable def impl_allFinite_F : DFn := fun args L =>
  match args with
  | [a1] =>
    optT (rowF32 L a1) fun v701 =>
    .call (impl_allFinite_g v701) fun y => .sum y (fun y0 => .leaf (.tup [.nilslc, .lit false], L)) (fun z0 => .leaf (.tup [a1, .lit true], L))
  | _ => .fail
theorem impl_allFinite_Fok : COk Try.prog 93 impl_allFinite_F true := by
  intro F L H args r L' hs ha hr
  unfold impl_allFinite_F at hr
  split at hr
  · rename_i a1
    obtain ⟨v701, hv701, hr⟩ := optT_run hr
    simp only [Tree.run] at hr
    obtain ⟨y, hy, hr⟩ := Option.bind_eq_some_iff.1 hr
    cases y with
    | inl y =>
      simp only [Tree.run, Option.some.injEq, Prod.mk.injEq] at hr
      obtain ⟨rfl, rfl⟩ := hr
      exact call_ok0 hs (fun k => (([a1.av F] : List AV)[k]?).getD .top) [a1] [.bslc (BR.root 0) (.f32 v701)] (fun F' h0 hi hρ => ⟨by simp [DVs.av, DV.av, BR.av, hρ], impl_allFinite_fn v701 F' (by rw [hi]; rfl) (st_nil hi) ⟨bslc_ok hi (by rw [h0, hρ]; exact rowF32_ok hs (DVs.okAt ha 0 rfl) hv701), trivial⟩ hy⟩) rfl
    | inr y =>
      simp only [Tree.run, Option.some.injEq, Prod.mk.injEq] at hr
      obtain ⟨rfl, rfl⟩ := hr
      exact call_al0 hs (fun k => (([a1.av F] : List AV)[k]?).getD .top) [a1] [.bslc (BR.root 0) (.f32 v701)] (fun F' h0 hi hρ => ⟨by simp [DVs.av, DV.av, BR.av, hρ], impl_allFinite_fn v701 F' (by rw [hi]; rfl) (st_nil hi) ⟨bslc_ok hi (by rw [h0, hρ]; exact rowF32_ok hs (DVs.okAt ha 0 rfl) hv701), trivial⟩ hy⟩) (fun F' h0 hi hρ => by simp [impl_allFinite_enc, DVs.av, DV.av, BR.av, hρ]) ⟨(DVs.okAt ha 0 rfl), trivial, trivial⟩
  · cases hr
/-! impl.ShiftSolve -/
noncomputable def impl_ShiftSolve_l2_T (v194 : List Nat) (v613 : Int) (v615 : Int) (v617 : Nat) (v618 : List Nat) (v619 : List Nat) (v620 : List Nat) (s : Nat × Int) : Tree ((Nat × Int) ⊕ (Nat)) :=
  (.br (decide (s.2 < v615)) (
   (.grd (inb s.2 ((v618).length)) <|
   (.grd (inb (IntKind.i64.wrap (v613 - s.2)) v194.length) <|
   .leaf (.inl (fadd .f32 s.1 (impl_mul_v (nth v618 (Int.toNat s.2)) (nth v194 (Int.toNat (IntKind.i64.wrap (v613 - s.2))))), IntKind.i64.wrap (s.2 + (1 : Int))))))
  ) (
   .leaf (.inr s.1)
  ))

noncomputable def impl_ShiftSolve_l2_g (v194 : List Nat) (v613 : Int) (v615 : Int) (v617 : Nat) (v618 : List Nat) (v619 : List Nat) (v620 : List Nat) (s0 : Nat × Int) : Option (Nat) := whileM (fun s => (impl_ShiftSolve_l2_T v194 v613 v615 v617 v618 v619 v620 s).run) s0
def impl_ShiftSolve_l2_E (v194 : List Nat) (v195 : List Nat) (v613 : Int) (v615 : Int) (v617 : Nat) (v618 : List Nat) (v619 : List Nat) (v620 : List Nat) (s : Nat × Int) : Sd := ([.bslc (BR.root 0) (.f32 v194), .bslc (BR.root 1) (.f32 v195), .top, .top, .top, .top, .ptr 0 (0 : Nat) 0 (3 : Nat), .own 1 0 ((v618).length), .int .i64 v613, .flt .f32 s.1, .top, .top, .top, .top, .top, .top, .top, .top, .top, .top, .top, .top, .top, .top, .top, .top, .top, .top, .top, .top, .top, .top, .top, .top, .top, .top, .top, .top, .top, .top, .top, .top, .top, .top, .top, .top, .top, .top, .top, .top, .top, .top, .top, .own 1 0 ((v618).length), .int .i64 v615, .int .i64 s.2, .top, .top, .top, .top, .top, .top, .top, .top, .top, .top, .top, .top, .top, .top, .top, .top, .top, .top, .top, .top, .top, .top, .top, .top, .top, .top, .top, .top, .top, .top, .top, .top, .top, .top, .top, .top, .top, .top, .top, .top, .top, .top, .top, .top, .top, .top, .top, .top, .top, .top, .top, .top, .top, .top, .top, .top, .top, .top], [.gen [.own 2 0 ((v619).length), .own 3 0 ((v620).length), .flt .f32 v617] false 0, .row (.f32 v618) 0, .row (.f32 v619) 0, .row (.f32 v620) 0])
def impl_ShiftSolve_l2_X (v194 : List Nat) (v195 : List Nat) (v613 : Int) (v615 : Int) (v617 : Nat) (v618 : List Nat) (v619 : List Nat) (v620 : List Nat) (x : Nat) : Out := (.normal, [.bslc (BR.root 0) (.f32 v194), .bslc (BR.root 1) (.f32 v195), .top, .top, .top, .top, .ptr 0 (0 : Nat) 0 (3 : Nat), .own 1 0 ((v618).length), .int .i64 v613, .flt .f32 x, .top, .top, .top, .top, .top, .top, .top, .top, .top, .top, .top, .top, .top, .top, .top, .top, .top, .top, .top, .top, .top, .top, .top, .top, .top, .top, .top, .top, .top, .top, .top, .top, .top, .top, .top, .top, .top, .top, .top, .top, .top, .top, .top, .top, .top, .top, .top, .top, .top, .top, .top, .top, .top, .top, .top, .top, .top, .top, .top, .top, .top, .top, .top, .top, .top, .top, .top, .top, .top, .top, .top, .top, .top, .top, .top, .top, .top, .top, .top, .top, .top, .top, .top, .top, .top, .top, .top, .top, .top, .top, .top, .top, .top, .top, .top, .top, .top, .top, .top, .top, .top, .top, .top, .top], [.gen [.own 2 0 ((v619).length), .own 3 0 ((v620).length), .flt .f32 v617] false 0, .row (.f32 v618) 0, .row (.f32 v619) 0, .row (.f32 v620) 0])
def impl_ShiftSolve_l2_kill : List Nat := [0, 0, 1, 1, 1, 1, 0, 0, 0, 0, 1, 1, 1, 1, 1, 1, 1, 1, 1, 1, 1, 1, 1, 1, 1, 1, 1, 1, 1, 1, 1, 1, 1, 1, 1, 1, 1, 1, 1, 1, 1, 1, 1, 1, 1, 1, 1, 1, 1, 1, 1, 1, 1, 0, 0, 0, 1, 1, 1, 1, 1, 1, 1, 1, 1, 1, 1, 1, 1, 1, 1, 1, 1, 1, 1, 1, 1, 1, 1, 1, 1, 1, 1, 1, 1, 1, 1, 1, 1, 1, 1, 1, 1, 1, 1, 1, 1, 1, 1, 1, 1, 1, 1, 1, 1, 1, 1, 1, 1, 1, 1, 1, 1, 1]
def impl_ShiftSolve_l2_nx : Exit → List Nat
  | .exit 0 => [1, 1, 1, 1, 1, 1, 1, 0, 1, 1, 1, 1, 1, 1, 1, 1, 1, 1, 1, 1, 1, 1, 1, 1, 1, 1, 1, 1, 1, 1, 1, 1, 1, 1, 1, 1, 1, 1, 1, 1, 1, 1, 1, 1, 1, 1, 1, 1, 1, 1, 1, 1, 1, 1, 1, 1, 1, 1, 1, 1, 1, 1, 1, 1, 1, 1, 1, 1, 1, 1, 1, 1, 1, 1, 1, 1, 1, 1, 1, 1, 1, 1, 1, 1, 1, 1, 1, 1, 1, 1, 1, 1, 1, 1, 1, 1, 1, 1, 1, 1, 1, 1, 1, 1, 1, 1, 1, 1, 1, 1, 1, 1, 1, 1]
  | .exit 1 => [0, 0, 1, 1, 1, 1, 0, 0, 0, 1, 1, 1, 1, 1, 1, 1, 1, 1, 1, 1, 1, 1, 1, 1, 1, 1, 1, 1, 1, 1, 1, 1, 1, 1, 1, 1, 1, 1, 1, 1, 1, 1, 1, 1, 1, 1, 1, 1, 1, 1, 1, 1, 1, 1, 1, 1, 1, 1, 1, 1, 1, 1, 1, 1, 1, 1, 1, 1, 1, 1, 1, 1, 1, 1, 1, 1, 1, 1, 1, 1, 1, 1, 1, 1, 1, 1, 1, 1, 1, 1, 1, 1, 1, 1, 1, 1, 1, 1, 1, 1, 1, 1, 1, 1, 1, 1, 1, 1, 1, 1, 1, 1, 1, 1]
  | .exit 2 => [0, 0, 1, 1, 1, 1, 0, 0, 0, 0, 1, 1, 1, 1, 1, 1, 1, 1, 1, 1, 1, 1, 1, 1, 1, 1, 1, 1, 1, 1, 1, 1, 1, 1, 1, 1, 1, 1, 1, 1, 1, 1, 1, 1, 1, 1, 1, 1, 1, 1, 1, 1, 1, 1, 1, 1, 1, 1, 1, 1, 1, 1, 1, 1, 1, 1, 1, 1, 1, 1, 1, 1, 1, 1, 1, 1, 1, 1, 1, 1, 1, 1, 1, 1, 1, 1, 1, 1, 1, 1, 1, 1, 1, 1, 1, 1, 1, 1, 1, 1, 1, 1, 1, 1, 1, 1, 1, 1, 1, 1, 1, 1, 1, 1]
  | .ret => [1, 1, 1, 1, 0, 0, 1, 1, 1, 1, 1, 1, 1, 1, 1, 1, 1, 1, 1, 1, 1, 1, 1, 1, 1, 1, 1, 1, 1, 1, 1, 1, 1, 1, 1, 1, 1, 1, 1, 1, 1, 1, 1, 1, 1, 1, 1, 1, 1, 1, 1, 1, 1, 1, 1, 1, 1, 1, 1, 1, 1, 1, 1, 1, 1, 1, 1, 1, 1, 1, 1, 1, 1, 1, 1, 1, 1, 1, 1, 1, 1, 1, 1, 1, 1, 1, 1, 1, 1, 1, 1, 1, 1, 1, 1, 1, 1, 1, 1, 1, 1, 1, 1, 1, 1, 1, 1, 1, 1, 1, 1, 1, 1, 1]
  | _ => []
noncomputable def impl_ShiftSolve_l4_T (v638 : Int) (v639 : Nat) (v640 : Int) (v642 : Nat) (v644 : List Nat) (v645 : List Nat) (s : Int × (List Nat)) : Tree ((Int × (List Nat)) ⊕ ((List Nat))) :=
  (.br (decide (s.1 < v640)) (
   (.grd (inb s.1 ((s.2).length)) <|
   (.grd (inb (IntKind.i64.wrap ((IntKind.i64.wrap (v638 - (1 : Int))) - s.1)) ((v644).length)) <|
   (.grd (inb s.1 ((s.2).length)) <|
   .leaf (.inl (IntKind.i64.wrap (s.1 + (1 : Int)), List.set s.2 (Int.toNat s.1) (fsub .f32 (nth s.2 (Int.toNat s.1)) (impl_mul_v v639 (nth v644 (Int.toNat (IntKind.i64.wrap ((IntKind.i64.wrap (v638 - (1 : Int))) - s.1)))))))))))
  ) (
   .leaf (.inr s.2)
  ))

noncomputable def impl_ShiftSolve_l4_g (v638 : Int) (v639 : Nat) (v640 : Int) (v642 : Nat) (v644 : List Nat) (v645 : List Nat) (s0 : Int × (List Nat)) : Option ((List Nat)) := whileM (fun s => (impl_ShiftSolve_l4_T v638 v639 v640 v642 v644 v645 s).run) s0
def impl_ShiftSolve_l4_E (v194 : List Nat) (v195 : List Nat) (v638 : Int) (v639 : Nat) (v640 : Int) (v642 : Nat) (v644 : List Nat) (v645 : List Nat) (s : Int × (List Nat)) : Sd := ([.bslc (BR.root 0) (.f32 v194), .bslc (BR.root 1) (.f32 v195), .top, .top, .top, .top, .ptr 0 (0 : Nat) 0 (3 : Nat), .own 1 0 ((s.2).length), .int .i64 v638, .top, .top, .top, .flt .f32 v639, .top, .top, .top, .top, .top, .top, .top, .top, .top, .top, .top, .top, .top, .top, .top, .top, .top, .top, .top, .top, .top, .top, .top, .top, .top, .top, .top, .top, .top, .top, .top, .top, .top, .top, .top, .top, .top, .top, .top, .top, .top, .top, .top, .top, .top, .top, .top, .top, .top, .top, .top, .top, .top, .top, .top, .top, .top, .top, .top, .top, .top, .top, .top, .top, .top, .top, .top, .top, .top, .top, .int .i64 v640, .int .i64 s.1, .top, .top, .top, .top, .top, .top, .top, .top, .top, .top, .top, .top, .top, .top, .top, .top, .top, .top, .top, .top, .top, .top, .top, .top, .top, .top, .top, .top, .top], [.gen [.own 2 0 ((v644).length), .own 3 0 ((v645).length), .flt .f32 v642] false 0, .row (.f32 s.2) 0, .row (.f32 v644) 0, .row (.f32 v645) 0])
def impl_ShiftSolve_l4_X (v194 : List Nat) (v195 : List Nat) (v638 : Int) (v639 : Nat) (v640 : Int) (v642 : Nat) (v644 : List Nat) (v645 : List Nat) (x : (List Nat)) : Out := (.normal, [.bslc (BR.root 0) (.f32 v194), .bslc (BR.root 1) (.f32 v195), .top, .top, .top, .top, .ptr 0 (0 : Nat) 0 (3 : Nat), .own 1 0 ((x).length), .int .i64 v638, .top, .top, .top, .flt .f32 v639, .top, .top, .top, .top, .top, .top, .top, .top, .top, .top, .top, .top, .top, .top, .top, .top, .top, .top, .top, .top, .top, .top, .top, .top, .top, .top, .top, .top, .top, .top, .top, .top, .top, .top, .top, .top, .top, .top, .top, .top, .top, .top, .top, .top, .top, .top, .top, .top, .top, .top, .top, .top, .top, .top, .top, .top, .top, .top, .top, .top, .top, .top, .top, .top, .top, .top, .top, .top, .top, .top, .top, .top, .top, .top, .top, .top, .top, .top, .top, .top, .top, .top, .top, .top, .top, .top, .top, .top, .top, .top, .top, .top, .top, .top, .top, .top, .top, .top, .top, .top, .top], [.gen [.own 2 0 ((v644).length), .own 3 0 ((v645).length), .flt .f32 v642] false 0, .row (.f32 x) 0, .row (.f32 v644) 0, .row (.f32 v645) 0])
def impl_ShiftSolve_l4_kill : List Nat := [0, 0, 1, 1, 1, 1, 0, 0, 0, 1, 1, 1, 0, 1, 1, 1, 1, 1, 1, 1, 1, 1, 1, 1, 1, 1, 1, 1, 1, 1, 1, 1, 1, 1, 1, 1, 1, 1, 1, 1, 1, 1, 1, 1, 1, 1, 1, 1, 1, 1, 1, 1, 1, 1, 1, 1, 1, 1, 1, 1, 1, 1, 1, 1, 1, 1, 1, 1, 1, 1, 1, 1, 1, 1, 1, 1, 1, 1, 1, 1, 1, 1, 1, 0, 0, 1, 1, 1, 1, 1, 1, 1, 1, 1, 1, 1, 1, 1, 1, 1, 1, 1, 1, 1, 1, 1, 1, 1, 1, 1, 1, 1, 1, 1]
def impl_ShiftSolve_l4_nx : Exit → List Nat
  | .exit 0 => [1, 1, 1, 1, 1, 1, 1, 0, 1, 1, 1, 1, 1, 1, 1, 1, 1, 1, 1, 1, 1, 1, 1, 1, 1, 1, 1, 1, 1, 1, 1, 1, 1, 1, 1, 1, 1, 1, 1, 1, 1, 1, 1, 1, 1, 1, 1, 1, 1, 1, 1, 1, 1, 1, 1, 1, 1, 1, 1, 1, 1, 1, 1, 1, 1, 1, 1, 1, 1, 1, 1, 1, 1, 1, 1, 1, 1, 1, 1, 1, 1, 1, 1, 1, 1, 1, 1, 1, 1, 1, 1, 1, 1, 1, 1, 1, 1, 1, 1, 1, 1, 1, 1, 1, 1, 1, 1, 1, 1, 1, 1, 1, 1, 1]
  | .exit 1 => [0, 0, 1, 1, 1, 1, 0, 0, 0, 1, 1, 1, 1, 1, 1, 1, 1, 1, 1, 1, 1, 1, 1, 1, 1, 1, 1, 1, 1, 1, 1, 1, 1, 1, 1, 1, 1, 1, 1, 1, 1, 1, 1, 1, 1, 1, 1, 1, 1, 1, 1, 1, 1, 1, 1, 1, 1, 1, 1, 1, 1, 1, 1, 1, 1, 1, 1, 1, 1, 1, 1, 1, 1, 1, 1, 1, 1, 1, 1, 1, 1, 1, 1, 1, 1, 1, 1, 1, 1, 1, 1, 1, 1, 1, 1, 1, 1, 1, 1, 1, 1, 1, 1, 1, 1, 1, 1, 1, 1, 1, 1, 1, 1, 1]
  | .exit 4 => [0, 0, 1, 1, 1, 1, 0, 0, 0, 1, 1, 1, 0, 1, 1, 1, 1, 1, 1, 1, 1, 1, 1, 1, 1, 1, 1, 1, 1, 1, 1, 1, 1, 1, 1, 1, 1, 1, 1, 1, 1, 1, 1, 1, 1, 1, 1, 1, 1, 1, 1, 1, 1, 1, 1, 1, 1, 1, 1, 1, 1, 1, 1, 1, 1, 1, 1, 1, 1, 1, 1, 1, 1, 1, 1, 1, 1, 1, 1, 1, 1, 1, 1, 1, 1, 1, 1, 1, 1, 1, 1, 1, 1, 1, 1, 1, 1, 1, 1, 1, 1, 1, 1, 1, 1, 1, 1, 1, 1, 1, 1, 1, 1, 1]
  | .ret => [1, 1, 1, 1, 0, 0, 1, 1, 1, 1, 1, 1, 1, 1, 1, 1, 1, 1, 1, 1, 1, 1, 1, 1, 1, 1, 1, 1, 1, 1, 1, 1, 1, 1, 1, 1, 1, 1, 1, 1, 1, 1, 1, 1, 1, 1, 1, 1, 1, 1, 1, 1, 1, 1, 1, 1, 1, 1, 1, 1, 1, 1, 1, 1, 1, 1, 1, 1, 1, 1, 1, 1, 1, 1, 1, 1, 1, 1, 1, 1, 1, 1, 1, 1, 1, 1, 1, 1, 1, 1, 1, 1, 1, 1, 1, 1, 1, 1, 1, 1, 1, 1, 1, 1, 1, 1, 1, 1, 1, 1, 1, 1, 1, 1]
  | _ => []
noncomputable def impl_ShiftSolve_l0_T (v194 : List Nat) (v195 : List Nat) (s : (Int × Nat × (List Nat)) ⊕ (Int × Nat × (List Nat) × (List Nat) × (List Nat))) : Tree (((Int × Nat × (List Nat)) ⊕ (Int × Nat × (List Nat) × (List Nat) × (List Nat))) ⊕ ((Unit) ⊕ ((List Nat)))) :=
  (match s with
  | .inl s => (
  (.br (decide (s.1 < ((v194.length : Nat) : Int))) (
   (.call (impl_reflections_next_i1_g s.2.1 v194 s.1) fun v596 =>
   (.br (!v596.1) (
    .leaf (.inr (.inl ()))
   ) (
    (.need (some (impl_ShiftSolve_l2_E v194 v195 s.1 (((s.2.2).length : Nat) : Int) v596.2 s.2.2 ([fdiv .f32 (fsub .f32 (nth v194 (Int.toNat s.1)) (0 : Nat)) s.2.1] : List Nat) ([fdiv .f32 (fsub .f32 (nth v194 (Int.toNat s.1)) (0 : Nat)) s.2.1] : List Nat) ((0 : Nat), (0 : Int))) = some (impl_ShiftSolve_l2_E v194 v195 s.1 (((s.2.2).length : Nat) : Int) v596.2 s.2.2 ([fdiv .f32 (fsub .f32 (nth v194 (Int.toNat s.1)) (0 : Nat)) s.2.1] : List Nat) ([fdiv .f32 (fsub .f32 (nth v194 (Int.toNat s.1)) (0 : Nat)) s.2.1] : List Nat) ((0 : Nat), (0 : Int)))) <|
    (.call (impl_ShiftSolve_l2_g v194 s.1 (((s.2.2).length : Nat) : Int) v596.2 s.2.2 ([fdiv .f32 (fsub .f32 (nth v194 (Int.toNat s.1)) (0 : Nat)) s.2.1] : List Nat) ([fdiv .f32 (fsub .f32 (nth v194 (Int.toNat s.1)) (0 : Nat)) s.2.1] : List Nat) ((0 : Nat), (0 : Int))) fun v621 =>
    (.grd (inb s.1 v195.length) <|
    (.need (some (impl_ShiftSolve_l4_E v194 v195 s.1 (fdiv .f32 (fsub .f32 (nth v195 (Int.toNat s.1)) v621) v596.2) (((s.2.2).length : Nat) : Int) v596.2 ([fdiv .f32 (fsub .f32 (nth v194 (Int.toNat s.1)) (0 : Nat)) s.2.1] : List Nat) ([fdiv .f32 (fsub .f32 (nth v194 (Int.toNat s.1)) (0 : Nat)) s.2.1] : List Nat) ((0 : Int), s.2.2)) = some (impl_ShiftSolve_l4_E v194 v195 s.1 (fdiv .f32 (fsub .f32 (nth v195 (Int.toNat s.1)) v621) v596.2) (((s.2.2).length : Nat) : Int) v596.2 ([fdiv .f32 (fsub .f32 (nth v194 (Int.toNat s.1)) (0 : Nat)) s.2.1] : List Nat) ([fdiv .f32 (fsub .f32 (nth v194 (Int.toNat s.1)) (0 : Nat)) s.2.1] : List Nat) ((0 : Int), s.2.2))) <|
    (.call (impl_ShiftSolve_l4_g s.1 (fdiv .f32 (fsub .f32 (nth v195 (Int.toNat s.1)) v621) v596.2) (((s.2.2).length : Nat) : Int) v596.2 ([fdiv .f32 (fsub .f32 (nth v194 (Int.toNat s.1)) (0 : Nat)) s.2.1] : List Nat) ([fdiv .f32 (fsub .f32 (nth v194 (Int.toNat s.1)) (0 : Nat)) s.2.1] : List Nat) ((0 : Int), s.2.2)) fun v646 =>
    (.grd (fits (v646 ++ ([(fdiv .f32 (fsub .f32 (nth v195 (Int.toNat s.1)) v621) v596.2)] : List Nat)).length) <|
    .leaf (.inl (.inr (IntKind.i64.wrap (s.1 + (1 : Int)), v596.2, v646 ++ ([(fdiv .f32 (fsub .f32 (nth v195 (Int.toNat s.1)) v621) v596.2)] : List Nat), ([fdiv .f32 (fsub .f32 (nth v194 (Int.toNat s.1)) (0 : Nat)) s.2.1] : List Nat), ([fdiv .f32 (fsub .f32 (nth v194 (Int.toNat s.1)) (0 : Nat)) s.2.1] : List Nat))))))))))
   )))
  ) (
   .leaf (.inr (.inr s.2.2))
  )))
  | .inr s => (
  (.br (decide (s.1 < ((v194.length : Nat) : Int))) (
   (.call (impl_reflections_next_g s.2.2.2.1 s.2.2.2.2 s.2.1 v194 s.1) fun v647 =>
   (.grd (decide (s.2.2.2.1.length ≤ v647.2.2.1.length)) <|
   (.grd (decide (s.2.2.2.2.length ≤ v647.2.2.2.length)) <|
   (.br (!v647.1) (
    .leaf (.inr (.inl ()))
   ) (
    (.need (some (impl_ShiftSolve_l2_E v194 v195 s.1 (((s.2.2.1).length : Nat) : Int) v647.2.1 s.2.2.1 v647.2.2.1 v647.2.2.2 ((0 : Nat), (0 : Int))) = some (impl_ShiftSolve_l2_E v194 v195 s.1 (((s.2.2.1).length : Nat) : Int) v647.2.1 s.2.2.1 v647.2.2.1 v647.2.2.2 ((0 : Nat), (0 : Int)))) <|
    (.call (impl_ShiftSolve_l2_g v194 s.1 (((s.2.2.1).length : Nat) : Int) v647.2.1 s.2.2.1 v647.2.2.1 v647.2.2.2 ((0 : Nat), (0 : Int))) fun v672 =>
    (.grd (inb s.1 v195.length) <|
    (.need (some (impl_ShiftSolve_l4_E v194 v195 s.1 (fdiv .f32 (fsub .f32 (nth v195 (Int.toNat s.1)) v672) v647.2.1) (((s.2.2.1).length : Nat) : Int) v647.2.1 v647.2.2.1 v647.2.2.2 ((0 : Int), s.2.2.1)) = some (impl_ShiftSolve_l4_E v194 v195 s.1 (fdiv .f32 (fsub .f32 (nth v195 (Int.toNat s.1)) v672) v647.2.1) (((s.2.2.1).length : Nat) : Int) v647.2.1 v647.2.2.1 v647.2.2.2 ((0 : Int), s.2.2.1))) <|
    (.call (impl_ShiftSolve_l4_g s.1 (fdiv .f32 (fsub .f32 (nth v195 (Int.toNat s.1)) v672) v647.2.1) (((s.2.2.1).length : Nat) : Int) v647.2.1 v647.2.2.1 v647.2.2.2 ((0 : Int), s.2.2.1)) fun v697 =>
    (.grd (fits (v697 ++ ([(fdiv .f32 (fsub .f32 (nth v195 (Int.toNat s.1)) v672) v647.2.1)] : List Nat)).length) <|
    .leaf (.inl (.inr (IntKind.i64.wrap (s.1 + (1 : Int)), v647.2.1, v697 ++ ([(fdiv .f32 (fsub .f32 (nth v195 (Int.toNat s.1)) v672) v647.2.1)] : List Nat), v647.2.2.1, v647.2.2.2)))))))))
   )))))
  ) (
   .leaf (.inr (.inr s.2.2.1))
  ))))

noncomputable def impl_ShiftSolve_l0_g (v194 : List Nat) (v195 : List Nat) (s0 : (Int × Nat × (List Nat)) ⊕ (Int × Nat × (List Nat) × (List Nat) × (List Nat))) : Option ((Unit) ⊕ ((List Nat))) := whileM (fun s => (impl_ShiftSolve_l0_T v194 v195 s).run) s0
def impl_ShiftSolve_l0_E (v194 : List Nat) (v195 : List Nat) (s : (Int × Nat × (List Nat)) ⊕ (Int × Nat × (List Nat) × (List Nat) × (List Nat))) : Sd := (match s with | .inl s => ( ([.bslc (BR.root 0) (.f32 v194), .bslc (BR.root 1) (.f32 v195), .top, .top, .top, .top, .ptr 0 (0 : Nat) 0 (3 : Nat), .own 1 0 ((s.2.2).length), .int .i64 s.1, .top, .top, .top, .top, .top, .top, .top, .top, .top, .top, .top, .top, .top, .top, .top, .top, .top, .top, .top, .top, .top, .top, .top, .top, .top, .top, .top, .top, .top, .top, .top, .top, .top, .top, .top, .top, .top, .top, .top, .top, .top, .top, .top, .top, .top, .top, .top, .top, .top, .top, .top, .top, .top, .top, .top, .top, .top, .top, .top, .top, .top, .top, .top, .top, .top, .top, .top, .top, .top, .top, .top, .top, .top, .top, .top, .top, .top, .top, .top, .top, .top, .top, .top, .top, .top, .top, .top, .top, .top, .top, .top, .top, .top, .top, .top, .top, .top, .top, .top, .top, .top, .top, .top, .top, .top], [.gen [.nilslc, .nilslc, .flt .f32 s.2.1] false 0, .row (.f32 s.2.2) 0])) | .inr s => ( ([.bslc (BR.root 0) (.f32 v194), .bslc (BR.root 1) (.f32 v195), .top, .top, .top, .top, .ptr 0 (0 : Nat) 0 (3 : Nat), .own 1 0 ((s.2.2.1).length), .int .i64 s.1, .top, .top, .top, .top, .top, .top, .top, .top, .top, .top, .top, .top, .top, .top, .top, .top, .top, .top, .top, .top, .top, .top, .top, .top, .top, .top, .top, .top, .top, .top, .top, .top, .top, .top, .top, .top, .top, .top, .top, .top, .top, .top, .top, .top, .top, .top, .top, .top, .top, .top, .top, .top, .top, .top, .top, .top, .top, .top, .top, .top, .top, .top, .top, .top, .top, .top, .top, .top, .top, .top, .top, .top, .top, .top, .top, .top, .top, .top, .top, .top, .top, .top, .top, .top, .top, .top, .top, .top, .top, .top, .top, .top, .top, .top, .top, .top, .top, .top, .top, .top, .top, .top, .top, .top, .top], [.gen [.own 2 0 ((s.2.2.2.1).length), .own 3 0 ((s.2.2.2.2).length), .flt .f32 s.2.1] false 0, .row (.f32 s.2.2.1) 0, .row (.f32 s.2.2.2.1) 0, .row (.f32 s.2.2.2.2) 0]))) 
def impl_ShiftSolve_l0_X (v194 : List Nat) (v195 : List Nat) (x : (Unit) ⊕ ((List Nat))) : Out := (match x with | .inl x => (.ret, [.top, .top, .top, .top, .nilslc, .lit false, .top, .top, .top, .top, .top, .top, .top, .top, .top, .top, .top, .top, .top, .top, .top, .top, .top, .top, .top, .top, .top, .top, .top, .top, .top, .top, .top, .top, .top, .top, .top, .top, .top, .top, .top, .top, .top, .top, .top, .top, .top, .top, .top, .top, .top, .top, .top, .top, .top, .top, .top, .top, .top, .top, .top, .top, .top, .top, .top, .top, .top, .top, .top, .top, .top, .top, .top, .top, .top, .top, .top, .top, .top, .top, .top, .top, .top, .top, .top, .top, .top, .top, .top, .top, .top, .top, .top, .top, .top, .top, .top, .top, .top, .top, .top, .top, .top, .top, .top, .top, .top, .top, .top, .top, .top, .top, .top, .top], []) | .inr x => (.normal, [.top, .top, .top, .top, .top, .top, .top, .own 0 0 ((x).length), .top, .top, .top, .top, .top, .top, .top, .top, .top, .top, .top, .top, .top, .top, .top, .top, .top, .top, .top, .top, .top, .top, .top, .top, .top, .top, .top, .top, .top, .top, .top, .top, .top, .top, .top, .top, .top, .top, .top, .top, .top, .top, .top, .top, .top, .top, .top, .top, .top, .top, .top, .top, .top, .top, .top, .top, .top, .top, .top, .top, .top, .top, .top, .top, .top, .top, .top, .top, .top, .top, .top, .top, .top, .top, .top, .top, .top, .top, .top, .top, .top, .top, .top, .top, .top, .top, .top, .top, .top, .top, .top, .top, .top, .top, .top, .top, .top, .top, .top, .top, .top, .top, .top, .top, .top, .top], [.row (.f32 x) 0]))
def impl_ShiftSolve_l0_kill : List Nat := [0, 0, 1, 1, 1, 1, 0, 0, 0, 1, 1, 1, 1, 1, 1, 1, 1, 1, 1, 1, 1, 1, 1, 1, 1, 1, 1, 1, 1, 1, 1, 1, 1, 1, 1, 1, 1, 1, 1, 1, 1, 1, 1, 1, 1, 1, 1, 1, 1, 1, 1, 1, 1, 1, 1, 1, 1, 1, 1, 1, 1, 1, 1, 1, 1, 1, 1, 1, 1, 1, 1, 1, 1, 1, 1, 1, 1, 1, 1, 1, 1, 1, 1, 1, 1, 1, 1, 1, 1, 1, 1, 1, 1, 1, 1, 1, 1, 1, 1, 1, 1, 1, 1, 1, 1, 1, 1, 1, 1, 1, 1, 1, 1, 1]
def impl_ShiftSolve_l0_nx : Exit → List Nat
  | .exit 0 => [1, 1, 1, 1, 1, 1, 1, 0, 1, 1, 1, 1, 1, 1, 1, 1, 1, 1, 1, 1, 1, 1, 1, 1, 1, 1, 1, 1, 1, 1, 1, 1, 1, 1, 1, 1, 1, 1, 1, 1, 1, 1, 1, 1, 1, 1, 1, 1, 1, 1, 1, 1, 1, 1, 1, 1, 1, 1, 1, 1, 1, 1, 1, 1, 1, 1, 1, 1, 1, 1, 1, 1, 1, 1, 1, 1, 1, 1, 1, 1, 1, 1, 1, 1, 1, 1, 1, 1, 1, 1, 1, 1, 1, 1, 1, 1, 1, 1, 1, 1, 1, 1, 1, 1, 1, 1, 1, 1, 1, 1, 1, 1, 1, 1]
  | .ret => [1, 1, 1, 1, 0, 0, 1, 1, 1, 1, 1, 1, 1, 1, 1, 1, 1, 1, 1, 1, 1, 1, 1, 1, 1, 1, 1, 1, 1, 1, 1, 1, 1, 1, 1, 1, 1, 1, 1, 1, 1, 1, 1, 1, 1, 1, 1, 1, 1, 1, 1, 1, 1, 1, 1, 1, 1, 1, 1, 1, 1, 1, 1, 1, 1, 1, 1, 1, 1, 1, 1, 1, 1, 1, 1, 1, 1, 1, 1, 1, 1, 1, 1, 1, 1, 1, 1, 1, 1, 1, 1, 1, 1, 1, 1, 1, 1, 1, 1, 1, 1, 1, 1, 1, 1, 1, 1, 1, 1, 1, 1, 1, 1, 1]
  | _ => []
noncomputable def impl_ShiftSolve_LO (v194 : List Nat) (v195 : List Nat) : LOr := fun id e L =>
  match id with
  | 2 => .need (normA 0 impl_ShiftSolve_l2_kill e L = some (impl_ShiftSolve_l2_E v194 v195 (gI (vAt e 8)) (gI (vAt e 54)) (gF (cAt L (vAt e 6) 2)) (gRF L (vAt e 7)) (gRF L (cAt L (vAt e 6) 0)) (gRF L (cAt L (vAt e 6) 1)) ((gF (vAt e 9)), (gI (vAt e 55))))) (.call (impl_ShiftSolve_l2_g v194 (gI (vAt e 8)) (gI (vAt e 54)) (gF (cAt L (vAt e 6) 2)) (gRF L (vAt e 7)) (gRF L (cAt L (vAt e 6) 0)) (gRF L (cAt L (vAt e 6) 1)) ((gF (vAt e 9)), (gI (vAt e 55)))) fun x => .leaf (impl_ShiftSolve_l2_X v194 v195 (gI (vAt e 8)) (gI (vAt e 54)) (gF (cAt L (vAt e 6) 2)) (gRF L (vAt e 7)) (gRF L (cAt L (vAt e 6) 0)) (gRF L (cAt L (vAt e 6) 1)) x))
  | 4 => .need (normA 0 impl_ShiftSolve_l4_kill e L = some (impl_ShiftSolve_l4_E v194 v195 (gI (vAt e 8)) (gF (vAt e 12)) (gI (vAt e 83)) (gF (cAt L (vAt e 6) 2)) (gRF L (cAt L (vAt e 6) 0)) (gRF L (cAt L (vAt e 6) 1)) ((gI (vAt e 84)), (gRF L (vAt e 7))))) (.call (impl_ShiftSolve_l4_g (gI (vAt e 8)) (gF (vAt e 12)) (gI (vAt e 83)) (gF (cAt L (vAt e 6) 2)) (gRF L (cAt L (vAt e 6) 0)) (gRF L (cAt L (vAt e 6) 1)) ((gI (vAt e 84)), (gRF L (vAt e 7)))) fun x => .leaf (impl_ShiftSolve_l4_X v194 v195 (gI (vAt e 8)) (gF (vAt e 12)) (gI (vAt e 83)) (gF (cAt L (vAt e 6) 2)) (gRF L (cAt L (vAt e 6) 0)) (gRF L (cAt L (vAt e 6) 1)) x))
  | 0 => .need (normA 0 impl_ShiftSolve_l0_kill e L = some (impl_ShiftSolve_l0_E v194 v195 (.inl ((gI (vAt e 8)), (gF (cAt L (vAt e 6) 2)), (gRF L (vAt e 7)))))) (.call (impl_ShiftSolve_l0_g v194 v195 (.inl ((gI (vAt e 8)), (gF (cAt L (vAt e 6) 2)), (gRF L (vAt e 7))))) fun x => .sum x (fun b0 => .leaf (impl_ShiftSolve_l0_X v194 v195 (.inl b0))) (fun c0 => .leaf (impl_ShiftSolve_l0_X v194 v195 (.inr c0))))
  | _ => .fail
noncomputable def impl_ShiftSolve_tab : List (FuncId × DFn × Bool) := [(91, impl_isShiftList_F, true), (68, impl_areFinite_F, true), (92, (orL (fun args L => match args with | [x1, _, _] => (match cellsAt L x1 with | [.nilslc, .nilslc, _] => true | _ => false) | _ => false) impl_reflections_next_i1_F impl_reflections_next_F), false), (65, impl_mul_F, true), (93, impl_allFinite_F, true)]
theorem impl_ShiftSolve_hO : OrcOk Try.prog (tabD impl_ShiftSolve_tab) (tabM impl_ShiftSolve_tab) := tabD_cons impl_isShiftList_Fok (tabD_cons impl_areFinite_Fok (tabD_cons (orL_ok impl_reflections_next_i1_Fok impl_reflections_next_Fok) (tabD_cons impl_mul_Fok (tabD_cons impl_allFinite_Fok (tabD_nil _)))))
theorem impl_ShiftSolve_l2_be (v194 : List Nat) (v195 : List Nat) (v613 : Int) (v615 : Int) (v617 : Nat) (v618 : List Nat) (v619 : List Nat) (v620 : List Nat) (s : Nat × Int) : bodyT TT (tabD impl_ShiftSolve_tab) (tabM impl_ShiftSolve_tab) (impl_ShiftSolve_LO v194 v195) 0 impl_ShiftSolve_l2_kill impl_ShiftSolve_l2_nx (bodyOf Try.f34 2) 2 (impl_ShiftSolve_l2_E v194 v195 v613 v615 v617 v618 v619 v620 s) = (impl_ShiftSolve_l2_T v194 v613 v615 v617 v618 v619 v620 s).bind fun y => .leaf (outS (impl_ShiftSolve_l2_E v194 v195 v613 v615 v617 v618 v619 v620) (impl_ShiftSolve_l2_X v194 v195 v613 v615 v617 v618 v619 v620) y) := by kernel_rfl
theorem impl_ShiftSolve_l2_ok (v194 : List Nat) (v195 : List Nat) : LSound Try.prog 0 (impl_ShiftSolve_LO v194 v195) 2 (bodyOf Try.f34 2) := by
  intro e L out h
  exact lo_ok (E := impl_ShiftSolve_l2_E v194 v195 (gI (vAt e 8)) (gI (vAt e 54)) (gF (cAt L (vAt e 6) 2)) (gRF L (vAt e 7)) (gRF L (cAt L (vAt e 6) 0)) (gRF L (cAt L (vAt e 6) 1))) (gT := impl_ShiftSolve_l2_T v194 (gI (vAt e 8)) (gI (vAt e 54)) (gF (cAt L (vAt e 6) 2)) (gRF L (vAt e 7)) (gRF L (cAt L (vAt e 6) 0)) (gRF L (cAt L (vAt e 6) 1))) (X := impl_ShiftSolve_l2_X v194 v195 (gI (vAt e 8)) (gI (vAt e 54)) (gF (cAt L (vAt e 6) 2)) (gRF L (vAt e 7)) (gRF L (cAt L (vAt e 6) 0)) (gRF L (cAt L (vAt e 6) 1))) (s0 := ((gF (vAt e 9)), (gI (vAt e 55)))) tok impl_ShiftSolve_hO mixed (LoopsOk_eq (l := []) (by kernel_rfl) trivial) (impl_ShiftSolve_l2_be v194 v195 (gI (vAt e 8)) (gI (vAt e 54)) (gF (cAt L (vAt e 6) 2)) (gRF L (vAt e 7)) (gRF L (cAt L (vAt e 6) 0)) (gRF L (cAt L (vAt e 6) 1))) rfl (by intro x; rfl) h
theorem impl_ShiftSolve_l4_be (v194 : List Nat) (v195 : List Nat) (v638 : Int) (v639 : Nat) (v640 : Int) (v642 : Nat) (v644 : List Nat) (v645 : List Nat) (s : Int × (List Nat)) : bodyT TT (tabD impl_ShiftSolve_tab) (tabM impl_ShiftSolve_tab) (impl_ShiftSolve_LO v194 v195) 0 impl_ShiftSolve_l4_kill impl_ShiftSolve_l4_nx (bodyOf Try.f34 4) 4 (impl_ShiftSolve_l4_E v194 v195 v638 v639 v640 v642 v644 v645 s) = (impl_ShiftSolve_l4_T v638 v639 v640 v642 v644 v645 s).bind fun y => .leaf (outS (impl_ShiftSolve_l4_E v194 v195 v638 v639 v640 v642 v644 v645) (impl_ShiftSolve_l4_X v194 v195 v638 v639 v640 v642 v644 v645) y) := by kernel_rfl
theorem impl_ShiftSolve_l4_ok (v194 : List Nat) (v195 : List Nat) : LSound Try.prog 0 (impl_ShiftSolve_LO v194 v195) 4 (bodyOf Try.f34 4) := by
  intro e L out h
  exact lo_ok (E := impl_ShiftSolve_l4_E v194 v195 (gI (vAt e 8)) (gF (vAt e 12)) (gI (vAt e 83)) (gF (cAt L (vAt e 6) 2)) (gRF L (cAt L (vAt e 6) 0)) (gRF L (cAt L (vAt e 6) 1))) (gT := impl_ShiftSolve_l4_T (gI (vAt e 8)) (gF (vAt e 12)) (gI (vAt e 83)) (gF (cAt L (vAt e 6) 2)) (gRF L (cAt L (vAt e 6) 0)) (gRF L (cAt L (vAt e 6) 1))) (X := impl_ShiftSolve_l4_X v194 v195 (gI (vAt e 8)) (gF (vAt e 12)) (gI (vAt e 83)) (gF (cAt L (vAt e 6) 2)) (gRF L (cAt L (vAt e 6) 0)) (gRF L (cAt L (vAt e 6) 1))) (s0 := ((gI (vAt e 84)), (gRF L (vAt e 7)))) tok impl_ShiftSolve_hO mixed (LoopsOk_eq (l := []) (by kernel_rfl) trivial) (impl_ShiftSolve_l4_be v194 v195 (gI (vAt e 8)) (gF (vAt e 12)) (gI (vAt e 83)) (gF (cAt L (vAt e 6) 2)) (gRF L (cAt L (vAt e 6) 0)) (gRF L (cAt L (vAt e 6) 1))) rfl (by intro x; rfl) h
theorem impl_ShiftSolve_l0_be0 (v194 : List Nat) (v195 : List Nat) (s : Int × Nat × (List Nat)) : bodyT TT (tabD impl_ShiftSolve_tab) (tabM impl_ShiftSolve_tab) (impl_ShiftSolve_LO v194 v195) 0 impl_ShiftSolve_l0_kill impl_ShiftSolve_l0_nx (bodyOf Try.f34 0) 0 (impl_ShiftSolve_l0_E v194 v195 (.inl s)) = (impl_ShiftSolve_l0_T v194 v195 (.inl s)).bind fun y => .leaf (outS (impl_ShiftSolve_l0_E v194 v195) (impl_ShiftSolve_l0_X v194 v195) y) := by kernel_rfl
theorem impl_ShiftSolve_l0_be1 (v194 : List Nat) (v195 : List Nat) (s : Int × Nat × (List Nat) × (List Nat) × (List Nat)) : bodyT TT (tabD impl_ShiftSolve_tab) (tabM impl_ShiftSolve_tab) (impl_ShiftSolve_LO v194 v195) 0 impl_ShiftSolve_l0_kill impl_ShiftSolve_l0_nx (bodyOf Try.f34 0) 0 (impl_ShiftSolve_l0_E v194 v195 (.inr s)) = (impl_ShiftSolve_l0_T v194 v195 (.inr s)).bind fun y => .leaf (outS (impl_ShiftSolve_l0_E v194 v195) (impl_ShiftSolve_l0_X v194 v195) y) := by kernel_rfl
theorem impl_ShiftSolve_l0_be (v194 : List Nat) (v195 : List Nat) (s : (Int × Nat × (List Nat)) ⊕ (Int × Nat × (List Nat) × (List Nat) × (List Nat))) : bodyT TT (tabD impl_ShiftSolve_tab) (tabM impl_ShiftSolve_tab) (impl_ShiftSolve_LO v194 v195) 0 impl_ShiftSolve_l0_kill impl_ShiftSolve_l0_nx (bodyOf Try.f34 0) 0 (impl_ShiftSolve_l0_E v194 v195 s) = (impl_ShiftSolve_l0_T v194 v195 s).bind fun y => .leaf (outS (impl_ShiftSolve_l0_E v194 v195) (impl_ShiftSolve_l0_X v194 v195) y) := by 
  rcases s with s | s
  · exact impl_ShiftSolve_l0_be0 v194 v195 s
  · exact impl_ShiftSolve_l0_be1 v194 v195 s
theorem impl_ShiftSolve_l0_ok (v194 : List Nat) (v195 : List Nat) : LSound Try.prog 0 (impl_ShiftSolve_LO v194 v195) 0 (bodyOf Try.f34 0) := by
  intro e L out h
  exact lo_ok (E := impl_ShiftSolve_l0_E v194 v195) (gT := impl_ShiftSolve_l0_T v194 v195) (X := impl_ShiftSolve_l0_X v194 v195) (s0 := .inl ((gI (vAt e 8)), (gF (cAt L (vAt e 6) 2)), (gRF L (vAt e 7)))) tok impl_ShiftSolve_hO mixed (LoopsOk_eq (l := [(2, bodyOf Try.f34 2), (4, bodyOf Try.f34 4)]) (by kernel_rfl) ⟨impl_ShiftSolve_l2_ok v194 v195, impl_ShiftSolve_l4_ok v194 v195, trivial⟩) (impl_ShiftSolve_l0_be v194 v195) rfl (by intro x; (cases x with | inl b => rfl | inr x => exact rfl)) h
noncomputable def impl_ShiftSolve_T (v194 : List Nat) (v195 : List Nat) : Tree ((Unit) ⊕ ((List Nat))) :=
  (.call (impl_isShiftList_g v194) fun v222 =>
  (.br (!v222) (
   .leaf (.inl ())
  ) (
   (.br (!decide (((v195.length : Nat) : Int) = ((v194.length : Nat) : Int))) (
    .leaf (.inl ())
   ) (
    (.call (impl_areFinite_g v195) fun v223 =>
    (.br (!v223) (
     .leaf (.inl ())
    ) (
     (.grd (inb (0 : Int) v194.length) <|
     (.grd (inb (0 : Int) v195.length) <|
     (.grd (inb (0 : Int) v194.length) <|
     (.need (some (impl_ShiftSolve_l0_E v194 v195 (.inl ((1 : Int), nth v194 (Int.toNat (0 : Int)), ([fdiv .f32 (nth v195 (Int.toNat (0 : Int))) (nth v194 (Int.toNat (0 : Int)))] : List Nat)))) = some (impl_ShiftSolve_l0_E v194 v195 (.inl ((1 : Int), nth v194 (Int.toNat (0 : Int)), ([fdiv .f32 (nth v195 (Int.toNat (0 : Int))) (nth v194 (Int.toNat (0 : Int)))] : List Nat))))) <|
     (.call (impl_ShiftSolve_l0_g v194 v195 (.inl ((1 : Int), nth v194 (Int.toNat (0 : Int)), ([fdiv .f32 (nth v195 (Int.toNat (0 : Int))) (nth v194 (Int.toNat (0 : Int)))] : List Nat)))) fun v698 =>
     (.sum v698 (fun v699 =>
      .leaf (.inl ())
     ) (fun v700 =>
      (.call (impl_allFinite_g v700) fun v703 =>
      (.sum v703 (fun v704 =>
       .leaf (.inl ())
      ) (fun v705 =>
       .leaf (.inr v700)
      )))
     )))))))
    )))
   ))
  )))

noncomputable def impl_ShiftSolve_g (v194 : List Nat) (v195 : List Nat) : Option ((Unit) ⊕ ((List Nat))) := (impl_ShiftSolve_T v194 v195).run
def impl_ShiftSolve_enc (v194 : List Nat) (v195 : List Nat) (y : (Unit) ⊕ ((List Nat))) : Rs := (match y with | .inl y => (.tup [.nilslc, .lit false], []) | .inr y => (.tup [.own 0 0 ((y).length), .lit true], [.row (.f32 y) 0]))
theorem impl_ShiftSolve_den (v194 : List Nat) (v195 : List Nat) : (den TT (tabD impl_ShiftSolve_tab) (tabM impl_ShiftSolve_tab) (impl_ShiftSolve_LO v194 v195) (codeOf Try.f34) ([.bslc (BR.root 0) (.f32 v194), .bslc (BR.root 1) (.f32 v195)] ++ List.replicate (Try.f34.ntmps - ([.bslc (BR.root 0) (.f32 v194), .bslc (BR.root 1) (.f32 v195)] : List DV).length) .undef) []).bind (retD TT Try.f34.results.toList 0) = (impl_ShiftSolve_T v194 v195).bind fun y => .leaf (impl_ShiftSolve_enc v194 v195 y) := by kernel_rfl
theorem impl_ShiftSolve_fn (v194 : List Nat) (v195 : List Nat) (F : Fr) (hm : F.ids.length = 0) (h0 : St F [] F.H0) (hA : DVs.Ok F [] [.bslc (BR.root 0) (.f32 v194), .bslc (BR.root 1) (.f32 v195)]) {y : (Unit) ⊕ ((List Nat))} (hy : impl_ShiftSolve_g v194 v195 = some y) : ∃ H', FnOk Try.prog 34 (DVs.av F [.bslc (BR.root 0) (.f32 v194), .bslc (BR.root 1) (.f32 v195)]) F.H0 ((impl_ShiftSolve_enc v194 v195 y).1.av F) H' ∧ St F (impl_ShiftSolve_enc v194 v195 y).2 H' ∧ (impl_ShiftSolve_enc v194 v195 y).1.Ok F (impl_ShiftSolve_enc v194 v195 y).2 :=
  fn_fin tok impl_ShiftSolve_hO mixed Try.func34 Try.call34 (by kernel_rfl) (LoopsOk_eq (l := [(0, bodyOf Try.f34 0)]) (by kernel_rfl) ⟨impl_ShiftSolve_l0_ok v194 v195, trivial⟩) (impl_ShiftSolve_den v194 v195) hy hm h0 hA
noncomputable def impl_ShiftSolve_F : DFn := fun args L =>
  match args with
  | [a1, a2] =>
    optT (rowF32 L a1) fun v194 =>
    optT (rowF32 L a2) fun v195 =>
    .call (impl_ShiftSolve_g v194 v195) fun y => .sum y (fun y0 => .leaf (.tup [.nilslc, .lit false], L)) (fun z0 => .leaf (.tup [.own (L.length + 0) 0 ((z0).length), .lit true], L ++ [.row (.f32 z0) 0]))
  | _ => .fail
theorem impl_ShiftSolve_Fok : COk Try.prog 34 impl_ShiftSolve_F true := by
  intro F L H args r L' hs ha hr
  unfold impl_ShiftSolve_F at hr
  split at hr
  · rename_i a1 a2
    obtain ⟨v194, hv194, hr⟩ := optT_run hr
    obtain ⟨v195, hv195, hr⟩ := optT_run hr
    simp only [Tree.run] at hr
    obtain ⟨y, hy, hr⟩ := Option.bind_eq_some_iff.1 hr
    cases y with
    | inl y =>
      simp only [Tree.run, Option.some.injEq, Prod.mk.injEq] at hr
      obtain ⟨rfl, rfl⟩ := hr
      exact call_ok0 hs (fun k => (([a1.av F, a2.av F] : List AV)[k]?).getD .top) [a1, a2] [.bslc (BR.root 0) (.f32 v194), .bslc (BR.root 1) (.f32 v195)] (fun F' h0 hi hρ => ⟨by simp [DVs.av, DV.av, BR.av, hρ], impl_ShiftSolve_fn v194 v195 F' (by rw [hi]; rfl) (st_nil hi) ⟨bslc_ok hi (by rw [h0, hρ]; exact rowF32_ok hs (DVs.okAt ha 0 rfl) hv194), bslc_ok hi (by rw [h0, hρ]; exact rowF32_ok hs (DVs.okAt ha 1 rfl) hv195), trivial⟩ hy⟩) rfl
    | inr y =>
      simp only [Tree.run, Option.some.injEq, Prod.mk.injEq] at hr
      obtain ⟨rfl, rfl⟩ := hr
      exact call_ok1 hs (fun k => (([a1.av F, a2.av F] : List AV)[k]?).getD .top) [a1, a2] [.bslc (BR.root 0) (.f32 v194), .bslc (BR.root 1) (.f32 v195)] (fun F' h0 hi hρ => ⟨by simp [DVs.av, DV.av, BR.av, hρ], impl_ShiftSolve_fn v194 v195 F' (by rw [hi]; rfl) (st_nil hi) ⟨bslc_ok hi (by rw [h0, hρ]; exact rowF32_ok hs (DVs.okAt ha 0 rfl) hv194), bslc_ok hi (by rw [h0, hρ]; exact rowF32_ok hs (DVs.okAt ha 1 rfl) hv195), trivial⟩ hy⟩) rfl rfl
  · cases hr
/-! laws.sameFloat -/
noncomputable def laws_sameFloat_LO (v712 : Nat) (v713 : Nat) : LOr := fun id e L =>
  match id with
  | _ => .fail
noncomputable def laws_sameFloat_tab : List (FuncId × DFn × Bool) := []
theorem laws_sameFloat_hO : OrcOk Try.prog (tabD laws_sameFloat_tab) (tabM laws_sameFloat_tab) := tabD_nil _
noncomputable def laws_sameFloat_T (v712 : Nat) (v713 : Nat) : Tree (Bool) :=
  (.br (!feq .f64 v712 v712) (
   (.br (!feq .f64 v712 v712) (
    .leaf (!feq .f64 v713 v713)
   ) (
    .leaf false
   ))
  ) (
   (.br (!feq .f64 v713 v713) (
    (.br (!feq .f64 v712 v712) (
     .leaf (!feq .f64 v713 v713)
    ) (
     .leaf false
    ))
   ) (
    (.br (feq .f64 v712 (0 : Nat)) (
     (.br (feq .f64 v713 (0 : Nat)) (
      .leaf ((fgrt .f64 (fdiv .f64 (4607182418800017408 : Nat) v712) (0 : Nat)) == (fgrt .f64 (fdiv .f64 (4607182418800017408 : Nat) v713) (0 : Nat)))
     ) (
      .leaf (feq .f64 v712 v713)
     ))
    ) (
     .leaf (feq .f64 v712 v713)
    ))
   ))
  ))

noncomputable def laws_sameFloat_g (v712 : Nat) (v713 : Nat) : Option (Bool) := (laws_sameFloat_T v712 v713).run
def laws_sameFloat_enc (v712 : Nat) (v713 : Nat) (y : Bool) : Rs := (.bool y, [])
theorem laws_sameFloat_den (v712 : Nat) (v713 : Nat) : (den TT (tabD laws_sameFloat_tab) (tabM laws_sameFloat_tab) (laws_sameFloat_LO v712 v713) (codeOf Try.f31) ([.flt .f64 v712, .flt .f64 v713] ++ List.replicate (Try.f31.ntmps - ([.flt .f64 v712, .flt .f64 v713] : List DV).length) .undef) []).bind (retD TT Try.f31.results.toList 0) = (laws_sameFloat_T v712 v713).bind fun y => .leaf (laws_sameFloat_enc v712 v713 y) := by kernel_rfl
theorem laws_sameFloat_fn (v712 : Nat) (v713 : Nat) (F : Fr) (hm : F.ids.length = 0) (h0 : St F [] F.H0) (hA : DVs.Ok F [] [.flt .f64 v712, .flt .f64 v713]) {y : Bool} (hy : laws_sameFloat_g v712 v713 = some y) : ∃ H', FnOk Try.prog 31 (DVs.av F [.flt .f64 v712, .flt .f64 v713]) F.H0 ((laws_sameFloat_enc v712 v713 y).1.av F) H' ∧ St F (laws_sameFloat_enc v712 v713 y).2 H' ∧ (laws_sameFloat_enc v712 v713 y).1.Ok F (laws_sameFloat_enc v712 v713 y).2 :=
  fn_fin tok laws_sameFloat_hO mixed Try.func31 Try.call31 (by kernel_rfl) (LoopsOk_eq (l := []) (by kernel_rfl) trivial) (laws_sameFloat_den v712 v713) hy hm h0 hA
def laws_sameFloat_v (v712 : Nat) (v713 : Nat) : Bool :=
  if (!feq .f64 v712 v712) = true then (
   if (!feq .f64 v712 v712) = true then (
    !feq .f64 v713 v713
   ) else (
    false
   )
  ) else (
   if (!feq .f64 v713 v713) = true then (
    if (!feq .f64 v712 v712) = true then (
     !feq .f64 v713 v713
    ) else (
     false
    )
   ) else (
    if (feq .f64 v712 (0 : Nat)) = true then (
     if (feq .f64 v713 (0 : Nat)) = true then (
      (fgrt .f64 (fdiv .f64 (4607182418800017408 : Nat) v712) (0 : Nat)) == (fgrt .f64 (fdiv .f64 (4607182418800017408 : Nat) v713) (0 : Nat))
     ) else (
      feq .f64 v712 v713
     )
    ) else (
     feq .f64 v712 v713
    )
   )
  )
theorem laws_sameFloat_tot (v712 : Nat) (v713 : Nat) : laws_sameFloat_g v712 v713 = some (laws_sameFloat_v v712 v713) := by
  unfold laws_sameFloat_g laws_sameFloat_T laws_sameFloat_v
  simp only [Tree.run]
  repeat' (first | rfl | split)
noncomputable def laws_sameFloat_F : DFn := fun args L =>
  match args with
  | [.flt .f64 v712, .flt .f64 v713] =>
    .leaf (.bool (laws_sameFloat_v v712 v713), L)
  | _ => .fail
theorem laws_sameFloat_Fok : COk Try.prog 31 laws_sameFloat_F true := by
  intro F L H args r L' hs ha hr
  unfold laws_sameFloat_F at hr
  split at hr
  · rename_i v712 v713
    have hy := laws_sameFloat_tot v712 v713
    generalize laws_sameFloat_v v712 v713 = y at hy hr
    simp only [Tree.run, Option.some.injEq, Prod.mk.injEq] at hr
    obtain ⟨rfl, rfl⟩ := hr
    exact call_ok0 hs (fun k => (([] : List AV)[k]?).getD .top) [.flt .f64 v712, .flt .f64 v713] [.flt .f64 v712, .flt .f64 v713] (fun F' h0 hi hρ => ⟨by simp [DVs.av, DV.av, BR.av, hρ], laws_sameFloat_fn v712 v713 F' (by rw [hi]; rfl) (st_nil hi) ⟨trivial, trivial, trivial⟩ hy⟩) rfl
  · cases hr
/-! laws.eqFloat32S -/
noncomputable def laws_eqFloat32S_l0_T (v709 : List Nat) (v710 : List Nat) (s : Int) : Tree ((Int) ⊕ ((Unit) ⊕ (Unit))) :=
  (.br (decide (s < ((v709.length : Nat) : Int))) (
   (.grd (inb s v709.length) <|
   (.grd (inb s v710.length) <|
   (.br (!(laws_sameFloat_v (wid (nth v709 (Int.toNat s))) (wid (nth v710 (Int.toNat s))))) (
    .leaf (.inr (.inl ()))
   ) (
    .leaf (.inl (IntKind.i64.wrap (s + (1 : Int))))
   ))))
  ) (
   .leaf (.inr (.inr ()))
  ))

noncomputable def laws_eqFloat32S_l0_g (v709 : List Nat) (v710 : List Nat) (s0 : Int) : Option ((Unit) ⊕ (Unit)) := whileM (fun s => (laws_eqFloat32S_l0_T v709 v710 s).run) s0
def laws_eqFloat32S_l0_E (v709 : List Nat) (v710 : List Nat) (s : Int) : Sd := ([.bslc (BR.root 0) (.f32 v709), .bslc (BR.root 1) (.f32 v710), .top, .top, .top, .int .i64 s, .top, .top, .top, .top, .top, .top, .top, .top, .top, .top, .top, .top, .top, .top, .top, .top, .top, .top, .top, .top, .top, .top, .top], [])
def laws_eqFloat32S_l0_X (v709 : List Nat) (v710 : List Nat) (x : (Unit) ⊕ (Unit)) : Out := (match x with | .inl x => (.ret, [.top, .top, .top, .top, .lit false, .top, .top, .top, .top, .top, .top, .top, .top, .top, .top, .top, .top, .top, .top, .top, .top, .top, .top, .top, .top, .top, .top, .top, .top], []) | .inr x => (.normal, [.top, .top, .top, .top, .top, .top, .top, .top, .top, .top, .top, .top, .top, .top, .top, .top, .top, .top, .top, .top, .top, .top, .top, .top, .top, .top, .top, .top, .top], []))
def laws_eqFloat32S_l0_kill : List Nat := [0, 0, 1, 1, 1, 0, 1, 1, 1, 1, 1, 1, 1, 1, 1, 1, 1, 1, 1, 1, 1, 1, 1, 1, 1, 1, 1, 1, 1]
def laws_eqFloat32S_l0_nx : Exit → List Nat
  | .exit 0 => [1, 1, 1, 1, 1, 1, 1, 1, 1, 1, 1, 1, 1, 1, 1, 1, 1, 1, 1, 1, 1, 1, 1, 1, 1, 1, 1, 1, 1]
  | .ret => [1, 1, 1, 1, 0, 1, 1, 1, 1, 1, 1, 1, 1, 1, 1, 1, 1, 1, 1, 1, 1, 1, 1, 1, 1, 1, 1, 1, 1]
  | _ => []
noncomputable def laws_eqFloat32S_LO (v709 : List Nat) (v710 : List Nat) : LOr := fun id e L =>
  match id with
  | 0 => .need (normA 0 laws_eqFloat32S_l0_kill e L = some (laws_eqFloat32S_l0_E v709 v710 (gI (vAt e 5)))) (.call (laws_eqFloat32S_l0_g v709 v710 (gI (vAt e 5))) fun x => .sum x (fun b0 => .leaf (laws_eqFloat32S_l0_X v709 v710 (.inl b0))) (fun c0 => .leaf (laws_eqFloat32S_l0_X v709 v710 (.inr c0))))
  | _ => .fail
noncomputable def laws_eqFloat32S_tab : List (FuncId × DFn × Bool) := [(31, laws_sameFloat_F, true)]
theorem laws_eqFloat32S_hO : OrcOk Try.prog (tabD laws_eqFloat32S_tab) (tabM laws_eqFloat32S_tab) := tabD_cons laws_sameFloat_Fok (tabD_nil _)
theorem laws_eqFloat32S_l0_be (v709 : List Nat) (v710 : List Nat) (s : Int) : bodyT TT (tabD laws_eqFloat32S_tab) (tabM laws_eqFloat32S_tab) (laws_eqFloat32S_LO v709 v710) 0 laws_eqFloat32S_l0_kill laws_eqFloat32S_l0_nx (bodyOf Try.f20 0) 0 (laws_eqFloat32S_l0_E v709 v710 s) = (laws_eqFloat32S_l0_T v709 v710 s).bind fun y => .leaf (outS (laws_eqFloat32S_l0_E v709 v710) (laws_eqFloat32S_l0_X v709 v710) y) := by kernel_rfl
theorem laws_eqFloat32S_l0_ok (v709 : List Nat) (v710 : List Nat) : LSound Try.prog 0 (laws_eqFloat32S_LO v709 v710) 0 (bodyOf Try.f20 0) := by
  intro e L out h
  exact lo_ok (E := laws_eqFloat32S_l0_E v709 v710) (gT := laws_eqFloat32S_l0_T v709 v710) (X := laws_eqFloat32S_l0_X v709 v710) (s0 := (gI (vAt e 5))) tok laws_eqFloat32S_hO mixed (LoopsOk_eq (l := []) (by kernel_rfl) trivial) (laws_eqFloat32S_l0_be v709 v710) rfl (by intro x; (cases x with | inl b => rfl | inr x => exact rfl)) h
noncomputable def laws_eqFloat32S_T (v709 : List Nat) (v710 : List Nat) : Tree (Bool) :=
  (.br (!decide (((v709.length : Nat) : Int) = ((v710.length : Nat) : Int))) (
   .leaf false
  ) (
   (.need (some (laws_eqFloat32S_l0_E v709 v710 (0 : Int)) = some (laws_eqFloat32S_l0_E v709 v710 (0 : Int))) <|
   (.call (laws_eqFloat32S_l0_g v709 v710 (0 : Int)) fun v716 =>
   (.sum v716 (fun v717 =>
    .leaf false
   ) (fun v718 =>
    .leaf true
   ))))
  ))

noncomputable def laws_eqFloat32S_g (v709 : List Nat) (v710 : List Nat) : Option (Bool) := (laws_eqFloat32S_T v709 v710).run
def laws_eqFloat32S_enc (v709 : List Nat) (v710 : List Nat) (y : Bool) : Rs := (.bool y, [])
theorem laws_eqFloat32S_den (v709 : List Nat) (v710 : List Nat) : (den TT (tabD laws_eqFloat32S_tab) (tabM laws_eqFloat32S_tab) (laws_eqFloat32S_LO v709 v710) (codeOf Try.f20) ([.bslc (BR.root 0) (.f32 v709), .bslc (BR.root 1) (.f32 v710)] ++ List.replicate (Try.f20.ntmps - ([.bslc (BR.root 0) (.f32 v709), .bslc (BR.root 1) (.f32 v710)] : List DV).length) .undef) []).bind (retD TT Try.f20.results.toList 0) = (laws_eqFloat32S_T v709 v710).bind fun y => .leaf (laws_eqFloat32S_enc v709 v710 y) := by kernel_rfl
theorem laws_eqFloat32S_fn (v709 : List Nat) (v710 : List Nat) (F : Fr) (hm : F.ids.length = 0) (h0 : St F [] F.H0) (hA : DVs.Ok F [] [.bslc (BR.root 0) (.f32 v709), .bslc (BR.root 1) (.f32 v710)]) {y : Bool} (hy : laws_eqFloat32S_g v709 v710 = some y) : ∃ H', FnOk Try.prog 20 (DVs.av F [.bslc (BR.root 0) (.f32 v709), .bslc (BR.root 1) (.f32 v710)]) F.H0 ((laws_eqFloat32S_enc v709 v710 y).1.av F) H' ∧ St F (laws_eqFloat32S_enc v709 v710 y).2 H' ∧ (laws_eqFloat32S_enc v709 v710 y).1.Ok F (laws_eqFloat32S_enc v709 v710 y).2 :=
  fn_fin tok laws_eqFloat32S_hO mixed Try.func20 Try.call20 (by kernel_rfl) (LoopsOk_eq (l := [(0, bodyOf Try.f20 0)]) (by kernel_rfl) ⟨laws_eqFloat32S_l0_ok v709 v710, trivial⟩) (laws_eqFloat32S_den v709 v710) hy hm h0 hA
noncomputable def laws_eqFloat32S_F : DFn := fun args L =>
  match args with
  | [a1, a2] =>
    optT (rowF32 L a1) fun v709 =>
    optT (rowF32 L a2) fun v710 =>
    .call (laws_eqFloat32S_g v709 v710) fun y => .leaf (.bool y, L)
  | _ => .fail
theorem laws_eqFloat32S_Fok : COk Try.prog 20 laws_eqFloat32S_F true := by
  intro F L H args r L' hs ha hr
  unfold laws_eqFloat32S_F at hr
  split at hr
  · rename_i a1 a2
    obtain ⟨v709, hv709, hr⟩ := optT_run hr
    obtain ⟨v710, hv710, hr⟩ := optT_run hr
    simp only [Tree.run] at hr
    obtain ⟨y, hy, hr⟩ := Option.bind_eq_some_iff.1 hr
    simp only [Tree.run, Option.some.injEq, Prod.mk.injEq] at hr
    obtain ⟨rfl, rfl⟩ := hr
    exact call_ok0 hs (fun k => (([a1.av F, a2.av F] : List AV)[k]?).getD .top) [a1, a2] [.bslc (BR.root 0) (.f32 v709), .bslc (BR.root 1) (.f32 v710)] (fun F' h0 hi hρ => ⟨by simp [DVs.av, DV.av, BR.av, hρ], laws_eqFloat32S_fn v709 v710 F' (by rw [hi]; rfl) (st_nil hi) ⟨bslc_ok hi (by rw [h0, hρ]; exact rowF32_ok hs (DVs.okAt ha 0 rfl) hv709), bslc_ok hi (by rw [h0, hρ]; exact rowF32_ok hs (DVs.okAt ha 1 rfl) hv710), trivial⟩ hy⟩) rfl
  · cases hr
/-! laws.markFloat32S -/
noncomputable def laws_markFloat32S_l0_T (s : Int × Int × (List Nat)) : Tree ((Int × Int × (List Nat)) ⊕ (Int × (List Nat))) :=
  (.br (decide (s.2.1 < (((s.2.2).length : Nat) : Int))) (
   (.grd (inb s.2.1 ((s.2.2).length)) <|
   .leaf (.inl (IntKind.i64.wrap (s.1 + (1 : Int)), IntKind.i64.wrap (s.2.1 + (1 : Int)), List.set s.2.2 (Int.toNat s.2.1) (fofint .f32 s.1))))
  ) (
   .leaf (.inr (s.1, s.2.2))
  ))

noncomputable def laws_markFloat32S_l0_g (s0 : Int × Int × (List Nat)) : Option (Int × (List Nat)) := whileM (fun s => (laws_markFloat32S_l0_T s).run) s0
def laws_markFloat32S_l0_E (v728 : List Nat) (v729 : Int) (s : Int × Int × (List Nat)) : Sd := ([.own 0 0 ((s.2.2).length), .int .i64 s.1, .top, .top, .top, .int .i64 s.2.1, .top, .top, .top, .top, .top, .top, .top, .top, .top, .top, .top, .top, .top, .top], [.row (.f32 s.2.2) 0])
def laws_markFloat32S_l0_X (v728 : List Nat) (v729 : Int) (x : Int × (List Nat)) : Out := (.normal, [.top, .int .i64 x.1, .top, .top, .top, .top, .top, .top, .top, .top, .top, .top, .top, .top, .top, .top, .top, .top, .top, .top], [.row (.f32 x.2) 0])
def laws_markFloat32S_l0_kill : List Nat := [0, 0, 1, 1, 1, 0, 1, 1, 1, 1, 1, 1, 1, 1, 1, 1, 1, 1, 1, 1]
def laws_markFloat32S_l0_nx : Exit → List Nat
  | .exit 0 => [1, 0, 1, 1, 1, 1, 1, 1, 1, 1, 1, 1, 1, 1, 1, 1, 1, 1, 1, 1]
  | .ret => [1, 1, 1, 1, 0, 1, 1, 1, 1, 1, 1, 1, 1, 1, 1, 1, 1, 1, 1, 1]
  | _ => []
noncomputable def laws_markFloat32S_LO (v728 : List Nat) (v729 : Int) : LOr := fun id e L =>
  match id with
  | 0 => .need (normA 1 laws_markFloat32S_l0_kill e L = some (laws_markFloat32S_l0_E v728 v729 ((gI (vAt e 1)), (gI (vAt e 5)), (gRF L (vAt e 0))))) (.call (laws_markFloat32S_l0_g ((gI (vAt e 1)), (gI (vAt e 5)), (gRF L (vAt e 0)))) fun x => .leaf (laws_markFloat32S_l0_X v728 v729 x))
  | _ => .fail
noncomputable def laws_markFloat32S_tab : List (FuncId × DFn × Bool) := []
theorem laws_markFloat32S_hO : OrcOk Try.prog (tabD laws_markFloat32S_tab) (tabM laws_markFloat32S_tab) := tabD_nil _
theorem laws_markFloat32S_l0_be (v728 : List Nat) (v729 : Int) (s : Int × Int × (List Nat)) : bodyT TT (tabD laws_markFloat32S_tab) (tabM laws_markFloat32S_tab) (laws_markFloat32S_LO v728 v729) 1 laws_markFloat32S_l0_kill laws_markFloat32S_l0_nx (bodyOf Try.f22 0) 0 (laws_markFloat32S_l0_E v728 v729 s) = (laws_markFloat32S_l0_T s).bind fun y => .leaf (outS (laws_markFloat32S_l0_E v728 v729) (laws_markFloat32S_l0_X v728 v729) y) := by kernel_rfl
theorem laws_markFloat32S_l0_ok (v728 : List Nat) (v729 : Int) : LSound Try.prog 1 (laws_markFloat32S_LO v728 v729) 0 (bodyOf Try.f22 0) := by
  intro e L out h
  exact lo_ok (E := laws_markFloat32S_l0_E v728 v729) (gT := laws_markFloat32S_l0_T) (X := laws_markFloat32S_l0_X v728 v729) (s0 := ((gI (vAt e 1)), (gI (vAt e 5)), (gRF L (vAt e 0)))) tok laws_markFloat32S_hO mixed (LoopsOk_eq (l := []) (by kernel_rfl) trivial) (laws_markFloat32S_l0_be v728 v729) rfl (by intro x; rfl) h
noncomputable def laws_markFloat32S_T (v728 : List Nat) (v729 : Int) : Tree (Int × (List Nat)) :=
  (.need (some (laws_markFloat32S_l0_E v728 v729 (v729, (0 : Int), v728)) = some (laws_markFloat32S_l0_E v728 v729 (v729, (0 : Int), v728))) <|
  (.call (laws_markFloat32S_l0_g (v729, (0 : Int), v728)) fun v738 =>
  .leaf (v738.1, v738.2)))

noncomputable def laws_markFloat32S_g (v728 : List Nat) (v729 : Int) : Option (Int × (List Nat)) := (laws_markFloat32S_T v728 v729).run
def laws_markFloat32S_enc (v728 : List Nat) (v729 : Int) (y : Int × (List Nat)) : Rs := (.int .i64 y.1, [.row (.f32 y.2) 0])
theorem laws_markFloat32S_den (v728 : List Nat) (v729 : Int) : (den TT (tabD laws_markFloat32S_tab) (tabM laws_markFloat32S_tab) (laws_markFloat32S_LO v728 v729) (codeOf Try.f22) ([.own 0 0 v728.length, .int .i64 v729] ++ List.replicate (Try.f22.ntmps - ([.own 0 0 v728.length, .int .i64 v729] : List DV).length) .undef) [.row (.f32 v728) 0]).bind (retD TT Try.f22.results.toList 1) = (laws_markFloat32S_T v728 v729).bind fun y => .leaf (laws_markFloat32S_enc v728 v729 y) := by kernel_rfl
theorem laws_markFloat32S_fn (v728 : List Nat) (v729 : Int) (F : Fr) (hm : F.ids.length = 1) (h0 : St F [.row (.f32 v728) 0] F.H0) (hA : DVs.Ok F [.row (.f32 v728) 0] [.own 0 0 v728.length, .int .i64 v729]) {y : Int × (List Nat)} (hy : laws_markFloat32S_g v728 v729 = some y) : ∃ H', FnOk Try.prog 22 (DVs.av F [.own 0 0 v728.length, .int .i64 v729]) F.H0 ((laws_markFloat32S_enc v728 v729 y).1.av F) H' ∧ St F (laws_markFloat32S_enc v728 v729 y).2 H' ∧ (laws_markFloat32S_enc v728 v729 y).1.Ok F (laws_markFloat32S_enc v728 v729 y).2 :=
  fn_fin tok laws_markFloat32S_hO mixed Try.func22 Try.call22 (by kernel_rfl) (LoopsOk_eq (l := [(0, bodyOf Try.f22 0)]) (by kernel_rfl) ⟨laws_markFloat32S_l0_ok v728 v729, trivial⟩) (laws_markFloat32S_den v728 v729) hy hm h0 hA
noncomputable def laws_markFloat32S_F : DFn := fun args L =>
  match args with
  | [a1, .int .i64 v729] =>
    optT (ownF32 L a1) fun qv728 =>
    (match sepB [qv728.1] [] with
    | true =>
    .call (laws_markFloat32S_g qv728.2 v729) fun y => .grd (decide (y.2.length = qv728.2.length)) (.leaf (.int .i64 y.1, setRows L ([qv728.1].zip [.f32 y.2])))
    | false => .fail)
  | _ => .fail
theorem laws_markFloat32S_Fok : COk Try.prog 22 laws_markFloat32S_F false := by
  intro F L H args r L' hs ha hr
  unfold laws_markFloat32S_F at hr
  split at hr
  · rename_i a1 v729
    obtain ⟨⟨jv728, v728⟩, hqv728, hr⟩ := optT_run hr
    simp only at hr
    split at hr
    · rename_i hsep
      obtain ⟨hnd, hsepv⟩ := sepB_spec hsep
      simp only [Tree.run] at hr
      obtain ⟨y, hy, hr⟩ := Option.bind_eq_some_iff.1 hr
      try simp only [Tree.run] at hr
      obtain ⟨hl0, hr⟩ := ite_run hr
      simp only [Option.some.injEq, Prod.mk.injEq] at hr
      obtain ⟨rfl, rfl⟩ := hr
      obtain ⟨hr0, hu0, ha0, hb0⟩ := (ownR_spec (DVs.okAt ha 0 rfl) (ownF32_or hqv728))
      exact mut_ok hs (fun k => (([a1.av F] : List AV)[k]?).getD .top) [a1, .int .i64 v729] [.own 0 0 v728.length, .int .i64 v729] [jv728] [.f32 v728] [.f32 y.2] hnd rfl rfl (fun i j q h1 h2 => by
          rcases i with _ | i
          · simp at h1 h2; subst h1; subst h2; exact hr0
          · simp at h1) (fun i q q' h1 h2 => by
          rcases i with _ | i
          · simp at h1 h2; subst h1; subst h2; exact of_decide_eq_true hl0
          · simp at h1) (fun j hj => by simp at hj; subst hj; simp [DVs.refs, DV.refs, hu0]) (fun F' h0 hi hρ hst hS => ⟨by (have ab0 : F'.abs 0 = F.abs jv728 := (by simp [Fr.abs, hi]); simp [DVs.av, DV.av, BR.av, hρ, Row.len, ha0, ab0]), by
          obtain ⟨H1, k1, k2, _⟩ := laws_markFloat32S_fn v728 v729 F' (by rw [hi]; rfl) hst ⟨⟨_, rfl, Nat.le_refl _, Nat.le_refl _, fun _ => rfl, (ownR_spec (DVs.okAt ha 0 rfl) (ownF32_or hqv728)).2.2.2⟩, trivial, trivial⟩ hy
          exact ⟨H1, k1, k2⟩⟩) (fun F' => rfl) (fun L' => trivial)
    · cases hr
  · cases hr
/-! laws.markFloat32S -/
noncomputable def laws_markFloat32S_i1_l0_T (s : Unit) : Tree ((Unit) ⊕ (Unit)) :=
  (.br (decide ((0 : Int) < (0 : Int))) (
   .fail
  ) (
   .leaf (.inr ())
  ))

noncomputable def laws_markFloat32S_i1_l0_g (s0 : Unit) : Option (Unit) := whileM (fun s => (laws_markFloat32S_i1_l0_T s).run) s0
def laws_markFloat32S_i1_l0_E (v742 : Int) (s : Unit) : Sd := ([.nilslc, .int .i64 v742, .top, .top, .top, .int .i64 (0 : Int), .top, .top, .top, .top, .top, .top, .top, .top, .top, .top, .top, .top, .top, .top], [])
def laws_markFloat32S_i1_l0_X (v742 : Int) (x : Unit) : Out := (.normal, [.top, .int .i64 v742, .top, .top, .top, .top, .top, .top, .top, .top, .top, .top, .top, .top, .top, .top, .top, .top, .top, .top], [])
def laws_markFloat32S_i1_l0_kill : List Nat := [0, 0, 1, 1, 1, 0, 1, 1, 1, 1, 1, 1, 1, 1, 1, 1, 1, 1, 1, 1]
def laws_markFloat32S_i1_l0_nx : Exit → List Nat
  | .exit 0 => [1, 0, 1, 1, 1, 1, 1, 1, 1, 1, 1, 1, 1, 1, 1, 1, 1, 1, 1, 1]
  | .ret => [1, 1, 1, 1, 0, 1, 1, 1, 1, 1, 1, 1, 1, 1, 1, 1, 1, 1, 1, 1]
  | _ => []
noncomputable def laws_markFloat32S_i1_LO (v742 : Int) : LOr := fun id e L =>
  match id with
  | 0 => .need (normA 0 laws_markFloat32S_i1_l0_kill e L = some (laws_markFloat32S_i1_l0_E v742 ())) (.call (laws_markFloat32S_i1_l0_g ()) fun x => .leaf (laws_markFloat32S_i1_l0_X v742 x))
  | _ => .fail
noncomputable def laws_markFloat32S_i1_tab : List (FuncId × DFn × Bool) := []
theorem laws_markFloat32S_i1_hO : OrcOk Try.prog (tabD laws_markFloat32S_i1_tab) (tabM laws_markFloat32S_i1_tab) := tabD_nil _
theorem laws_markFloat32S_i1_l0_be (v742 : Int) (s : Unit) : bodyT TT (tabD laws_markFloat32S_i1_tab) (tabM laws_markFloat32S_i1_tab) (laws_markFloat32S_i1_LO v742) 0 laws_markFloat32S_i1_l0_kill laws_markFloat32S_i1_l0_nx (bodyOf Try.f22 0) 0 (laws_markFloat32S_i1_l0_E v742 s) = (laws_markFloat32S_i1_l0_T s).bind fun y => .leaf (outS (laws_markFloat32S_i1_l0_E v742) (laws_markFloat32S_i1_l0_X v742) y) := by kernel_rfl
theorem laws_markFloat32S_i1_l0_ok (v742 : Int) : LSound Try.prog 0 (laws_markFloat32S_i1_LO v742) 0 (bodyOf Try.f22 0) := by
  intro e L out h
  exact lo_ok (E := laws_markFloat32S_i1_l0_E v742) (gT := laws_markFloat32S_i1_l0_T) (X := laws_markFloat32S_i1_l0_X v742) (s0 := ()) tok laws_markFloat32S_i1_hO mixed (LoopsOk_eq (l := []) (by kernel_rfl) trivial) (laws_markFloat32S_i1_l0_be v742) rfl (by intro x; rfl) h
noncomputable def laws_markFloat32S_i1_T (v742 : Int) : Tree (Int) :=
  (.need (some (laws_markFloat32S_i1_l0_E v742 ()) = some (laws_markFloat32S_i1_l0_E v742 ())) <|
  (.call (laws_markFloat32S_i1_l0_g ()) fun v745 =>
  .leaf v742))

noncomputable def laws_markFloat32S_i1_g (v742 : Int) : Option (Int) := (laws_markFloat32S_i1_T v742).run
def laws_markFloat32S_i1_enc (v742 : Int) (y : Int) : Rs := (.int .i64 y, [])
theorem laws_markFloat32S_i1_den (v742 : Int) : (den TT (tabD laws_markFloat32S_i1_tab) (tabM laws_markFloat32S_i1_tab) (laws_markFloat32S_i1_LO v742) (codeOf Try.f22) ([.nilslc, .int .i64 v742] ++ List.replicate (Try.f22.ntmps - ([.nilslc, .int .i64 v742] : List DV).length) .undef) []).bind (retD TT Try.f22.results.toList 0) = (laws_markFloat32S_i1_T v742).bind fun y => .leaf (laws_markFloat32S_i1_enc v742 y) := by kernel_rfl
theorem laws_markFloat32S_i1_fn (v742 : Int) (F : Fr) (hm : F.ids.length = 0) (h0 : St F [] F.H0) (hA : DVs.Ok F [] [.nilslc, .int .i64 v742]) {y : Int} (hy : laws_markFloat32S_i1_g v742 = some y) : ∃ H', FnOk Try.prog 22 (DVs.av F [.nilslc, .int .i64 v742]) F.H0 ((laws_markFloat32S_i1_enc v742 y).1.av F) H' ∧ St F (laws_markFloat32S_i1_enc v742 y).2 H' ∧ (laws_markFloat32S_i1_enc v742 y).1.Ok F (laws_markFloat32S_i1_enc v742 y).2 :=
  fn_fin tok laws_markFloat32S_i1_hO mixed Try.func22 Try.call22 (by kernel_rfl) (LoopsOk_eq (l := [(0, bodyOf Try.f22 0)]) (by kernel_rfl) ⟨laws_markFloat32S_i1_l0_ok v742, trivial⟩) (laws_markFloat32S_i1_den v742) hy hm h0 hA
noncomputable def laws_markFloat32S_i1_F : DFn := fun args L =>
  match args with
  | [.nilslc, .int .i64 v742] =>
    .call (laws_markFloat32S_i1_g v742) fun y => .leaf (.int .i64 y, L)
  | _ => .fail
theorem laws_markFloat32S_i1_Fok : COk Try.prog 22 laws_markFloat32S_i1_F true := by
  intro F L H args r L' hs ha hr
  unfold laws_markFloat32S_i1_F at hr
  split at hr
  · rename_i v742
    simp only [Tree.run] at hr
    obtain ⟨y, hy, hr⟩ := Option.bind_eq_some_iff.1 hr
    simp only [Tree.run, Option.some.injEq, Prod.mk.injEq] at hr
    obtain ⟨rfl, rfl⟩ := hr
    exact call_ok0 hs (fun k => (([] : List AV)[k]?).getD .top) [.nilslc, .int .i64 v742] [.nilslc, .int .i64 v742] (fun F' h0 hi hρ => ⟨by simp [DVs.av, DV.av, BR.av, hρ], laws_markFloat32S_i1_fn v742 F' (by rw [hi]; rfl) (st_nil hi) ⟨trivial, trivial, trivial⟩ hy⟩) rfl
  · cases hr
/-! laws.heldFloat32S -/
noncomputable def laws_heldFloat32S_l0_T (v747 : List Nat) (s : Int × Int) : Tree ((Int × Int) ⊕ ((Unit) ⊕ (Int))) :=
  (.br (decide (s.2 < ((v747.length : Nat) : Int))) (
   (.grd (inb s.2 v747.length) <|
   (.br (!feq .f32 (nth v747 (Int.toNat s.2)) (fofint .f32 s.1)) (
    .leaf (.inr (.inl ()))
   ) (
    .leaf (.inl (IntKind.i64.wrap (s.1 + (1 : Int)), IntKind.i64.wrap (s.2 + (1 : Int))))
   )))
  ) (
   .leaf (.inr (.inr s.1))
  ))

noncomputable def laws_heldFloat32S_l0_g (v747 : List Nat) (s0 : Int × Int) : Option ((Unit) ⊕ (Int)) := whileM (fun s => (laws_heldFloat32S_l0_T v747 s).run) s0
def laws_heldFloat32S_l0_E (v747 : List Nat) (v748 : Int) (s : Int × Int) : Sd := ([.bslc (BR.root 0) (.f32 v747), .int .i64 s.1, .top, .top, .top, .int .i64 s.2, .top, .top, .top, .top, .top, .top, .top, .top, .top, .top, .top, .top, .top, .top, .top, .top], [])
def laws_heldFloat32S_l0_X (v747 : List Nat) (v748 : Int) (x : (Unit) ⊕ (Int)) : Out := (match x with | .inl x => (.ret, [.top, .top, .top, .top, .int .i64 (-1 : Int), .top, .top, .top, .top, .top, .top, .top, .top, .top, .top, .top, .top, .top, .top, .top, .top, .top], []) | .inr x => (.normal, [.top, .int .i64 x, .top, .top, .top, .top, .top, .top, .top, .top, .top, .top, .top, .top, .top, .top, .top, .top, .top, .top, .top, .top], []))
def laws_heldFloat32S_l0_kill : List Nat := [0, 0, 1, 1, 1, 0, 1, 1, 1, 1, 1, 1, 1, 1, 1, 1, 1, 1, 1, 1, 1, 1]
def laws_heldFloat32S_l0_nx : Exit → List Nat
  | .exit 0 => [1, 0, 1, 1, 1, 1, 1, 1, 1, 1, 1, 1, 1, 1, 1, 1, 1, 1, 1, 1, 1, 1]
  | .ret => [1, 1, 1, 1, 0, 1, 1, 1, 1, 1, 1, 1, 1, 1, 1, 1, 1, 1, 1, 1, 1, 1]
  | _ => []
noncomputable def laws_heldFloat32S_LO (v747 : List Nat) (v748 : Int) : LOr := fun id e L =>
  match id with
  | 0 => .need (normA 0 laws_heldFloat32S_l0_kill e L = some (laws_heldFloat32S_l0_E v747 v748 ((gI (vAt e 1)), (gI (vAt e 5))))) (.call (laws_heldFloat32S_l0_g v747 ((gI (vAt e 1)), (gI (vAt e 5)))) fun x => .sum x (fun b0 => .leaf (laws_heldFloat32S_l0_X v747 v748 (.inl b0))) (fun c0 => .leaf (laws_heldFloat32S_l0_X v747 v748 (.inr c0))))
  | _ => .fail
noncomputable def laws_heldFloat32S_tab : List (FuncId × DFn × Bool) := []
theorem laws_heldFloat32S_hO : OrcOk Try.prog (tabD laws_heldFloat32S_tab) (tabM laws_heldFloat32S_tab) := tabD_nil _
theorem laws_heldFloat32S_l0_be (v747 : List Nat) (v748 : Int) (s : Int × Int) : bodyT TT (tabD laws_heldFloat32S_tab) (tabM laws_heldFloat32S_tab) (laws_heldFloat32S_LO v747 v748) 0 laws_heldFloat32S_l0_kill laws_heldFloat32S_l0_nx (bodyOf Try.f24 0) 0 (laws_heldFloat32S_l0_E v747 v748 s) = (laws_heldFloat32S_l0_T v747 s).bind fun y => .leaf (outS (laws_heldFloat32S_l0_E v747 v748) (laws_heldFloat32S_l0_X v747 v748) y) := by kernel_rfl
theorem laws_heldFloat32S_l0_ok (v747 : List Nat) (v748 : Int) : LSound Try.prog 0 (laws_heldFloat32S_LO v747 v748) 0 (bodyOf Try.f24 0) := by
  intro e L out h
  exact lo_ok (E := laws_heldFloat32S_l0_E v747 v748) (gT := laws_heldFloat32S_l0_T v747) (X := laws_heldFloat32S_l0_X v747 v748) (s0 := ((gI (vAt e 1)), (gI (vAt e 5)))) tok laws_heldFloat32S_hO mixed (LoopsOk_eq (l := []) (by kernel_rfl) trivial) (laws_heldFloat32S_l0_be v747 v748) rfl (by intro x; (cases x with | inl b => rfl | inr x => exact rfl)) h
noncomputable def laws_heldFloat32S_T (v747 : List Nat) (v748 : Int) : Tree (Int) :=
  (.need (some (laws_heldFloat32S_l0_E v747 v748 (v748, (0 : Int))) = some (laws_heldFloat32S_l0_E v747 v748 (v748, (0 : Int)))) <|
  (.call (laws_heldFloat32S_l0_g v747 (v748, (0 : Int))) fun v755 =>
  (.sum v755 (fun v756 =>
   .leaf (-1 : Int)
  ) (fun v757 =>
   .leaf v757
  ))))

noncomputable def laws_heldFloat32S_g (v747 : List Nat) (v748 : Int) : Option (Int) := (laws_heldFloat32S_T v747 v748).run
def laws_heldFloat32S_enc (v747 : List Nat) (v748 : Int) (y : Int) : Rs := (.int .i64 y, [])
theorem laws_heldFloat32S_den (v747 : List Nat) (v748 : Int) : (den TT (tabD laws_heldFloat32S_tab) (tabM laws_heldFloat32S_tab) (laws_heldFloat32S_LO v747 v748) (codeOf Try.f24) ([.bslc (BR.root 0) (.f32 v747), .int .i64 v748] ++ List.replicate (Try.f24.ntmps - ([.bslc (BR.root 0) (.f32 v747), .int .i64 v748] : List DV).length) .undef) []).bind (retD TT Try.f24.results.toList 0) = (laws_heldFloat32S_T v747 v748).bind fun y => .leaf (laws_heldFloat32S_enc v747 v748 y) := by kernel_rfl
theorem laws_heldFloat32S_fn (v747 : List Nat) (v748 : Int) (F : Fr) (hm : F.ids.length = 0) (h0 : St F [] F.H0) (hA : DVs.Ok F [] [.bslc (BR.root 0) (.f32 v747), .int .i64 v748]) {y : Int} (hy : laws_heldFloat32S_g v747 v748 = some y) : ∃ H', FnOk Try.prog 24 (DVs.av F [.bslc (BR.root 0) (.f32 v747), .int .i64 v748]) F.H0 ((laws_heldFloat32S_enc v747 v748 y).1.av F) H' ∧ St F (laws_heldFloat32S_enc v747 v748 y).2 H' ∧ (laws_heldFloat32S_enc v747 v748 y).1.Ok F (laws_heldFloat32S_enc v747 v748 y).2 :=
  fn_fin tok laws_heldFloat32S_hO mixed Try.func24 Try.call24 (by kernel_rfl) (LoopsOk_eq (l := [(0, bodyOf Try.f24 0)]) (by kernel_rfl) ⟨laws_heldFloat32S_l0_ok v747 v748, trivial⟩) (laws_heldFloat32S_den v747 v748) hy hm h0 hA
noncomputable def laws_heldFloat32S_F : DFn := fun args L =>
  match args with
  | [a1, .int .i64 v748] =>
    optT (rowF32 L a1) fun v747 =>
    .call (laws_heldFloat32S_g v747 v748) fun y => .leaf (.int .i64 y, L)
  | _ => .fail
theorem laws_heldFloat32S_Fok : COk Try.prog 24 laws_heldFloat32S_F true := by
  intro F L H args r L' hs ha hr
  unfold laws_heldFloat32S_F at hr
  split at hr
  · rename_i a1 v748
    obtain ⟨v747, hv747, hr⟩ := optT_run hr
    simp only [Tree.run] at hr
    obtain ⟨y, hy, hr⟩ := Option.bind_eq_some_iff.1 hr
    simp only [Tree.run, Option.some.injEq, Prod.mk.injEq] at hr
    obtain ⟨rfl, rfl⟩ := hr
    exact call_ok0 hs (fun k => (([a1.av F] : List AV)[k]?).getD .top) [a1, .int .i64 v748] [.bslc (BR.root 0) (.f32 v747), .int .i64 v748] (fun F' h0 hi hρ => ⟨by simp [DVs.av, DV.av, BR.av, hρ], laws_heldFloat32S_fn v747 v748 F' (by rw [hi]; rfl) (st_nil hi) ⟨bslc_ok hi (by rw [h0, hρ]; exact rowF32_ok hs (DVs.okAt ha 0 rfl) hv747), trivial, trivial⟩ hy⟩) rfl
  · cases hr
/-! laws.FnExactShiftSolve -/
noncomputable def laws_FnExactShiftSolve_LO (v1 : List Nat) (v2 : List Nat) : LOr := fun id e L =>
  match id with
  | _ => .fail
noncomputable def laws_FnExactShiftSolve_tab : List (FuncId × DFn × Bool) := [(33, laws_toFloat32S_F, true), (32, spec_ShiftSolve_F, true), (34, impl_ShiftSolve_F, true), (20, laws_eqFloat32S_F, true), (22, (orD (fun args => match args with | [.nilslc, _] => true | _ => false) laws_markFloat32S_i1_F laws_markFloat32S_F), false), (24, laws_heldFloat32S_F, true)]
theorem laws_FnExactShiftSolve_hO : OrcOk Try.prog (tabD laws_FnExactShiftSolve_tab) (tabM laws_FnExactShiftSolve_tab) := tabD_cons laws_toFloat32S_Fok (tabD_cons spec_ShiftSolve_Fok (tabD_cons impl_ShiftSolve_Fok (tabD_cons laws_eqFloat32S_Fok (tabD_cons (orD_ok (COk.weak laws_markFloat32S_i1_Fok) laws_markFloat32S_Fok) (tabD_cons laws_heldFloat32S_Fok (tabD_nil _))))))
noncomputable def laws_FnExactShiftSolve_T (v1 : List Nat) (v2 : List Nat) : Tree (Bool) :=
  (.br (decide ((1048576 : Int) < ((v1.length : Nat) : Int))) (
   .leaf true
  ) (
   (.br (decide ((1048576 : Int) < ((v2.length : Nat) : Int))) (
    .leaf true
   ) (
    (.call (laws_toFloat32S_g v1) fun v10 =>
    (.call (laws_toFloat32S_g v2) fun v11 =>
    (.call (spec_ShiftSolve_g v10 v11) fun v189 =>
    (.sum v189 (fun v190 =>
     (.call (laws_toFloat32S_g v1) fun v192 =>
     (.call (laws_toFloat32S_g v2) fun v193 =>
     (.call (impl_ShiftSolve_g v192 v193) fun v706 =>
     (.sum v706 (fun v707 =>
      (.call (laws_eqFloat32S_g ([] : List Nat) ([] : List Nat)) fun v719 =>
      (.br (!v719) (
       .leaf false
      ) (
       (.br (!(false == false)) (
        .leaf false
       ) (
        (.call (laws_toFloat32S_g v1) fun v720 =>
        (.call (laws_eqFloat32S_g v192 v720) fun v721 =>
        (.br (!v721) (
         .leaf false
        ) (
         (.call (laws_toFloat32S_g v2) fun v722 =>
         (.call (laws_eqFloat32S_g v193 v722) fun v723 =>
         (.br (!v723) (
          .leaf false
         ) (
          (.call (laws_markFloat32S_g v192 (1 : Int)) fun v739 =>
          (.grd (decide (v739.2.length = v192.length)) <|
          (.call (laws_markFloat32S_g v193 v739.1) fun v740 =>
          (.grd (decide (v740.2.length = v193.length)) <|
          (.br (decide (v740.1 < (0 : Int))) (
           .leaf false
          ) (
           (.call (laws_eqFloat32S_g ([] : List Nat) ([] : List Nat)) fun v741 =>
           (.br (!v741) (
            .leaf false
           ) (
            (.br (!(false == false)) (
             .leaf false
            ) (
             (.call (laws_markFloat32S_i1_g (1 : Int)) fun v746 =>
             (.call (laws_heldFloat32S_g ([] : List Nat) (1 : Int)) fun v758 =>
             (.br (decide (v758 < (0 : Int))) (
              .leaf false
             ) (
              (.br (!decide (v758 = v746)) (
               .leaf false
              ) (
               (.call (laws_toFloat32S_g v1) fun v759 =>
               (.call (laws_toFloat32S_g v2) fun v760 =>
               (.call (impl_ShiftSolve_g v759 v760) fun v761 =>
               (.sum v761 (fun v762 =>
                (.call (laws_eqFloat32S_g ([] : List Nat) ([] : List Nat)) fun v764 =>
                (.br (!v764) (
                 .leaf false
                ) (
                 (.br (!(false == false)) (
                  .leaf false
                 ) (
                  (.call (laws_heldFloat32S_g ([] : List Nat) (1 : Int)) fun v765 =>
                  (.br (decide (v765 < (0 : Int))) (
                   .leaf false
                  ) (
                   (.br (!decide (v765 = v746)) (
                    .leaf false
                   ) (
                    .leaf true
                   ))
                  )))
                 ))
                )))
               ) (fun v763 =>
                (.call (laws_eqFloat32S_g v763 ([] : List Nat)) fun v766 =>
                (.br (!v766) (
                 .leaf false
                ) (
                 (.br (!(true == false)) (
                  .leaf false
                 ) (
                  (.call (laws_heldFloat32S_g ([] : List Nat) (1 : Int)) fun v767 =>
                  (.br (decide (v767 < (0 : Int))) (
                   .leaf false
                  ) (
                   (.br (!decide (v767 = v746)) (
                    .leaf false
                   ) (
                    .leaf true
                   ))
                  )))
                 ))
                )))
               )))))
              ))
             ))))
            ))
           )))
          ))))))
         ))))
        ))))
       ))
      )))
     ) (fun v708 =>
      (.call (laws_eqFloat32S_g v708 ([] : List Nat)) fun v768 =>
      (.br (!v768) (
       .leaf false
      ) (
       (.br (!(true == false)) (
        .leaf false
       ) (
        (.call (laws_toFloat32S_g v1) fun v769 =>
        (.call (laws_eqFloat32S_g v192 v769) fun v770 =>
        (.br (!v770) (
         .leaf false
        ) (
         (.call (laws_toFloat32S_g v2) fun v771 =>
         (.call (laws_eqFloat32S_g v193 v771) fun v772 =>
         (.br (!v772) (
          .leaf false
         ) (
          (.call (laws_markFloat32S_g v192 (1 : Int)) fun v773 =>
          (.grd (decide (v773.2.length = v192.length)) <|
          (.call (laws_markFloat32S_g v193 v773.1) fun v774 =>
          (.grd (decide (v774.2.length = v193.length)) <|
          (.br (decide (v774.1 < (0 : Int))) (
           .leaf false
          ) (
           (.call (laws_eqFloat32S_g v708 ([] : List Nat)) fun v775 =>
           (.br (!v775) (
            .leaf false
           ) (
            (.br (!(true == false)) (
             .leaf false
            ) (
             (.call (laws_markFloat32S_g v708 (1 : Int)) fun v776 =>
             (.grd (decide (v776.2.length = v708.length)) <|
             (.call (laws_heldFloat32S_g v776.2 (1 : Int)) fun v777 =>
             (.br (decide (v777 < (0 : Int))) (
              .leaf false
             ) (
              (.br (!decide (v777 = v776.1)) (
               .leaf false
              ) (
               (.call (laws_toFloat32S_g v1) fun v778 =>
               (.call (laws_toFloat32S_g v2) fun v779 =>
               (.call (impl_ShiftSolve_g v778 v779) fun v780 =>
               (.sum v780 (fun v781 =>
                (.call (laws_eqFloat32S_g ([] : List Nat) ([] : List Nat)) fun v783 =>
                (.br (!v783) (
                 .leaf false
                ) (
                 (.br (!(false == false)) (
                  .leaf false
                 ) (
                  (.call (laws_heldFloat32S_g v776.2 (1 : Int)) fun v784 =>
                  (.br (decide (v784 < (0 : Int))) (
                   .leaf false
                  ) (
                   (.br (!decide (v784 = v776.1)) (
                    .leaf false
                   ) (
                    .leaf true
                   ))
                  )))
                 ))
                )))
               ) (fun v782 =>
                (.call (laws_eqFloat32S_g v782 ([] : List Nat)) fun v785 =>
                (.br (!v785) (
                 .leaf false
                ) (
                 (.br (!(true == false)) (
                  .leaf false
                 ) (
                  (.call (laws_heldFloat32S_g v776.2 (1 : Int)) fun v786 =>
                  (.br (decide (v786 < (0 : Int))) (
                   .leaf false
                  ) (
                   (.br (!decide (v786 = v776.1)) (
                    .leaf false
                   ) (
                    .leaf true
                   ))
                  )))
                 ))
                )))
               )))))
              ))
             )))))
            ))
           )))
          ))))))
         ))))
        ))))
       ))
      )))
     )))))
    ) (fun v191 =>
     (.call (laws_toFloat32S_g v1) fun v787 =>
     (.call (laws_toFloat32S_g v2) fun v788 =>
     (.call (impl_ShiftSolve_g v787 v788) fun v789 =>
     (.sum v789 (fun v790 =>
      (.call (laws_eqFloat32S_g ([] : List Nat) v191) fun v792 =>
      (.br (!v792) (
       .leaf false
      ) (
       (.br (!(false == true)) (
        .leaf false
       ) (
        (.call (laws_toFloat32S_g v1) fun v793 =>
        (.call (laws_eqFloat32S_g v787 v793) fun v794 =>
        (.br (!v794) (
         .leaf false
        ) (
         (.call (laws_toFloat32S_g v2) fun v795 =>
         (.call (laws_eqFloat32S_g v788 v795) fun v796 =>
         (.br (!v796) (
          .leaf false
         ) (
          (.call (laws_markFloat32S_g v787 (1 : Int)) fun v797 =>
          (.grd (decide (v797.2.length = v787.length)) <|
          (.call (laws_markFloat32S_g v788 v797.1) fun v798 =>
          (.grd (decide (v798.2.length = v788.length)) <|
          (.br (decide (v798.1 < (0 : Int))) (
           .leaf false
          ) (
           (.call (laws_eqFloat32S_g ([] : List Nat) v191) fun v799 =>
           (.br (!v799) (
            .leaf false
           ) (
            (.br (!(false == true)) (
             .leaf false
            ) (
             (.call (laws_markFloat32S_i1_g (1 : Int)) fun v800 =>
             (.call (laws_heldFloat32S_g ([] : List Nat) (1 : Int)) fun v801 =>
             (.br (decide (v801 < (0 : Int))) (
              .leaf false
             ) (
              (.br (!decide (v801 = v800)) (
               .leaf false
              ) (
               (.call (laws_toFloat32S_g v1) fun v802 =>
               (.call (laws_toFloat32S_g v2) fun v803 =>
               (.call (impl_ShiftSolve_g v802 v803) fun v804 =>
               (.sum v804 (fun v805 =>
                (.call (laws_eqFloat32S_g ([] : List Nat) v191) fun v807 =>
                (.br (!v807) (
                 .leaf false
                ) (
                 (.br (!(false == true)) (
                  .leaf false
                 ) (
                  (.call (laws_heldFloat32S_g ([] : List Nat) (1 : Int)) fun v808 =>
                  (.br (decide (v808 < (0 : Int))) (
                   .leaf false
                  ) (
                   (.br (!decide (v808 = v800)) (
                    .leaf false
                   ) (
                    .leaf true
                   ))
                  )))
                 ))
                )))
               ) (fun v806 =>
                (.call (laws_eqFloat32S_g v806 v191) fun v809 =>
                (.br (!v809) (
                 .leaf false
                ) (
                 (.br (!(true == true)) (
                  .leaf false
                 ) (
                  (.call (laws_heldFloat32S_g ([] : List Nat) (1 : Int)) fun v810 =>
                  (.br (decide (v810 < (0 : Int))) (
                   .leaf false
                  ) (
                   (.br (!decide (v810 = v800)) (
                    .leaf false
                   ) (
                    .leaf true
                   ))
                  )))
                 ))
                )))
               )))))
              ))
             ))))
            ))
           )))
          ))))))
         ))))
        ))))
       ))
      )))
     ) (fun v791 =>
      (.call (laws_eqFloat32S_g v791 v191) fun v811 =>
      (.br (!v811) (
       .leaf false
      ) (
       (.br (!(true == true)) (
        .leaf false
       ) (
        (.call (laws_toFloat32S_g v1) fun v812 =>
        (.call (laws_eqFloat32S_g v787 v812) fun v813 =>
        (.br (!v813) (
         .leaf false
        ) (
         (.call (laws_toFloat32S_g v2) fun v814 =>
         (.call (laws_eqFloat32S_g v788 v814) fun v815 =>
         (.br (!v815) (
          .leaf false
         ) (
          (.call (laws_markFloat32S_g v787 (1 : Int)) fun v816 =>
          (.grd (decide (v816.2.length = v787.length)) <|
          (.call (laws_markFloat32S_g v788 v816.1) fun v817 =>
          (.grd (decide (v817.2.length = v788.length)) <|
          (.br (decide (v817.1 < (0 : Int))) (
           .leaf false
          ) (
           (.call (laws_eqFloat32S_g v791 v191) fun v818 =>
           (.br (!v818) (
            .leaf false
           ) (
            (.br (!(true == true)) (
             .leaf false
            ) (
             (.call (laws_markFloat32S_g v791 (1 : Int)) fun v819 =>
             (.grd (decide (v819.2.length = v791.length)) <|
             (.call (laws_heldFloat32S_g v819.2 (1 : Int)) fun v820 =>
             (.br (decide (v820 < (0 : Int))) (
              .leaf false
             ) (
              (.br (!decide (v820 = v819.1)) (
               .leaf false
              ) (
               (.call (laws_toFloat32S_g v1) fun v821 =>
               (.call (laws_toFloat32S_g v2) fun v822 =>
               (.call (impl_ShiftSolve_g v821 v822) fun v823 =>
               (.sum v823 (fun v824 =>
                (.call (laws_eqFloat32S_g ([] : List Nat) v191) fun v826 =>
                (.br (!v826) (
                 .leaf false
                ) (
                 (.br (!(false == true)) (
                  .leaf false
                 ) (
                  (.call (laws_heldFloat32S_g v819.2 (1 : Int)) fun v827 =>
                  (.br (decide (v827 < (0 : Int))) (
                   .leaf false
                  ) (
                   (.br (!decide (v827 = v819.1)) (
                    .leaf false
                   ) (
                    .leaf true
                   ))
                  )))
                 ))
                )))
               ) (fun v825 =>
                (.call (laws_eqFloat32S_g v825 v191) fun v828 =>
                (.br (!v828) (
                 .leaf false
                ) (
                 (.br (!(true == true)) (
                  .leaf false
                 ) (
                  (.call (laws_heldFloat32S_g v819.2 (1 : Int)) fun v829 =>
                  (.br (decide (v829 < (0 : Int))) (
                   .leaf false
                  ) (
                   (.br (!decide (v829 = v819.1)) (
                    .leaf false
                   ) (
                    .leaf true
                   ))
                  )))
                 ))
                )))
               )))))
              ))
             )))))
            ))
           )))
          ))))))
         ))))
        ))))
       ))
      )))
     )))))
    )))))
   ))
  ))

noncomputable def laws_FnExactShiftSolve_g (v1 : List Nat) (v2 : List Nat) : Option (Bool) := (laws_FnExactShiftSolve_T v1 v2).run
def laws_FnExactShiftSolve_enc (v1 : List Nat) (v2 : List Nat) (y : Bool) : Rs := (.bool y, [])
theorem laws_FnExactShiftSolve_den (v1 : List Nat) (v2 : List Nat) : (den TT (tabD laws_FnExactShiftSolve_tab) (tabM laws_FnExactShiftSolve_tab) (laws_FnExactShiftSolve_LO v1 v2) (codeOf Try.f7) ([.bslc (BR.root 0) (.f32 v1), .bslc (BR.root 1) (.f32 v2)] ++ List.replicate (Try.f7.ntmps - ([.bslc (BR.root 0) (.f32 v1), .bslc (BR.root 1) (.f32 v2)] : List DV).length) .undef) []).bind (retD TT Try.f7.results.toList 0) = (laws_FnExactShiftSolve_T v1 v2).bind fun y => .leaf (laws_FnExactShiftSolve_enc v1 v2 y) := by kernel_rfl
theorem laws_FnExactShiftSolve_fn (v1 : List Nat) (v2 : List Nat) (F : Fr) (hm : F.ids.length = 0) (h0 : St F [] F.H0) (hA : DVs.Ok F [] [.bslc (BR.root 0) (.f32 v1), .bslc (BR.root 1) (.f32 v2)]) {y : Bool} (hy : laws_FnExactShiftSolve_g v1 v2 = some y) : ∃ H', FnOk Try.prog 7 (DVs.av F [.bslc (BR.root 0) (.f32 v1), .bslc (BR.root 1) (.f32 v2)]) F.H0 ((laws_FnExactShiftSolve_enc v1 v2 y).1.av F) H' ∧ St F (laws_FnExactShiftSolve_enc v1 v2 y).2 H' ∧ (laws_FnExactShiftSolve_enc v1 v2 y).1.Ok F (laws_FnExactShiftSolve_enc v1 v2 y).2 :=
  fn_fin tok laws_FnExactShiftSolve_hO mixed Try.func7 Try.call7 (by kernel_rfl) (LoopsOk_eq (l := []) (by kernel_rfl) trivial) (laws_FnExactShiftSolve_den v1 v2) hy hm h0 hA
noncomputable def laws_FnExactShiftSolve_F : DFn := fun args L =>
  match args with
  | [a1, a2] =>
    optT (rowF32 L a1) fun v1 =>
    optT (rowF32 L a2) fun v2 =>
    .call (laws_FnExactShiftSolve_g v1 v2) fun y => .leaf (.bool y, L)
  | _ => .fail
theorem laws_FnExactShiftSolve_Fok : COk Try.prog 7 laws_FnExactShiftSolve_F true := by
  intro F L H args r L' hs ha hr
  unfold laws_FnExactShiftSolve_F at hr
  split at hr
  · rename_i a1 a2
    obtain ⟨v1, hv1, hr⟩ := optT_run hr
    obtain ⟨v2, hv2, hr⟩ := optT_run hr
    simp only [Tree.run] at hr
    obtain ⟨y, hy, hr⟩ := Option.bind_eq_some_iff.1 hr
    simp only [Tree.run, Option.some.injEq, Prod.mk.injEq] at hr
    obtain ⟨rfl, rfl⟩ := hr
    exact call_ok0 hs (fun k => (([a1.av F, a2.av F] : List AV)[k]?).getD .top) [a1, a2] [.bslc (BR.root 0) (.f32 v1), .bslc (BR.root 1) (.f32 v2)] (fun F' h0 hi hρ => ⟨by simp [DVs.av, DV.av, BR.av, hρ], laws_FnExactShiftSolve_fn v1 v2 F' (by rw [hi]; rfl) (st_nil hi) ⟨bslc_ok hi (by rw [h0, hρ]; exact rowF32_ok hs (DVs.okAt ha 0 rfl) hv1), bslc_ok hi (by rw [h0, hρ]; exact rowF32_ok hs (DVs.okAt ha 1 rfl) hv2), trivial⟩ hy⟩) rfl
  · cases hr
/-! laws.FnExactShiftSolve -/
noncomputable def laws_FnExactShiftSolve_len_LO (v830 : Nat) (v831 : Nat) : LOr := fun id e L =>
  match id with
  | _ => .fail
noncomputable def laws_FnExactShiftSolve_len_tab : List (FuncId × DFn × Bool) := []
theorem laws_FnExactShiftSolve_len_hO : OrcOk Try.prog (tabD laws_FnExactShiftSolve_len_tab) (tabM laws_FnExactShiftSolve_len_tab) := tabD_nil _
noncomputable def laws_FnExactShiftSolve_len_T (v830 : Nat) (v831 : Nat) : Tree (Bool) :=
  (.br (decide ((1048576 : Int) < ((v830 : Nat) : Int))) (
   .leaf true
  ) (
   (.br (decide ((1048576 : Int) < ((v831 : Nat) : Int))) (
    .leaf true
   ) (
    .fail
   ))
  ))

noncomputable def laws_FnExactShiftSolve_len_g (v830 : Nat) (v831 : Nat) : Option (Bool) := (laws_FnExactShiftSolve_len_T v830 v831).run
def laws_FnExactShiftSolve_len_enc (v830 : Nat) (v831 : Nat) (y : Bool) : Rs := (.bool y, [])
theorem laws_FnExactShiftSolve_len_den (v830 : Nat) (v831 : Nat) : (den TT (tabD laws_FnExactShiftSolve_len_tab) (tabM laws_FnExactShiftSolve_len_tab) (laws_FnExactShiftSolve_len_LO v830 v831) (codeOf Try.f7) ([.hslc (BR.root 0) v830, .hslc (BR.root 1) v831] ++ List.replicate (Try.f7.ntmps - ([.hslc (BR.root 0) v830, .hslc (BR.root 1) v831] : List DV).length) .undef) []).bind (retD TT Try.f7.results.toList 0) = (laws_FnExactShiftSolve_len_T v830 v831).bind fun y => .leaf (laws_FnExactShiftSolve_len_enc v830 v831 y) := by kernel_rfl
theorem laws_FnExactShiftSolve_len_fn (v830 : Nat) (v831 : Nat) (F : Fr) (hm : F.ids.length = 0) (h0 : St F [] F.H0) (hA : DVs.Ok F [] [.hslc (BR.root 0) v830, .hslc (BR.root 1) v831]) {y : Bool} (hy : laws_FnExactShiftSolve_len_g v830 v831 = some y) : ∃ H', FnOk Try.prog 7 (DVs.av F [.hslc (BR.root 0) v830, .hslc (BR.root 1) v831]) F.H0 ((laws_FnExactShiftSolve_len_enc v830 v831 y).1.av F) H' ∧ St F (laws_FnExactShiftSolve_len_enc v830 v831 y).2 H' ∧ (laws_FnExactShiftSolve_len_enc v830 v831 y).1.Ok F (laws_FnExactShiftSolve_len_enc v830 v831 y).2 :=
  fn_fin tok laws_FnExactShiftSolve_len_hO mixed Try.func7 Try.call7 (by kernel_rfl) (LoopsOk_eq (l := []) (by kernel_rfl) trivial) (laws_FnExactShiftSolve_len_den v830 v831) hy hm h0 hA
noncomputable def laws_FnExactShiftSolve_len_F : DFn := fun args L =>
  match args with
  | [a1, a2] =>
    optT (lenV L a1) fun v830 =>
    optT (lenV L a2) fun v831 =>
    .call (laws_FnExactShiftSolve_len_g v830 v831) fun y => .leaf (.bool y, L)
  | _ => .fail
theorem laws_FnExactShiftSolve_len_Fok : COk Try.prog 7 laws_FnExactShiftSolve_len_F true := by
  intro F L H args r L' hs ha hr
  unfold laws_FnExactShiftSolve_len_F at hr
  split at hr
  · rename_i a1 a2
    obtain ⟨v830, hv830, hr⟩ := optT_run hr
    obtain ⟨v831, hv831, hr⟩ := optT_run hr
    simp only [Tree.run] at hr
    obtain ⟨y, hy, hr⟩ := Option.bind_eq_some_iff.1 hr
    simp only [Tree.run, Option.some.injEq, Prod.mk.injEq] at hr
    obtain ⟨rfl, rfl⟩ := hr
    exact call_ok0 hs (fun k => (([a1.av F, a2.av F] : List AV)[k]?).getD .top) [a1, a2] [.hslc (BR.root 0) v830, .hslc (BR.root 1) v831] (fun F' h0 hi hρ => ⟨by simp [DVs.av, DV.av, BR.av, hρ], laws_FnExactShiftSolve_len_fn v830 v831 F' (by rw [hi]; rfl) (st_nil hi) ⟨hslc_ok hi (by rw [h0, hρ]; exact lenV_ok hs (DVs.okAt ha 0 rfl) hv830), hslc_ok hi (by rw [h0, hρ]; exact lenV_ok hs (DVs.okAt ha 1 rfl) hv831), trivial⟩ hy⟩) rfl
  · cases hr
end Go.Proofs.Ytooakheodgndaaa.AM
