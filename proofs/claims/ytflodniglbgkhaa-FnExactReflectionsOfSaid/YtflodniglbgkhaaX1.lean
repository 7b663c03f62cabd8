/- Functions: what they come to. -/
import Derived.Test.YtflodniglbgkhaaBase
set_option maxRecDepth 100000
set_option maxHeartbeats 4000000
set_option linter.unusedSimpArgs false
set_option linter.unusedVariables false
namespace Go.Proofs.Ytflodniglbgkhaa.AM
open Go.Proofs
/-! laws.toFloat32S -/
noncomputable def laws_toFloat32S_l0_T (v2 : List Nat) (s : Int × (List Nat)) : Tree ((Int × (List Nat)) ⊕ ((List Nat))) :=
  (.br (decide (s.1 < ((v2.length : Nat) : Int))) (
   (.grd (inb s.1 v2.length) <|
   (.grd (inb s.1 ((s.2).length)) <|
   .leaf (.inl (IntKind.i64.wrap (s.1 + (1 : Int)), List.set s.2 (Int.toNat s.1) (nth v2 (Int.toNat s.1))))))
  ) (
   .leaf (.inr s.2)
  ))

noncomputable def laws_toFloat32S_l0_g (v2 : List Nat) (s0 : Int × (List Nat)) : Option ((List Nat)) := whileM (fun s => (laws_toFloat32S_l0_T v2 s).run) s0
def laws_toFloat32S_l0_E (v2 : List Nat) (s : Int × (List Nat)) : Sd := ([.bslc (BR.root 0) (.f32 v2), .top, .top, .own 0 0 ((s.2).length), .int .i64 s.1, .top, .top, .top, .top, .top, .top, .top, .top, .top, .top, .top, .top, .top, .top, .top, .top, .top], [.row (.f32 s.2) 0])
def laws_toFloat32S_l0_X (v2 : List Nat) (x : (List Nat)) : Out := (.normal, [.top, .top, .top, .own 0 0 ((x).length), .top, .top, .top, .top, .top, .top, .top, .top, .top, .top, .top, .top, .top, .top, .top, .top, .top, .top], [.row (.f32 x) 0])
def laws_toFloat32S_l0_kill : List Nat := [0, 1, 1, 0, 0, 1, 1, 1, 1, 1, 1, 1, 1, 1, 1, 1, 1, 1, 1, 1, 1, 1]
def laws_toFloat32S_l0_nx : Exit → List Nat
  | .exit 0 => [1, 1, 1, 0, 1, 1, 1, 1, 1, 1, 1, 1, 1, 1, 1, 1, 1, 1, 1, 1, 1, 1]
  | .ret => [1, 1, 0, 1, 1, 1, 1, 1, 1, 1, 1, 1, 1, 1, 1, 1, 1, 1, 1, 1, 1, 1]
  | _ => []
noncomputable def laws_toFloat32S_LO (v2 : List Nat) : LOr := fun id e L =>
  match id with
  | 0 => .need (normA 0 laws_toFloat32S_l0_kill e L = some (laws_toFloat32S_l0_E v2 ((gI (vAt e 4)), (gRF L (vAt e 3))))) (.call (laws_toFloat32S_l0_g v2 ((gI (vAt e 4)), (gRF L (vAt e 3)))) fun x => .leaf (laws_toFloat32S_l0_X v2 x))
  | _ => .fail
noncomputable def laws_toFloat32S_tab : List (FuncId × DFn × Bool) := []
theorem laws_toFloat32S_hO : OrcOk Try.prog (tabD laws_toFloat32S_tab) (tabM laws_toFloat32S_tab) := tabD_nil _
theorem laws_toFloat32S_l0_be (v2 : List Nat) (s : Int × (List Nat)) : bodyT TT (tabD laws_toFloat32S_tab) (tabM laws_toFloat32S_tab) (laws_toFloat32S_LO v2) 0 laws_toFloat32S_l0_kill laws_toFloat32S_l0_nx (bodyOf Try.f10 0) 0 (laws_toFloat32S_l0_E v2 s) = (laws_toFloat32S_l0_T v2 s).bind fun y => .leaf (outS (laws_toFloat32S_l0_E v2) (laws_toFloat32S_l0_X v2) y) := by kernel_rfl
theorem laws_toFloat32S_l0_ok (v2 : List Nat) : LSound Try.prog 0 (laws_toFloat32S_LO v2) 0 (bodyOf Try.f10 0) := by
  intro e L out h
  exact lo_ok (E := laws_toFloat32S_l0_E v2) (gT := laws_toFloat32S_l0_T v2) (X := laws_toFloat32S_l0_X v2) (s0 := ((gI (vAt e 4)), (gRF L (vAt e 3)))) tok laws_toFloat32S_hO mixed (LoopsOk_eq (l := []) (by kernel_rfl) trivial) (laws_toFloat32S_l0_be v2) rfl (by intro x; rfl) h
noncomputable def laws_toFloat32S_T (v2 : List Nat) : Tree ((List Nat)) :=
  (.need (((v2.length : Nat) : Int) = ((v2.length : Nat) : Int)) <|
  (.grd (inb ((v2.length : Nat) : Int) (maxN + 1)) <|
  (.need (some (laws_toFloat32S_l0_E v2 ((0 : Int), List.replicate (Int.toNat ((v2.length : Nat) : Int)) (0 : Nat))) = some (laws_toFloat32S_l0_E v2 ((0 : Int), List.replicate (Int.toNat ((v2.length : Nat) : Int)) (0 : Nat)))) <|
  (.call (laws_toFloat32S_l0_g v2 ((0 : Int), List.replicate (Int.toNat ((v2.length : Nat) : Int)) (0 : Nat))) fun v8 =>
  .leaf v8))))

noncomputable def laws_toFloat32S_g (v2 : List Nat) : Option ((List Nat)) := (laws_toFloat32S_T v2).run
def laws_toFloat32S_enc (v2 : List Nat) (y : (List Nat)) : Rs := (.own 0 0 ((y).length), [.row (.f32 y) 0])
theorem laws_toFloat32S_den (v2 : List Nat) : (den TT (tabD laws_toFloat32S_tab) (tabM laws_toFloat32S_tab) (laws_toFloat32S_LO v2) (codeOf Try.f10) ([.bslc (BR.root 0) (.f32 v2)] ++ List.replicate (Try.f10.ntmps - ([.bslc (BR.root 0) (.f32 v2)] : List DV).length) .undef) []).bind (retD TT Try.f10.results.toList 0) = (laws_toFloat32S_T v2).bind fun y => .leaf (laws_toFloat32S_enc v2 y) := by kernel_rfl
theorem laws_toFloat32S_fn (v2 : List Nat) (F : Fr) (hm : F.ids.length = 0) (h0 : St F [] F.H0) (hA : DVs.Ok F [] [.bslc (BR.root 0) (.f32 v2)]) {y : (List Nat)} (hy : laws_toFloat32S_g v2 = some y) : ∃ H', FnOk Try.prog 10 (DVs.av F [.bslc (BR.root 0) (.f32 v2)]) F.H0 ((laws_toFloat32S_enc v2 y).1.av F) H' ∧ St F (laws_toFloat32S_enc v2 y).2 H' ∧ (laws_toFloat32S_enc v2 y).1.Ok F (laws_toFloat32S_enc v2 y).2 :=
  fn_fin tok laws_toFloat32S_hO mixed Try.func10 Try.call10 (by kernel_rfl) (LoopsOk_eq (l := [(0, bodyOf Try.f10 0)]) (by kernel_rfl) ⟨laws_toFloat32S_l0_ok v2, trivial⟩) (laws_toFloat32S_den v2) hy hm h0 hA
noncomputable def laws_toFloat32S_F : DFn := fun args L =>
  match args with
  | [a1] =>
    optT (rowF32 L a1) fun v2 =>
    .call (laws_toFloat32S_g v2) fun y => .leaf (.own (L.length + 0) 0 ((y).length), L ++ [.row (.f32 y) 0])
  | _ => .fail
theorem laws_toFloat32S_Fok : COk Try.prog 10 laws_toFloat32S_F true := by
  intro F L H args r L' hs ha hr
  unfold laws_toFloat32S_F at hr
  split at hr
  · rename_i a1
    obtain ⟨v2, hv2, hr⟩ := optT_run hr
    simp only [Tree.run] at hr
    obtain ⟨y, hy, hr⟩ := Option.bind_eq_some_iff.1 hr
    simp only [Tree.run, Option.some.injEq, Prod.mk.injEq] at hr
    obtain ⟨rfl, rfl⟩ := hr
    exact call_ok1 hs (fun k => (([a1.av F] : List AV)[k]?).getD .top) [a1] [.bslc (BR.root 0) (.f32 v2)] (fun F' h0 hi hρ => ⟨by simp [DVs.av, DV.av, BR.av, hρ], laws_toFloat32S_fn v2 F' (by rw [hi]; rfl) (st_nil hi) ⟨bslc_ok hi (by rw [h0, hρ]; exact rowF32_ok hs (DVs.okAt ha 0 rfl) hv2), trivial⟩ hy⟩) rfl rfl
  · cases hr
/-! spec.l01Finite -/
noncomputable def spec_l01Finite_LO (v14 : Nat) : LOr := fun id e L =>
  match id with
  | _ => .fail
noncomputable def spec_l01Finite_tab : List (FuncId × DFn × Bool) := []
theorem spec_l01Finite_hO : OrcOk Try.prog (tabD spec_l01Finite_tab) (tabM spec_l01Finite_tab) := tabD_nil _
noncomputable def spec_l01Finite_T (v14 : Nat) : Tree (Bool) :=
  .leaf (feq .f32 (fsub .f32 v14 v14) (0 : Nat))

noncomputable def spec_l01Finite_g (v14 : Nat) : Option (Bool) := (spec_l01Finite_T v14).run
def spec_l01Finite_enc (v14 : Nat) (y : Bool) : Rs := (.bool y, [])
theorem spec_l01Finite_den (v14 : Nat) : (den TT (tabD spec_l01Finite_tab) (tabM spec_l01Finite_tab) (spec_l01Finite_LO v14) (codeOf Try.f39) ([.flt .f32 v14] ++ List.replicate (Try.f39.ntmps - ([.flt .f32 v14] : List DV).length) .undef) []).bind (retD TT Try.f39.results.toList 0) = (spec_l01Finite_T v14).bind fun y => .leaf (spec_l01Finite_enc v14 y) := by kernel_rfl
theorem spec_l01Finite_fn (v14 : Nat) (F : Fr) (hm : F.ids.length = 0) (h0 : St F [] F.H0) (hA : DVs.Ok F [] [.flt .f32 v14]) {y : Bool} (hy : spec_l01Finite_g v14 = some y) : ∃ H', FnOk Try.prog 39 (DVs.av F [.flt .f32 v14]) F.H0 ((spec_l01Finite_enc v14 y).1.av F) H' ∧ St F (spec_l01Finite_enc v14 y).2 H' ∧ (spec_l01Finite_enc v14 y).1.Ok F (spec_l01Finite_enc v14 y).2 :=
  fn_fin tok spec_l01Finite_hO mixed Try.func39 Try.call39 (by kernel_rfl) (LoopsOk_eq (l := []) (by kernel_rfl) trivial) (spec_l01Finite_den v14) hy hm h0 hA
def spec_l01Finite_v (v14 : Nat) : Bool :=
  feq .f32 (fsub .f32 v14 v14) (0 : Nat)
theorem spec_l01Finite_tot (v14 : Nat) : spec_l01Finite_g v14 = some (spec_l01Finite_v v14) := by
  unfold spec_l01Finite_g spec_l01Finite_T spec_l01Finite_v
  simp only [Tree.run]
  repeat' (first | rfl | split)
noncomputable def spec_l01Finite_F : DFn := fun args L =>
  match args with
  | [.flt .f32 v14] =>
    .leaf (.bool (spec_l01Finite_v v14), L)
  | _ => .fail
theorem spec_l01Finite_Fok : COk Try.prog 39 spec_l01Finite_F true := by
  intro F L H args r L' hs ha hr
  unfold spec_l01Finite_F at hr
  split at hr
  · rename_i v14
    have hy := spec_l01Finite_tot v14
    generalize spec_l01Finite_v v14 = y at hy hr
    simp only [Tree.run, Option.some.injEq, Prod.mk.injEq] at hr
    obtain ⟨rfl, rfl⟩ := hr
    exact call_ok0 hs (fun k => (([] : List AV)[k]?).getD .top) [.flt .f32 v14] [.flt .f32 v14] (fun F' h0 hi hρ => ⟨by simp [DVs.av, DV.av, BR.av, hρ], spec_l01Finite_fn v14 F' (by rw [hi]; rfl) (st_nil hi) ⟨trivial, trivial⟩ hy⟩) rfl
  · cases hr
/-! spec.l02Finite -/
noncomputable def spec_l02Finite_l0_T (v12 : List Nat) (s : Int) : Tree ((Int) ⊕ ((Unit) ⊕ (Unit))) :=
  (.br (decide (s < ((v12.length : Nat) : Int))) (
   (.grd (inb s v12.length) <|
   (.br (!(spec_l01Finite_v (nth v12 (Int.toNat s)))) (
    .leaf (.inr (.inl ()))
   ) (
    .leaf (.inl (IntKind.i64.wrap (s + (1 : Int))))
   )))
  ) (
   .leaf (.inr (.inr ()))
  ))

noncomputable def spec_l02Finite_l0_g (v12 : List Nat) (s0 : Int) : Option ((Unit) ⊕ (Unit)) := whileM (fun s => (spec_l02Finite_l0_T v12 s).run) s0
def spec_l02Finite_l0_E (v12 : List Nat) (s : Int) : Sd := ([.bslc (BR.root 0) (.f32 v12), .top, .top, .int .i64 s, .top, .top, .top, .top, .top, .top, .top, .top, .top, .top, .top, .top], [])
def spec_l02Finite_l0_X (v12 : List Nat) (x : (Unit) ⊕ (Unit)) : Out := (match x with | .inl x => (.ret, [.top, .top, .lit false, .top, .top, .top, .top, .top, .top, .top, .top, .top, .top, .top, .top, .top], []) | .inr x => (.normal, [.top, .top, .top, .top, .top, .top, .top, .top, .top, .top, .top, .top, .top, .top, .top, .top], []))
def spec_l02Finite_l0_kill : List Nat := [0, 1, 1, 0, 1, 1, 1, 1, 1, 1, 1, 1, 1, 1, 1, 1]
def spec_l02Finite_l0_nx : Exit → List Nat
  | .exit 0 => [1, 1, 1, 1, 1, 1, 1, 1, 1, 1, 1, 1, 1, 1, 1, 1]
  | .ret => [1, 1, 0, 1, 1, 1, 1, 1, 1, 1, 1, 1, 1, 1, 1, 1]
  | _ => []
noncomputable def spec_l02Finite_LO (v12 : List Nat) : LOr := fun id e L =>
  match id with
  | 0 => .need (normA 0 spec_l02Finite_l0_kill e L = some (spec_l02Finite_l0_E v12 (gI (vAt e 3)))) (.call (spec_l02Finite_l0_g v12 (gI (vAt e 3))) fun x => .sum x (fun b0 => .leaf (spec_l02Finite_l0_X v12 (.inl b0))) (fun c0 => .leaf (spec_l02Finite_l0_X v12 (.inr c0))))
  | _ => .fail
noncomputable def spec_l02Finite_tab : List (FuncId × DFn × Bool) := [(39, spec_l01Finite_F, true)]
theorem spec_l02Finite_hO : OrcOk Try.prog (tabD spec_l02Finite_tab) (tabM spec_l02Finite_tab) := tabD_cons spec_l01Finite_Fok (tabD_nil _)
theorem spec_l02Finite_l0_be (v12 : List Nat) (s : Int) : bodyT TT (tabD spec_l02Finite_tab) (tabM spec_l02Finite_tab) (spec_l02Finite_LO v12) 0 spec_l02Finite_l0_kill spec_l02Finite_l0_nx (bodyOf Try.f38 0) 0 (spec_l02Finite_l0_E v12 s) = (spec_l02Finite_l0_T v12 s).bind fun y => .leaf (outS (spec_l02Finite_l0_E v12) (spec_l02Finite_l0_X v12) y) := by kernel_rfl
theorem spec_l02Finite_l0_ok (v12 : List Nat) : LSound Try.prog 0 (spec_l02Finite_LO v12) 0 (bodyOf Try.f38 0) := by
  intro e L out h
  exact lo_ok (E := spec_l02Finite_l0_E v12) (gT := spec_l02Finite_l0_T v12) (X := spec_l02Finite_l0_X v12) (s0 := (gI (vAt e 3))) tok spec_l02Finite_hO mixed (LoopsOk_eq (l := []) (by kernel_rfl) trivial) (spec_l02Finite_l0_be v12) rfl (by intro x; (cases x with | inl b => rfl | inr x => exact rfl)) h
noncomputable def spec_l02Finite_T (v12 : List Nat) : Tree (Bool) :=
  (.need (some (spec_l02Finite_l0_E v12 (0 : Int)) = some (spec_l02Finite_l0_E v12 (0 : Int))) <|
  (.call (spec_l02Finite_l0_g v12 (0 : Int)) fun v17 =>
  (.sum v17 (fun v18 =>
   .leaf false
  ) (fun v19 =>
   .leaf true
  ))))

noncomputable def spec_l02Finite_g (v12 : List Nat) : Option (Bool) := (spec_l02Finite_T v12).run
def spec_l02Finite_enc (v12 : List Nat) (y : Bool) : Rs := (.bool y, [])
theorem spec_l02Finite_den (v12 : List Nat) : (den TT (tabD spec_l02Finite_tab) (tabM spec_l02Finite_tab) (spec_l02Finite_LO v12) (codeOf Try.f38) ([.bslc (BR.root 0) (.f32 v12)] ++ List.replicate (Try.f38.ntmps - ([.bslc (BR.root 0) (.f32 v12)] : List DV).length) .undef) []).bind (retD TT Try.f38.results.toList 0) = (spec_l02Finite_T v12).bind fun y => .leaf (spec_l02Finite_enc v12 y) := by kernel_rfl
theorem spec_l02Finite_fn (v12 : List Nat) (F : Fr) (hm : F.ids.length = 0) (h0 : St F [] F.H0) (hA : DVs.Ok F [] [.bslc (BR.root 0) (.f32 v12)]) {y : Bool} (hy : spec_l02Finite_g v12 = some y) : ∃ H', FnOk Try.prog 38 (DVs.av F [.bslc (BR.root 0) (.f32 v12)]) F.H0 ((spec_l02Finite_enc v12 y).1.av F) H' ∧ St F (spec_l02Finite_enc v12 y).2 H' ∧ (spec_l02Finite_enc v12 y).1.Ok F (spec_l02Finite_enc v12 y).2 :=
  fn_fin tok spec_l02Finite_hO mixed Try.func38 Try.call38 (by kernel_rfl) (LoopsOk_eq (l := [(0, bodyOf Try.f38 0)]) (by kernel_rfl) ⟨spec_l02Finite_l0_ok v12, trivial⟩) (spec_l02Finite_den v12) hy hm h0 hA
noncomputable def spec_l02Finite_F : DFn := fun args L =>
  match args with
  | [a1] =>
    optT (rowF32 L a1) fun v12 =>
    .call (spec_l02Finite_g v12) fun y => .leaf (.bool y, L)
  | _ => .fail
theorem spec_l02Finite_Fok : COk Try.prog 38 spec_l02Finite_F true := by
  intro F L H args r L' hs ha hr
  unfold spec_l02Finite_F at hr
  split at hr
  · rename_i a1
    obtain ⟨v12, hv12, hr⟩ := optT_run hr
    simp only [Tree.run] at hr
    obtain ⟨y, hy, hr⟩ := Option.bind_eq_some_iff.1 hr
    simp only [Tree.run, Option.some.injEq, Prod.mk.injEq] at hr
    obtain ⟨rfl, rfl⟩ := hr
    exact call_ok0 hs (fun k => (([a1.av F] : List AV)[k]?).getD .top) [a1] [.bslc (BR.root 0) (.f32 v12)] (fun F' h0 hi hρ => ⟨by simp [DVs.av, DV.av, BR.av, hρ], spec_l02Finite_fn v12 F' (by rw [hi]; rfl) (st_nil hi) ⟨bslc_ok hi (by rw [h0, hρ]; exact rowF32_ok hs (DVs.okAt ha 0 rfl) hv12), trivial⟩ hy⟩) rfl
  · cases hr
/-! spec.l07Short -/
noncomputable def spec_l07Short_LO (v11 : List Nat) : LOr := fun id e L =>
  match id with
  | _ => .fail
noncomputable def spec_l07Short_tab : List (FuncId × DFn × Bool) := [(38, spec_l02Finite_F, true)]
theorem spec_l07Short_hO : OrcOk Try.prog (tabD spec_l07Short_tab) (tabM spec_l07Short_tab) := tabD_cons spec_l02Finite_Fok (tabD_nil _)
noncomputable def spec_l07Short_T (v11 : List Nat) : Tree (Bool) :=
  (.br (decide ((1 : Int) ≤ ((v11.length : Nat) : Int))) (
   (.br (decide (((v11.length : Nat) : Int) ≤ (12 : Int))) (
    (.call (spec_l02Finite_g v11) fun v20 =>
    .leaf v20)
   ) (
    .leaf false
   ))
  ) (
   .leaf false
  ))

noncomputable def spec_l07Short_g (v11 : List Nat) : Option (Bool) := (spec_l07Short_T v11).run
def spec_l07Short_enc (v11 : List Nat) (y : Bool) : Rs := (.bool y, [])
theorem spec_l07Short_den (v11 : List Nat) : (den TT (tabD spec_l07Short_tab) (tabM spec_l07Short_tab) (spec_l07Short_LO v11) (codeOf Try.f36) ([.bslc (BR.root 0) (.f32 v11)] ++ List.replicate (Try.f36.ntmps - ([.bslc (BR.root 0) (.f32 v11)] : List DV).length) .undef) []).bind (retD TT Try.f36.results.toList 0) = (spec_l07Short_T v11).bind fun y => .leaf (spec_l07Short_enc v11 y) := by kernel_rfl
theorem spec_l07Short_fn (v11 : List Nat) (F : Fr) (hm : F.ids.length = 0) (h0 : St F [] F.H0) (hA : DVs.Ok F [] [.bslc (BR.root 0) (.f32 v11)]) {y : Bool} (hy : spec_l07Short_g v11 = some y) : ∃ H', FnOk Try.prog 36 (DVs.av F [.bslc (BR.root 0) (.f32 v11)]) F.H0 ((spec_l07Short_enc v11 y).1.av F) H' ∧ St F (spec_l07Short_enc v11 y).2 H' ∧ (spec_l07Short_enc v11 y).1.Ok F (spec_l07Short_enc v11 y).2 :=
  fn_fin tok spec_l07Short_hO mixed Try.func36 Try.call36 (by kernel_rfl) (LoopsOk_eq (l := []) (by kernel_rfl) trivial) (spec_l07Short_den v11) hy hm h0 hA
noncomputable def spec_l07Short_F : DFn := fun args L =>
  match args with
  | [a1] =>
    optT (rowF32 L a1) fun v11 =>
    .call (spec_l07Short_g v11) fun y => .leaf (.bool y, L)
  | _ => .fail
theorem spec_l07Short_Fok : COk Try.prog 36 spec_l07Short_F true := by
  intro F L H args r L' hs ha hr
  unfold spec_l07Short_F at hr
  split at hr
  · rename_i a1
    obtain ⟨v11, hv11, hr⟩ := optT_run hr
    simp only [Tree.run] at hr
    obtain ⟨y, hy, hr⟩ := Option.bind_eq_some_iff.1 hr
    simp only [Tree.run, Option.some.injEq, Prod.mk.injEq] at hr
    obtain ⟨rfl, rfl⟩ := hr
    exact call_ok0 hs (fun k => (([a1.av F] : List AV)[k]?).getD .top) [a1] [.bslc (BR.root 0) (.f32 v11)] (fun F' h0 hi hρ => ⟨by simp [DVs.av, DV.av, BR.av, hρ], spec_l07Short_fn v11 F' (by rw [hi]; rfl) (st_nil hi) ⟨bslc_ok hi (by rw [h0, hρ]; exact rowF32_ok hs (DVs.okAt ha 0 rfl) hv11), trivial⟩ hy⟩) rfl
  · cases hr
/-! spec.l07Grow -/
noncomputable def spec_l07Grow_l0_T (v24 : List Nat) (v25 : List Nat) (v27 : Int) (s : Nat × Int) : Tree ((Nat × Int) ⊕ (Nat)) :=
  (.br (decide (s.2 < ((v25.length : Nat) : Int))) (
   (.grd (inb s.2 v25.length) <|
   (.grd (inb (IntKind.i64.wrap ((IntKind.i64.wrap (v27 - (1 : Int))) - s.2)) v24.length) <|
   .leaf (.inl (fadd .f32 s.1 (fmul .f32 (nth v25 (Int.toNat s.2)) (nth v24 (Int.toNat (IntKind.i64.wrap ((IntKind.i64.wrap (v27 - (1 : Int))) - s.2))))), IntKind.i64.wrap (s.2 + (1 : Int))))))
  ) (
   .leaf (.inr s.1)
  ))

noncomputable def spec_l07Grow_l0_g (v24 : List Nat) (v25 : List Nat) (v27 : Int) (s0 : Nat × Int) : Option (Nat) := whileM (fun s => (spec_l07Grow_l0_T v24 v25 v27 s).run) s0
def spec_l07Grow_l0_E (v24 : List Nat) (v25 : List Nat) (v26 : Nat) (v27 : Int) (s : Nat × Int) : Sd := ([.bslc (BR.root 0) (.f32 v24), .bslc (BR.root 1) (.f32 v25), .flt .f32 v26, .int .i64 v27, .top, .top, .top, .top, .top, .top, .top, .flt .f32 s.1, .top, .top, .top, .top, .top, .int .i64 ((v25.length : Nat) : Int), .int .i64 s.2, .top, .top, .top, .top, .top, .top, .top, .top, .top, .top, .top, .top, .top, .top, .top, .top, .top, .top, .top, .top, .top, .top, .top, .top, .top, .top, .top, .top, .top, .top, .top, .top, .top, .top, .top, .top, .top, .top, .top, .top, .top, .top, .top, .top, .top, .top, .top, .top, .top, .top, .top, .top, .top, .top, .top, .top, .top, .top, .top, .top, .top], [])
def spec_l07Grow_l0_X (v24 : List Nat) (v25 : List Nat) (v26 : Nat) (v27 : Int) (x : Nat) : Out := (.normal, [.bslc (BR.root 0) (.f32 v24), .bslc (BR.root 1) (.f32 v25), .flt .f32 v26, .int .i64 v27, .top, .top, .top, .top, .top, .top, .top, .flt .f32 x, .top, .top, .top, .top, .top, .top, .top, .top, .top, .top, .top, .top, .top, .top, .top, .top, .top, .top, .top, .top, .top, .top, .top, .top, .top, .top, .top, .top, .top, .top, .top, .top, .top, .top, .top, .top, .top, .top, .top, .top, .top, .top, .top, .top, .top, .top, .top, .top, .top, .top, .top, .top, .top, .top, .top, .top, .top, .top, .top, .top, .top, .top, .top, .top, .top, .top, .top, .top], [])
def spec_l07Grow_l0_kill : List Nat := [0, 0, 0, 0, 1, 1, 1, 1, 1, 1, 1, 0, 1, 1, 1, 1, 1, 0, 0, 1, 1, 1, 1, 1, 1, 1, 1, 1, 1, 1, 1, 1, 1, 1, 1, 1, 1, 1, 1, 1, 1, 1, 1, 1, 1, 1, 1, 1, 1, 1, 1, 1, 1, 1, 1, 1, 1, 1, 1, 1, 1, 1, 1, 1, 1, 1, 1, 1, 1, 1, 1, 1, 1, 1, 1, 1, 1, 1, 1, 1]
def spec_l07Grow_l0_nx : Exit → List Nat
  | .exit 0 => [0, 0, 0, 0, 1, 1, 1, 1, 1, 1, 1, 0, 1, 1, 1, 1, 1, 1, 1, 1, 1, 1, 1, 1, 1, 1, 1, 1, 1, 1, 1, 1, 1, 1, 1, 1, 1, 1, 1, 1, 1, 1, 1, 1, 1, 1, 1, 1, 1, 1, 1, 1, 1, 1, 1, 1, 1, 1, 1, 1, 1, 1, 1, 1, 1, 1, 1, 1, 1, 1, 1, 1, 1, 1, 1, 1, 1, 1, 1, 1]
  | .ret => [1, 1, 1, 1, 1, 1, 1, 1, 0, 0, 0, 1, 1, 1, 1, 1, 1, 1, 1, 1, 1, 1, 1, 1, 1, 1, 1, 1, 1, 1, 1, 1, 1, 1, 1, 1, 1, 1, 1, 1, 1, 1, 1, 1, 1, 1, 1, 1, 1, 1, 1, 1, 1, 1, 1, 1, 1, 1, 1, 1, 1, 1, 1, 1, 1, 1, 1, 1, 1, 1, 1, 1, 1, 1, 1, 1, 1, 1, 1, 1]
  | _ => []
noncomputable def spec_l07Grow_l2_T (v25 : List Nat) (v27 : Int) (v40 : Nat) (s : Int × (List Nat)) : Tree ((Int × (List Nat)) ⊕ ((List Nat))) :=
  (.br (decide (s.1 < ((v25.length : Nat) : Int))) (
   (.grd (inb s.1 v25.length) <|
   (.grd (inb (IntKind.i64.wrap ((IntKind.i64.wrap (v27 - (2 : Int))) - s.1)) v25.length) <|
   (.grd (fits (s.2 ++ ([fsub .f32 (nth v25 (Int.toNat s.1)) (fmul .f32 v40 (nth v25 (Int.toNat (IntKind.i64.wrap ((IntKind.i64.wrap (v27 - (2 : Int))) - s.1)))))] : List Nat)).length) <|
   .leaf (.inl (IntKind.i64.wrap (s.1 + (1 : Int)), s.2 ++ ([fsub .f32 (nth v25 (Int.toNat s.1)) (fmul .f32 v40 (nth v25 (Int.toNat (IntKind.i64.wrap ((IntKind.i64.wrap (v27 - (2 : Int))) - s.1)))))] : List Nat))))))
  ) (
   .leaf (.inr s.2)
  ))

noncomputable def spec_l07Grow_l2_g (v25 : List Nat) (v27 : Int) (v40 : Nat) (s0 : Int × (List Nat)) : Option ((List Nat)) := whileM (fun s => (spec_l07Grow_l2_T v25 v27 v40 s).run) s0
def spec_l07Grow_l2_E (v24 : List Nat) (v25 : List Nat) (v26 : Nat) (v27 : Int) (v40 : Nat) (s : Int × (List Nat)) : Sd := ([.top, .bslc (BR.root 1) (.f32 v25), .flt .f32 v26, .int .i64 v27, .top, .top, .top, .top, .top, .top, .top, .top, .top, .flt .f32 v40, .own 0 0 ((s.2).length), .top, .top, .top, .top, .top, .top, .top, .top, .top, .top, .top, .top, .top, .top, .top, .top, .top, .top, .top, .top, .top, .top, .top, .top, .top, .top, .top, .top, .top, .top, .top, .int .i64 ((v25.length : Nat) : Int), .int .i64 s.1, .top, .top, .top, .top, .top, .top, .top, .top, .top, .top, .top, .top, .top, .top, .top, .top, .top, .top, .top, .top, .top, .top, .top, .top, .top, .top, .top, .top, .top, .top, .top, .top], [.row (.f32 s.2) 0])
def spec_l07Grow_l2_X (v24 : List Nat) (v25 : List Nat) (v26 : Nat) (v27 : Int) (v40 : Nat) (x : (List Nat)) : Out := (.normal, [.top, .top, .flt .f32 v26, .top, .top, .top, .top, .top, .top, .top, .top, .top, .top, .flt .f32 v40, .own 0 0 ((x).length), .top, .top, .top, .top, .top, .top, .top, .top, .top, .top, .top, .top, .top, .top, .top, .top, .top, .top, .top, .top, .top, .top, .top, .top, .top, .top, .top, .top, .top, .top, .top, .top, .top, .top, .top, .top, .top, .top, .top, .top, .top, .top, .top, .top, .top, .top, .top, .top, .top, .top, .top, .top, .top, .top, .top, .top, .top, .top, .top, .top, .top, .top, .top, .top, .top], [.row (.f32 x) 0])
def spec_l07Grow_l2_kill : List Nat := [1, 0, 0, 0, 1, 1, 1, 1, 1, 1, 1, 1, 1, 0, 0, 1, 1, 1, 1, 1, 1, 1, 1, 1, 1, 1, 1, 1, 1, 1, 1, 1, 1, 1, 1, 1, 1, 1, 1, 1, 1, 1, 1, 1, 1, 1, 0, 0, 1, 1, 1, 1, 1, 1, 1, 1, 1, 1, 1, 1, 1, 1, 1, 1, 1, 1, 1, 1, 1, 1, 1, 1, 1, 1, 1, 1, 1, 1, 1, 1]
def spec_l07Grow_l2_nx : Exit → List Nat
  | .exit 2 => [1, 1, 0, 1, 1, 1, 1, 1, 1, 1, 1, 1, 1, 0, 0, 1, 1, 1, 1, 1, 1, 1, 1, 1, 1, 1, 1, 1, 1, 1, 1, 1, 1, 1, 1, 1, 1, 1, 1, 1, 1, 1, 1, 1, 1, 1, 1, 1, 1, 1, 1, 1, 1, 1, 1, 1, 1, 1, 1, 1, 1, 1, 1, 1, 1, 1, 1, 1, 1, 1, 1, 1, 1, 1, 1, 1, 1, 1, 1, 1]
  | .ret => [1, 1, 1, 1, 1, 1, 1, 1, 0, 0, 0, 1, 1, 1, 1, 1, 1, 1, 1, 1, 1, 1, 1, 1, 1, 1, 1, 1, 1, 1, 1, 1, 1, 1, 1, 1, 1, 1, 1, 1, 1, 1, 1, 1, 1, 1, 1, 1, 1, 1, 1, 1, 1, 1, 1, 1, 1, 1, 1, 1, 1, 1, 1, 1, 1, 1, 1, 1, 1, 1, 1, 1, 1, 1, 1, 1, 1, 1, 1, 1]
  | _ => []
noncomputable def spec_l07Grow_LO (v24 : List Nat) (v25 : List Nat) (v26 : Nat) (v27 : Int) : LOr := fun id e L =>
  match id with
  | 0 => .need (normA 0 spec_l07Grow_l0_kill e L = some (spec_l07Grow_l0_E v24 v25 v26 v27 ((gF (vAt e 11)), (gI (vAt e 18))))) (.call (spec_l07Grow_l0_g v24 v25 v27 ((gF (vAt e 11)), (gI (vAt e 18)))) fun x => .leaf (spec_l07Grow_l0_X v24 v25 v26 v27 x))
  | 2 => .need (normA 0 spec_l07Grow_l2_kill e L = some (spec_l07Grow_l2_E v24 v25 v26 v27 (gF (vAt e 13)) ((gI (vAt e 47)), (gRF L (vAt e 14))))) (.call (spec_l07Grow_l2_g v25 v27 (gF (vAt e 13)) ((gI (vAt e 47)), (gRF L (vAt e 14)))) fun x => .leaf (spec_l07Grow_l2_X v24 v25 v26 v27 (gF (vAt e 13)) x))
  | _ => .fail
noncomputable def spec_l07Grow_tab : List (FuncId × DFn × Bool) := []
theorem spec_l07Grow_hO : OrcOk Try.prog (tabD spec_l07Grow_tab) (tabM spec_l07Grow_tab) := tabD_nil _
theorem spec_l07Grow_l0_be (v24 : List Nat) (v25 : List Nat) (v26 : Nat) (v27 : Int) (s : Nat × Int) : bodyT TT (tabD spec_l07Grow_tab) (tabM spec_l07Grow_tab) (spec_l07Grow_LO v24 v25 v26 v27) 0 spec_l07Grow_l0_kill spec_l07Grow_l0_nx (bodyOf Try.f37 0) 0 (spec_l07Grow_l0_E v24 v25 v26 v27 s) = (spec_l07Grow_l0_T v24 v25 v27 s).bind fun y => .leaf (outS (spec_l07Grow_l0_E v24 v25 v26 v27) (spec_l07Grow_l0_X v24 v25 v26 v27) y) := by kernel_rfl
theorem spec_l07Grow_l0_ok (v24 : List Nat) (v25 : List Nat) (v26 : Nat) (v27 : Int) : LSound Try.prog 0 (spec_l07Grow_LO v24 v25 v26 v27) 0 (bodyOf Try.f37 0) := by
  intro e L out h
  exact lo_ok (E := spec_l07Grow_l0_E v24 v25 v26 v27) (gT := spec_l07Grow_l0_T v24 v25 v27) (X := spec_l07Grow_l0_X v24 v25 v26 v27) (s0 := ((gF (vAt e 11)), (gI (vAt e 18)))) tok spec_l07Grow_hO mixed (LoopsOk_eq (l := []) (by kernel_rfl) trivial) (spec_l07Grow_l0_be v24 v25 v26 v27) rfl (by intro x; rfl) h
theorem spec_l07Grow_l2_be (v24 : List Nat) (v25 : List Nat) (v26 : Nat) (v27 : Int) (v40 : Nat) (s : Int × (List Nat)) : bodyT TT (tabD spec_l07Grow_tab) (tabM spec_l07Grow_tab) (spec_l07Grow_LO v24 v25 v26 v27) 0 spec_l07Grow_l2_kill spec_l07Grow_l2_nx (bodyOf Try.f37 2) 2 (spec_l07Grow_l2_E v24 v25 v26 v27 v40 s) = (spec_l07Grow_l2_T v25 v27 v40 s).bind fun y => .leaf (outS (spec_l07Grow_l2_E v24 v25 v26 v27 v40) (spec_l07Grow_l2_X v24 v25 v26 v27 v40) y) := by kernel_rfl
theorem spec_l07Grow_l2_ok (v24 : List Nat) (v25 : List Nat) (v26 : Nat) (v27 : Int) : LSound Try.prog 0 (spec_l07Grow_LO v24 v25 v26 v27) 2 (bodyOf Try.f37 2) := by
  intro e L out h
  exact lo_ok (E := spec_l07Grow_l2_E v24 v25 v26 v27 (gF (vAt e 13))) (gT := spec_l07Grow_l2_T v25 v27 (gF (vAt e 13))) (X := spec_l07Grow_l2_X v24 v25 v26 v27 (gF (vAt e 13))) (s0 := ((gI (vAt e 47)), (gRF L (vAt e 14)))) tok spec_l07Grow_hO mixed (LoopsOk_eq (l := []) (by kernel_rfl) trivial) (spec_l07Grow_l2_be v24 v25 v26 v27 (gF (vAt e 13))) rfl (by intro x; rfl) h
noncomputable def spec_l07Grow_T (v24 : List Nat) (v25 : List Nat) (v26 : Nat) (v27 : Int) : Tree (Nat × Nat × (List Nat)) :=
  (.need (some (spec_l07Grow_l0_E v24 v25 v26 v27 ((0 : Nat), (0 : Int))) = some (spec_l07Grow_l0_E v24 v25 v26 v27 ((0 : Nat), (0 : Int)))) <|
  (.call (spec_l07Grow_l0_g v24 v25 v27 ((0 : Nat), (0 : Int))) fun v34 =>
  (.grd (inb v27 v24.length) <|
  (.need (some (spec_l07Grow_l2_E v24 v25 v26 v27 (fdiv .f32 (fsub .f32 (nth v24 (Int.toNat v27)) v34) v26) ((0 : Int), ([] : List Nat))) = some (spec_l07Grow_l2_E v24 v25 v26 v27 (fdiv .f32 (fsub .f32 (nth v24 (Int.toNat v27)) v34) v26) ((0 : Int), ([] : List Nat)))) <|
  (.call (spec_l07Grow_l2_g v25 v27 (fdiv .f32 (fsub .f32 (nth v24 (Int.toNat v27)) v34) v26) ((0 : Int), ([] : List Nat))) fun v43 =>
  (.grd (fits (v43 ++ ([(fdiv .f32 (fsub .f32 (nth v24 (Int.toNat v27)) v34) v26)] : List Nat)).length) <|
  .leaf (fmul .f32 v26 (fsub .f32 (1065353216 : Nat) (fmul .f32 (fdiv .f32 (fsub .f32 (nth v24 (Int.toNat v27)) v34) v26) (fdiv .f32 (fsub .f32 (nth v24 (Int.toNat v27)) v34) v26))), (fdiv .f32 (fsub .f32 (nth v24 (Int.toNat v27)) v34) v26), v43 ++ ([(fdiv .f32 (fsub .f32 (nth v24 (Int.toNat v27)) v34) v26)] : List Nat))))))))

noncomputable def spec_l07Grow_g (v24 : List Nat) (v25 : List Nat) (v26 : Nat) (v27 : Int) : Option (Nat × Nat × (List Nat)) := (spec_l07Grow_T v24 v25 v26 v27).run
def spec_l07Grow_enc (v24 : List Nat) (v25 : List Nat) (v26 : Nat) (v27 : Int) (y : Nat × Nat × (List Nat)) : Rs := (.tup [.own 0 0 ((y.2.2).length), .flt .f32 y.1, .flt .f32 y.2.1], [.row (.f32 y.2.2) 0])
theorem spec_l07Grow_den (v24 : List Nat) (v25 : List Nat) (v26 : Nat) (v27 : Int) : (den TT (tabD spec_l07Grow_tab) (tabM spec_l07Grow_tab) (spec_l07Grow_LO v24 v25 v26 v27) (codeOf Try.f37) ([.bslc (BR.root 0) (.f32 v24), .bslc (BR.root 1) (.f32 v25), .flt .f32 v26, .int .i64 v27] ++ List.replicate (Try.f37.ntmps - ([.bslc (BR.root 0) (.f32 v24), .bslc (BR.root 1) (.f32 v25), .flt .f32 v26, .int .i64 v27] : List DV).length) .undef) []).bind (retD TT Try.f37.results.toList 0) = (spec_l07Grow_T v24 v25 v26 v27).bind fun y => .leaf (spec_l07Grow_enc v24 v25 v26 v27 y) := by kernel_rfl
theorem spec_l07Grow_fn (v24 : List Nat) (v25 : List Nat) (v26 : Nat) (v27 : Int) (F : Fr) (hm : F.ids.length = 0) (h0 : St F [] F.H0) (hA : DVs.Ok F [] [.bslc (BR.root 0) (.f32 v24), .bslc (BR.root 1) (.f32 v25), .flt .f32 v26, .int .i64 v27]) {y : Nat × Nat × (List Nat)} (hy : spec_l07Grow_g v24 v25 v26 v27 = some y) : ∃ H', FnOk Try.prog 37 (DVs.av F [.bslc (BR.root 0) (.f32 v24), .bslc (BR.root 1) (.f32 v25), .flt .f32 v26, .int .i64 v27]) F.H0 ((spec_l07Grow_enc v24 v25 v26 v27 y).1.av F) H' ∧ St F (spec_l07Grow_enc v24 v25 v26 v27 y).2 H' ∧ (spec_l07Grow_enc v24 v25 v26 v27 y).1.Ok F (spec_l07Grow_enc v24 v25 v26 v27 y).2 :=
  fn_fin tok spec_l07Grow_hO mixed Try.func37 Try.call37 (by kernel_rfl) (LoopsOk_eq (l := [(0, bodyOf Try.f37 0), (2, bodyOf Try.f37 2)]) (by kernel_rfl) ⟨spec_l07Grow_l0_ok v24 v25 v26 v27, spec_l07Grow_l2_ok v24 v25 v26 v27, trivial⟩) (spec_l07Grow_den v24 v25 v26 v27) hy hm h0 hA
noncomputable def spec_l07Grow_F : DFn := fun args L =>
  match args with
  | [a1, a2, .flt .f32 v26, .int .i64 v27] =>
    optT (rowF32 L a1) fun v24 =>
    optT (rowF32 L a2) fun v25 =>
    .call (spec_l07Grow_g v24 v25 v26 v27) fun y => .leaf (.tup [.own (L.length + 0) 0 ((y.2.2).length), .flt .f32 y.1, .flt .f32 y.2.1], L ++ [.row (.f32 y.2.2) 0])
  | _ => .fail
theorem spec_l07Grow_Fok : COk Try.prog 37 spec_l07Grow_F true := by
  intro F L H args r L' hs ha hr
  unfold spec_l07Grow_F at hr
  split at hr
  · rename_i a1 a2 v26 v27
    obtain ⟨v24, hv24, hr⟩ := optT_run hr
    obtain ⟨v25, hv25, hr⟩ := optT_run hr
    simp only [Tree.run] at hr
    obtain ⟨y, hy, hr⟩ := Option.bind_eq_some_iff.1 hr
    simp only [Tree.run, Option.some.injEq, Prod.mk.injEq] at hr
    obtain ⟨rfl, rfl⟩ := hr
    exact call_ok1 hs (fun k => (([a1.av F, a2.av F] : List AV)[k]?).getD .top) [a1, a2, .flt .f32 v26, .int .i64 v27] [.bslc (BR.root 0) (.f32 v24), .bslc (BR.root 1) (.f32 v25), .flt .f32 v26, .int .i64 v27] (fun F' h0 hi hρ => ⟨by simp [DVs.av, DV.av, BR.av, hρ], spec_l07Grow_fn v24 v25 v26 v27 F' (by rw [hi]; rfl) (st_nil hi) ⟨bslc_ok hi (by rw [h0, hρ]; exact rowF32_ok hs (DVs.okAt ha 0 rfl) hv24), bslc_ok hi (by rw [h0, hρ]; exact rowF32_ok hs (DVs.okAt ha 1 rfl) hv25), trivial, trivial, trivial⟩ hy⟩) rfl rfl
  · cases hr
/-! spec.ReflectionsOf -/
noncomputable def spec_ReflectionsOf_l0_T (v10 : List Nat) (s : Nat × Int × (List Nat) × (List Nat)) : Tree ((Nat × Int × (List Nat) × (List Nat)) ⊕ ((Unit) ⊕ (Nat × (List Nat) × (List Nat)))) :=
  (.br (decide (s.2.1 < ((v10.length : Nat) : Int))) (
   (.call (spec_l07Grow_g v10 s.2.2.1 s.1 s.2.1) fun v54 =>
   (.br (!(fgrt .f32 v54.1 (0 : Nat))) (
    .leaf (.inr (.inl ()))
   ) (
    (.grd (fits (s.2.2.2 ++ ([v54.2.1] : List Nat)).length) <|
    .leaf (.inl (v54.1, IntKind.i64.wrap (s.2.1 + (1 : Int)), v54.2.2, s.2.2.2 ++ ([v54.2.1] : List Nat))))
   )))
  ) (
   .leaf (.inr (.inr (s.1, s.2.2.1, s.2.2.2)))
  ))

noncomputable def spec_ReflectionsOf_l0_g (v10 : List Nat) (s0 : Nat × Int × (List Nat) × (List Nat)) : Option ((Unit) ⊕ (Nat × (List Nat) × (List Nat))) := whileM (fun s => (spec_ReflectionsOf_l0_T v10 s).run) s0
def spec_ReflectionsOf_l0_E (v10 : List Nat) (s : Nat × Int × (List Nat) × (List Nat)) : Sd := ([.bslc (BR.root 0) (.f32 v10), .top, .top, .top, .top, .top, .own 0 0 ((s.2.2.1).length), .flt .f32 s.1, .own 1 0 ((s.2.2.2).length), .int .i64 s.2.1, .top, .top, .top, .top, .top, .top, .top, .top, .top, .top, .top, .top, .top, .top, .top, .top, .top, .top, .top, .top, .top, .top, .top, .top, .top, .top, .top, .top, .top, .top, .top, .top, .top, .top, .top, .top, .top, .top, .top, .top, .top, .top, .top, .top, .top, .top, .top, .top, .top, .top, .top, .top, .top, .top, .top, .top, .top, .top], [.row (.f32 s.2.2.1) 0, .row (.f32 s.2.2.2) 0])
def spec_ReflectionsOf_l0_X (v10 : List Nat) (x : (Unit) ⊕ (Nat × (List Nat) × (List Nat))) : Out := (match x with | .inl x => (.ret, [.top, .top, .nilslc, .nilslc, .flt .f32 (0 : Nat), .lit false, .top, .top, .top, .top, .top, .top, .top, .top, .top, .top, .top, .top, .top, .top, .top, .top, .top, .top, .top, .top, .top, .top, .top, .top, .top, .top, .top, .top, .top, .top, .top, .top, .top, .top, .top, .top, .top, .top, .top, .top, .top, .top, .top, .top, .top, .top, .top, .top, .top, .top, .top, .top, .top, .top, .top, .top, .top, .top, .top, .top, .top, .top], []) | .inr x => (.normal, [.top, .top, .top, .top, .top, .top, .own 0 0 ((x.2.1).length), .flt .f32 x.1, .own 1 0 ((x.2.2).length), .top, .top, .top, .top, .top, .top, .top, .top, .top, .top, .top, .top, .top, .top, .top, .top, .top, .top, .top, .top, .top, .top, .top, .top, .top, .top, .top, .top, .top, .top, .top, .top, .top, .top, .top, .top, .top, .top, .top, .top, .top, .top, .top, .top, .top, .top, .top, .top, .top, .top, .top, .top, .top, .top, .top, .top, .top, .top, .top], [.row (.f32 x.2.1) 0, .row (.f32 x.2.2) 0]))
def spec_ReflectionsOf_l0_kill : List Nat := [0, 1, 1, 1, 1, 1, 0, 0, 0, 0, 1, 1, 1, 1, 1, 1, 1, 1, 1, 1, 1, 1, 1, 1, 1, 1, 1, 1, 1, 1, 1, 1, 1, 1, 1, 1, 1, 1, 1, 1, 1, 1, 1, 1, 1, 1, 1, 1, 1, 1, 1, 1, 1, 1, 1, 1, 1, 1, 1, 1, 1, 1, 1, 1, 1, 1, 1, 1]
def spec_ReflectionsOf_l0_nx : Exit → List Nat
  | .exit 0 => [1, 1, 1, 1, 1, 1, 0, 0, 0, 1, 1, 1, 1, 1, 1, 1, 1, 1, 1, 1, 1, 1, 1, 1, 1, 1, 1, 1, 1, 1, 1, 1, 1, 1, 1, 1, 1, 1, 1, 1, 1, 1, 1, 1, 1, 1, 1, 1, 1, 1, 1, 1, 1, 1, 1, 1, 1, 1, 1, 1, 1, 1, 1, 1, 1, 1, 1, 1]
  | .ret => [1, 1, 0, 0, 0, 0, 1, 1, 1, 1, 1, 1, 1, 1, 1, 1, 1, 1, 1, 1, 1, 1, 1, 1, 1, 1, 1, 1, 1, 1, 1, 1, 1, 1, 1, 1, 1, 1, 1, 1, 1, 1, 1, 1, 1, 1, 1, 1, 1, 1, 1, 1, 1, 1, 1, 1, 1, 1, 1, 1, 1, 1, 1, 1, 1, 1, 1, 1]
  | _ => []
noncomputable def spec_ReflectionsOf_LO (v10 : List Nat) : LOr := fun id e L =>
  match id with
  | 0 => .need (normA 0 spec_ReflectionsOf_l0_kill e L = some (spec_ReflectionsOf_l0_E v10 ((gF (vAt e 7)), (gI (vAt e 9)), (gRF L (vAt e 6)), (gRF L (vAt e 8))))) (.call (spec_ReflectionsOf_l0_g v10 ((gF (vAt e 7)), (gI (vAt e 9)), (gRF L (vAt e 6)), (gRF L (vAt e 8)))) fun x => .sum x (fun b0 => .leaf (spec_ReflectionsOf_l0_X v10 (.inl b0))) (fun c0 => .leaf (spec_ReflectionsOf_l0_X v10 (.inr c0))))
  | _ => .fail
noncomputable def spec_ReflectionsOf_tab : List (FuncId × DFn × Bool) := [(36, spec_l07Short_F, true), (37, spec_l07Grow_F, true), (38, spec_l02Finite_F, true), (39, spec_l01Finite_F, true)]
theorem spec_ReflectionsOf_hO : OrcOk Try.prog (tabD spec_ReflectionsOf_tab) (tabM spec_ReflectionsOf_tab) := tabD_cons spec_l07Short_Fok (tabD_cons spec_l07Grow_Fok (tabD_cons spec_l02Finite_Fok (tabD_cons spec_l01Finite_Fok (tabD_nil _))))
theorem spec_ReflectionsOf_l0_be (v10 : List Nat) (s : Nat × Int × (List Nat) × (List Nat)) : bodyT TT (tabD spec_ReflectionsOf_tab) (tabM spec_ReflectionsOf_tab) (spec_ReflectionsOf_LO v10) 0 spec_ReflectionsOf_l0_kill spec_ReflectionsOf_l0_nx (bodyOf Try.f9 0) 0 (spec_ReflectionsOf_l0_E v10 s) = (spec_ReflectionsOf_l0_T v10 s).bind fun y => .leaf (outS (spec_ReflectionsOf_l0_E v10) (spec_ReflectionsOf_l0_X v10) y) := by kernel_rfl
theorem spec_ReflectionsOf_l0_ok (v10 : List Nat) : LSound Try.prog 0 (spec_ReflectionsOf_LO v10) 0 (bodyOf Try.f9 0) := by
  intro e L out h
  exact lo_ok (E := spec_ReflectionsOf_l0_E v10) (gT := spec_ReflectionsOf_l0_T v10) (X := spec_ReflectionsOf_l0_X v10) (s0 := ((gF (vAt e 7)), (gI (vAt e 9)), (gRF L (vAt e 6)), (gRF L (vAt e 8)))) tok spec_ReflectionsOf_hO mixed (LoopsOk_eq (l := []) (by kernel_rfl) trivial) (spec_ReflectionsOf_l0_be v10) rfl (by intro x; (cases x with | inl b => rfl | inr x => exact rfl)) h
noncomputable def spec_ReflectionsOf_T (v10 : List Nat) : Tree ((Unit) ⊕ (Nat × (List Nat) × (List Nat))) :=
  (.call (spec_l07Short_g v10) fun v21 =>
  (.br (!v21) (
   .leaf (.inl ())
  ) (
   (.grd (inb (0 : Int) v10.length) <|
   (.br (!(fgrt .f32 (nth v10 (Int.toNat (0 : Int))) (0 : Nat))) (
    .leaf (.inl ())
   ) (
    (.grd (inb (0 : Int) v10.length) <|
    (.need (some (spec_ReflectionsOf_l0_E v10 (nth v10 (Int.toNat (0 : Int)), (1 : Int), ([] : List Nat), ([] : List Nat))) = some (spec_ReflectionsOf_l0_E v10 (nth v10 (Int.toNat (0 : Int)), (1 : Int), ([] : List Nat), ([] : List Nat)))) <|
    (.call (spec_ReflectionsOf_l0_g v10 (nth v10 (Int.toNat (0 : Int)), (1 : Int), ([] : List Nat), ([] : List Nat))) fun v55 =>
    (.sum v55 (fun v56 =>
     .leaf (.inl ())
    ) (fun v57 =>
     (.call (spec_l02Finite_g v57.2.1) fun v58 =>
     (.br (!v58) (
      .leaf (.inl ())
     ) (
      (.call (spec_l02Finite_g v57.2.2) fun v59 =>
      (.br (!v59) (
       .leaf (.inl ())
      ) (
       (.br (!(spec_l01Finite_v v57.1)) (
        .leaf (.inl ())
       ) (
        .leaf (.inr (v57.1, v57.2.1, v57.2.2))
       ))
      )))
     )))
    )))))
   )))
  )))

noncomputable def spec_ReflectionsOf_g (v10 : List Nat) : Option ((Unit) ⊕ (Nat × (List Nat) × (List Nat))) := (spec_ReflectionsOf_T v10).run
def spec_ReflectionsOf_enc (v10 : List Nat) (y : (Unit) ⊕ (Nat × (List Nat) × (List Nat))) : Rs := (match y with | .inl y => (.tup [.nilslc, .nilslc, .flt .f32 (0 : Nat), .lit false], []) | .inr y => (.tup [.own 0 0 ((y.2.1).length), .own 1 0 ((y.2.2).length), .flt .f32 y.1, .lit true], [.row (.f32 y.2.1) 0, .row (.f32 y.2.2) 0]))
theorem spec_ReflectionsOf_den (v10 : List Nat) : (den TT (tabD spec_ReflectionsOf_tab) (tabM spec_ReflectionsOf_tab) (spec_ReflectionsOf_LO v10) (codeOf Try.f9) ([.bslc (BR.root 0) (.f32 v10)] ++ List.replicate (Try.f9.ntmps - ([.bslc (BR.root 0) (.f32 v10)] : List DV).length) .undef) []).bind (retD TT Try.f9.results.toList 0) = (spec_ReflectionsOf_T v10).bind fun y => .leaf (spec_ReflectionsOf_enc v10 y) := by kernel_rfl
theorem spec_ReflectionsOf_fn (v10 : List Nat) (F : Fr) (hm : F.ids.length = 0) (h0 : St F [] F.H0) (hA : DVs.Ok F [] [.bslc (BR.root 0) (.f32 v10)]) {y : (Unit) ⊕ (Nat × (List Nat) × (List Nat))} (hy : spec_ReflectionsOf_g v10 = some y) : ∃ H', FnOk Try.prog 9 (DVs.av F [.bslc (BR.root 0) (.f32 v10)]) F.H0 ((spec_ReflectionsOf_enc v10 y).1.av F) H' ∧ St F (spec_ReflectionsOf_enc v10 y).2 H' ∧ (spec_ReflectionsOf_enc v10 y).1.Ok F (spec_ReflectionsOf_enc v10 y).2 :=
  fn_fin tok spec_ReflectionsOf_hO mixed Try.func9 Try.call9 (by kernel_rfl) (LoopsOk_eq (l := [(0, bodyOf Try.f9 0)]) (by kernel_rfl) ⟨spec_ReflectionsOf_l0_ok v10, trivial⟩) (spec_ReflectionsOf_den v10) hy hm h0 hA
noncomputable def spec_ReflectionsOf_F : DFn := fun args L =>
  match args with
  | [a1] =>
    optT (rowF32 L a1) fun v10 =>
    .call (spec_ReflectionsOf_g v10) fun y => .sum y (fun y0 => .leaf (.tup [.nilslc, .nilslc, .flt .f32 (0 : Nat), .lit false], L)) (fun z0 => .leaf (.tup [.own (L.length + 0) 0 ((z0.2.1).length), .own (L.length + 1) 0 ((z0.2.2).length), .flt .f32 z0.1, .lit true], L ++ [.row (.f32 z0.2.1) 0, .row (.f32 z0.2.2) 0]))
  | _ => .fail
theorem spec_ReflectionsOf_Fok : COk Try.prog 9 spec_ReflectionsOf_F true := by
  intro F L H args r L' hs ha hr
  unfold spec_ReflectionsOf_F at hr
  split at hr
  · rename_i a1
    obtain ⟨v10, hv10, hr⟩ := optT_run hr
    simp only [Tree.run] at hr
    obtain ⟨y, hy, hr⟩ := Option.bind_eq_some_iff.1 hr
    cases y with
    | inl y =>
      simp only [Tree.run, Option.some.injEq, Prod.mk.injEq] at hr
      obtain ⟨rfl, rfl⟩ := hr
      exact call_ok0 hs (fun k => (([a1.av F] : List AV)[k]?).getD .top) [a1] [.bslc (BR.root 0) (.f32 v10)] (fun F' h0 hi hρ => ⟨by simp [DVs.av, DV.av, BR.av, hρ], spec_ReflectionsOf_fn v10 F' (by rw [hi]; rfl) (st_nil hi) ⟨bslc_ok hi (by rw [h0, hρ]; exact rowF32_ok hs (DVs.okAt ha 0 rfl) hv10), trivial⟩ hy⟩) rfl
    | inr y =>
      simp only [Tree.run, Option.some.injEq, Prod.mk.injEq] at hr
      obtain ⟨rfl, rfl⟩ := hr
      exact call_ok1 hs (fun k => (([a1.av F] : List AV)[k]?).getD .top) [a1] [.bslc (BR.root 0) (.f32 v10)] (fun F' h0 hi hρ => ⟨by simp [DVs.av, DV.av, BR.av, hρ], spec_ReflectionsOf_fn v10 F' (by rw [hi]; rfl) (st_nil hi) ⟨bslc_ok hi (by rw [h0, hρ]; exact rowF32_ok hs (DVs.okAt ha 0 rfl) hv10), trivial⟩ hy⟩) rfl rfl
  · cases hr
/-! impl.length[float32] -/
noncomputable def impl_lengthF_LO (v68 : List Nat) : LOr := fun id e L =>
  match id with
  | _ => .fail
noncomputable def impl_lengthF_tab : List (FuncId × DFn × Bool) := []
theorem impl_lengthF_hO : OrcOk Try.prog (tabD impl_lengthF_tab) (tabM impl_lengthF_tab) := tabD_nil _
noncomputable def impl_lengthF_T (v68 : List Nat) : Tree (Int) :=
  .leaf ((v68.length : Nat) : Int)

noncomputable def impl_lengthF_g (v68 : List Nat) : Option (Int) := (impl_lengthF_T v68).run
def impl_lengthF_enc (v68 : List Nat) (y : Int) : Rs := (.int .i64 y, [])
theorem impl_lengthF_den (v68 : List Nat) : (den TT (tabD impl_lengthF_tab) (tabM impl_lengthF_tab) (impl_lengthF_LO v68) (codeOf Try.f82) ([.bslc (BR.root 0) (.f32 v68)] ++ List.replicate (Try.f82.ntmps - ([.bslc (BR.root 0) (.f32 v68)] : List DV).length) .undef) []).bind (retD TT Try.f82.results.toList 0) = (impl_lengthF_T v68).bind fun y => .leaf (impl_lengthF_enc v68 y) := by kernel_rfl
theorem impl_lengthF_fn (v68 : List Nat) (F : Fr) (hm : F.ids.length = 0) (h0 : St F [] F.H0) (hA : DVs.Ok F [] [.bslc (BR.root 0) (.f32 v68)]) {y : Int} (hy : impl_lengthF_g v68 = some y) : ∃ H', FnOk Try.prog 82 (DVs.av F [.bslc (BR.root 0) (.f32 v68)]) F.H0 ((impl_lengthF_enc v68 y).1.av F) H' ∧ St F (impl_lengthF_enc v68 y).2 H' ∧ (impl_lengthF_enc v68 y).1.Ok F (impl_lengthF_enc v68 y).2 :=
  fn_fin tok impl_lengthF_hO mixed Try.func82 Try.call82 (by kernel_rfl) (LoopsOk_eq (l := []) (by kernel_rfl) trivial) (impl_lengthF_den v68) hy hm h0 hA
def impl_lengthF_v (v68 : List Nat) : Int :=
  ((v68.length : Nat) : Int)
theorem impl_lengthF_tot (v68 : List Nat) : impl_lengthF_g v68 = some (impl_lengthF_v v68) := by
  unfold impl_lengthF_g impl_lengthF_T impl_lengthF_v
  simp only [Tree.run]
  repeat' (first | rfl | split)
noncomputable def impl_lengthF_F : DFn := fun args L =>
  match args with
  | [a1] =>
    optT (rowF32 L a1) fun v68 =>
    .leaf (.int .i64 (impl_lengthF_v v68), L)
  | _ => .fail
theorem impl_lengthF_Fok : COk Try.prog 82 impl_lengthF_F true := by
  intro F L H args r L' hs ha hr
  unfold impl_lengthF_F at hr
  split at hr
  · rename_i a1
    obtain ⟨v68, hv68, hr⟩ := optT_run hr
    have hy := impl_lengthF_tot v68
    generalize impl_lengthF_v v68 = y at hy hr
    simp only [Tree.run, Option.some.injEq, Prod.mk.injEq] at hr
    obtain ⟨rfl, rfl⟩ := hr
    exact call_ok0 hs (fun k => (([a1.av F] : List AV)[k]?).getD .top) [a1] [.bslc (BR.root 0) (.f32 v68)] (fun F' h0 hi hρ => ⟨by simp [DVs.av, DV.av, BR.av, hρ], impl_lengthF_fn v68 F' (by rw [hi]; rfl) (st_nil hi) ⟨bslc_ok hi (by rw [h0, hρ]; exact rowF32_ok hs (DVs.okAt ha 0 rfl) hv68), trivial⟩ hy⟩) rfl
  · cases hr
/-! impl.inRange -/
noncomputable def impl_inRange_LO (v69 : Int) (v70 : Int) (v71 : Int) : LOr := fun id e L =>
  match id with
  | _ => .fail
noncomputable def impl_inRange_tab : List (FuncId × DFn × Bool) := []
theorem impl_inRange_hO : OrcOk Try.prog (tabD impl_inRange_tab) (tabM impl_inRange_tab) := tabD_nil _
noncomputable def impl_inRange_T (v69 : Int) (v70 : Int) (v71 : Int) : Tree (Bool) :=
  (.br (decide (v70 ≤ v69)) (
   .leaf (decide (v69 ≤ v71))
  ) (
   .leaf false
  ))

noncomputable def impl_inRange_g (v69 : Int) (v70 : Int) (v71 : Int) : Option (Bool) := (impl_inRange_T v69 v70 v71).run
def impl_inRange_enc (v69 : Int) (v70 : Int) (v71 : Int) (y : Bool) : Rs := (.bool y, [])
theorem impl_inRange_den (v69 : Int) (v70 : Int) (v71 : Int) : (den TT (tabD impl_inRange_tab) (tabM impl_inRange_tab) (impl_inRange_LO v69 v70 v71) (codeOf Try.f94) ([.int .i64 v69, .int .i64 v70, .int .i64 v71] ++ List.replicate (Try.f94.ntmps - ([.int .i64 v69, .int .i64 v70, .int .i64 v71] : List DV).length) .undef) []).bind (retD TT Try.f94.results.toList 0) = (impl_inRange_T v69 v70 v71).bind fun y => .leaf (impl_inRange_enc v69 v70 v71 y) := by kernel_rfl
theorem impl_inRange_fn (v69 : Int) (v70 : Int) (v71 : Int) (F : Fr) (hm : F.ids.length = 0) (h0 : St F [] F.H0) (hA : DVs.Ok F [] [.int .i64 v69, .int .i64 v70, .int .i64 v71]) {y : Bool} (hy : impl_inRange_g v69 v70 v71 = some y) : ∃ H', FnOk Try.prog 94 (DVs.av F [.int .i64 v69, .int .i64 v70, .int .i64 v71]) F.H0 ((impl_inRange_enc v69 v70 v71 y).1.av F) H' ∧ St F (impl_inRange_enc v69 v70 v71 y).2 H' ∧ (impl_inRange_enc v69 v70 v71 y).1.Ok F (impl_inRange_enc v69 v70 v71 y).2 :=
  fn_fin tok impl_inRange_hO mixed Try.func94 Try.call94 (by kernel_rfl) (LoopsOk_eq (l := []) (by kernel_rfl) trivial) (impl_inRange_den v69 v70 v71) hy hm h0 hA
def impl_inRange_v (v69 : Int) (v70 : Int) (v71 : Int) : Bool :=
  if (decide (v70 ≤ v69)) = true then (
   decide (v69 ≤ v71)
  ) else (
   false
  )
theorem impl_inRange_tot (v69 : Int) (v70 : Int) (v71 : Int) : impl_inRange_g v69 v70 v71 = some (impl_inRange_v v69 v70 v71) := by
  unfold impl_inRange_g impl_inRange_T impl_inRange_v
  simp only [Tree.run]
  repeat' (first | rfl | split)
noncomputable def impl_inRange_F : DFn := fun args L =>
  match args with
  | [.int .i64 v69, .int .i64 v70, .int .i64 v71] =>
    .leaf (.bool (impl_inRange_v v69 v70 v71), L)
  | _ => .fail
theorem impl_inRange_Fok : COk Try.prog 94 impl_inRange_F true := by
  intro F L H args r L' hs ha hr
  unfold impl_inRange_F at hr
  split at hr
  · rename_i v69 v70 v71
    have hy := impl_inRange_tot v69 v70 v71
    generalize impl_inRange_v v69 v70 v71 = y at hy hr
    simp only [Tree.run, Option.some.injEq, Prod.mk.injEq] at hr
    obtain ⟨rfl, rfl⟩ := hr
    exact call_ok0 hs (fun k => (([] : List AV)[k]?).getD .top) [.int .i64 v69, .int .i64 v70, .int .i64 v71] [.int .i64 v69, .int .i64 v70, .int .i64 v71] (fun F' h0 hi hρ => ⟨by simp [DVs.av, DV.av, BR.av, hρ], impl_inRange_fn v69 v70 v71 F' (by rw [hi]; rfl) (st_nil hi) ⟨trivial, trivial, trivial, trivial⟩ hy⟩) rfl
  · cases hr
/-! math.IsNaN -/
noncomputable def math_IsNaN_LO (v79 : Nat) : LOr := fun id e L =>
  match id with
  | _ => .fail
noncomputable def math_IsNaN_tab : List (FuncId × DFn × Bool) := []
theorem math_IsNaN_hO : OrcOk Try.prog (tabD math_IsNaN_tab) (tabM math_IsNaN_tab) := tabD_nil _
noncomputable def math_IsNaN_T (v79 : Nat) : Tree (Bool) :=
  .leaf (!feq .f64 v79 v79)

noncomputable def math_IsNaN_g (v79 : Nat) : Option (Bool) := (math_IsNaN_T v79).run
def math_IsNaN_enc (v79 : Nat) (y : Bool) : Rs := (.bool y, [])
theorem math_IsNaN_den (v79 : Nat) : (den TT (tabD math_IsNaN_tab) (tabM math_IsNaN_tab) (math_IsNaN_LO v79) (codeOf Try.f156) ([.flt .f64 v79] ++ List.replicate (Try.f156.ntmps - ([.flt .f64 v79] : List DV).length) .undef) []).bind (retD TT Try.f156.results.toList 0) = (math_IsNaN_T v79).bind fun y => .leaf (math_IsNaN_enc v79 y) := by kernel_rfl
theorem math_IsNaN_fn (v79 : Nat) (F : Fr) (hm : F.ids.length = 0) (h0 : St F [] F.H0) (hA : DVs.Ok F [] [.flt .f64 v79]) {y : Bool} (hy : math_IsNaN_g v79 = some y) : ∃ H', FnOk Try.prog 156 (DVs.av F [.flt .f64 v79]) F.H0 ((math_IsNaN_enc v79 y).1.av F) H' ∧ St F (math_IsNaN_enc v79 y).2 H' ∧ (math_IsNaN_enc v79 y).1.Ok F (math_IsNaN_enc v79 y).2 :=
  fn_fin tok math_IsNaN_hO mixed Try.func156 Try.call156 (by kernel_rfl) (LoopsOk_eq (l := []) (by kernel_rfl) trivial) (math_IsNaN_den v79) hy hm h0 hA
def math_IsNaN_v (v79 : Nat) : Bool :=
  !feq .f64 v79 v79
theorem math_IsNaN_tot (v79 : Nat) : math_IsNaN_g v79 = some (math_IsNaN_v v79) := by
  unfold math_IsNaN_g math_IsNaN_T math_IsNaN_v
  simp only [Tree.run]
  repeat' (first | rfl | split)
noncomputable def math_IsNaN_F : DFn := fun args L =>
  match args with
  | [.flt .f64 v79] =>
    .leaf (.bool (math_IsNaN_v v79), L)
  | _ => .fail
theorem math_IsNaN_Fok : COk Try.prog 156 math_IsNaN_F true := by
  intro F L H args r L' hs ha hr
  unfold math_IsNaN_F at hr
  split at hr
  · rename_i v79
    have hy := math_IsNaN_tot v79
    generalize math_IsNaN_v v79 = y at hy hr
    simp only [Tree.run, Option.some.injEq, Prod.mk.injEq] at hr
    obtain ⟨rfl, rfl⟩ := hr
    exact call_ok0 hs (fun k => (([] : List AV)[k]?).getD .top) [.flt .f64 v79] [.flt .f64 v79] (fun F' h0 hi hρ => ⟨by simp [DVs.av, DV.av, BR.av, hρ], math_IsNaN_fn v79 F' (by rw [hi]; rfl) (st_nil hi) ⟨trivial, trivial⟩ hy⟩) rfl
  · cases hr
/-! math.IsInf -/
noncomputable def math_IsInf_LO (v80 : Nat) (v81 : Int) : LOr := fun id e L =>
  match id with
  | _ => .fail
noncomputable def math_IsInf_tab : List (FuncId × DFn × Bool) := [(175, Abs_F, true)]
theorem math_IsInf_hO : OrcOk Try.prog (tabD math_IsInf_tab) (tabM math_IsInf_tab) := tabD_cons Abs_Fok (tabD_nil _)
noncomputable def math_IsInf_T (v80 : Nat) (v81 : Int) : Tree (Bool) :=
  (.br (decide (v81 = (0 : Int))) (
   .leaf (fgrt .f64 (fabs v80) (9218868437227405311 : Nat))
  ) (
   (.br (decide (v81 < (0 : Int))) (
    .leaf (fgrt .f64 (fneg .f64 v80) (9218868437227405311 : Nat))
   ) (
    .leaf (fgrt .f64 v80 (9218868437227405311 : Nat))
   ))
  ))

noncomputable def math_IsInf_g (v80 : Nat) (v81 : Int) : Option (Bool) := (math_IsInf_T v80 v81).run
def math_IsInf_enc (v80 : Nat) (v81 : Int) (y : Bool) : Rs := (.bool y, [])
theorem math_IsInf_den (v80 : Nat) (v81 : Int) : (den TT (tabD math_IsInf_tab) (tabM math_IsInf_tab) (math_IsInf_LO v80 v81) (codeOf Try.f157) ([.flt .f64 v80, .int .i64 v81] ++ List.replicate (Try.f157.ntmps - ([.flt .f64 v80, .int .i64 v81] : List DV).length) .undef) []).bind (retD TT Try.f157.results.toList 0) = (math_IsInf_T v80 v81).bind fun y => .leaf (math_IsInf_enc v80 v81 y) := by kernel_rfl
theorem math_IsInf_fn (v80 : Nat) (v81 : Int) (F : Fr) (hm : F.ids.length = 0) (h0 : St F [] F.H0) (hA : DVs.Ok F [] [.flt .f64 v80, .int .i64 v81]) {y : Bool} (hy : math_IsInf_g v80 v81 = some y) : ∃ H', FnOk Try.prog 157 (DVs.av F [.flt .f64 v80, .int .i64 v81]) F.H0 ((math_IsInf_enc v80 v81 y).1.av F) H' ∧ St F (math_IsInf_enc v80 v81 y).2 H' ∧ (math_IsInf_enc v80 v81 y).1.Ok F (math_IsInf_enc v80 v81 y).2 :=
  fn_fin tok math_IsInf_hO mixed Try.func157 Try.call157 (by kernel_rfl) (LoopsOk_eq (l := []) (by kernel_rfl) trivial) (math_IsInf_den v80 v81) hy hm h0 hA
def math_IsInf_v (v80 : Nat) (v81 : Int) : Bool :=
  if (decide (v81 = (0 : Int))) = true then (
   fgrt .f64 (fabs v80) (9218868437227405311 : Nat)
  ) else (
   if (decide (v81 < (0 : Int))) = true then (
    fgrt .f64 (fneg .f64 v80) (9218868437227405311 : Nat)
   ) else (
    fgrt .f64 v80 (9218868437227405311 : Nat)
   )
  )
theorem math_IsInf_tot (v80 : Nat) (v81 : Int) : math_IsInf_g v80 v81 = some (math_IsInf_v v80 v81) := by
  unfold math_IsInf_g math_IsInf_T math_IsInf_v
  simp only [Tree.run]
  repeat' (first | rfl | split)
noncomputable def math_IsInf_F : DFn := fun args L =>
  match args with
  | [.flt .f64 v80, .int .i64 v81] =>
    .leaf (.bool (math_IsInf_v v80 v81), L)
  | _ => .fail
theorem math_IsInf_Fok : COk Try.prog 157 math_IsInf_F true := by
  intro F L H args r L' hs ha hr
  unfold math_IsInf_F at hr
  split at hr
  · rename_i v80 v81
    have hy := math_IsInf_tot v80 v81
    generalize math_IsInf_v v80 v81 = y at hy hr
    simp only [Tree.run, Option.some.injEq, Prod.mk.injEq] at hr
    obtain ⟨rfl, rfl⟩ := hr
    exact call_ok0 hs (fun k => (([] : List AV)[k]?).getD .top) [.flt .f64 v80, .int .i64 v81] [.flt .f64 v80, .int .i64 v81] (fun F' h0 hi hρ => ⟨by simp [DVs.av, DV.av, BR.av, hρ], math_IsInf_fn v80 v81 F' (by rw [hi]; rfl) (st_nil hi) ⟨trivial, trivial, trivial⟩ hy⟩) rfl
  · cases hr
/-! impl.isFinite64 -/
noncomputable def impl_isFinite64_LO (v78 : Nat) : LOr := fun id e L =>
  match id with
  | _ => .fail
noncomputable def impl_isFinite64_tab : List (FuncId × DFn × Bool) := [(156, math_IsNaN_F, true), (157, math_IsInf_F, true)]
theorem impl_isFinite64_hO : OrcOk Try.prog (tabD impl_isFinite64_tab) (tabM impl_isFinite64_tab) := tabD_cons math_IsNaN_Fok (tabD_cons math_IsInf_Fok (tabD_nil _))
noncomputable def impl_isFinite64_T (v78 : Nat) : Tree (Bool) :=
  (.br (!(math_IsNaN_v v78)) (
   .leaf (!(math_IsInf_v v78 (0 : Int)))
  ) (
   .leaf false
  ))

noncomputable def impl_isFinite64_g (v78 : Nat) : Option (Bool) := (impl_isFinite64_T v78).run
def impl_isFinite64_enc (v78 : Nat) (y : Bool) : Rs := (.bool y, [])
theorem impl_isFinite64_den (v78 : Nat) : (den TT (tabD impl_isFinite64_tab) (tabM impl_isFinite64_tab) (impl_isFinite64_LO v78) (codeOf Try.f114) ([.flt .f64 v78] ++ List.replicate (Try.f114.ntmps - ([.flt .f64 v78] : List DV).length) .undef) []).bind (retD TT Try.f114.results.toList 0) = (impl_isFinite64_T v78).bind fun y => .leaf (impl_isFinite64_enc v78 y) := by kernel_rfl
theorem impl_isFinite64_fn (v78 : Nat) (F : Fr) (hm : F.ids.length = 0) (h0 : St F [] F.H0) (hA : DVs.Ok F [] [.flt .f64 v78]) {y : Bool} (hy : impl_isFinite64_g v78 = some y) : ∃ H', FnOk Try.prog 114 (DVs.av F [.flt .f64 v78]) F.H0 ((impl_isFinite64_enc v78 y).1.av F) H' ∧ St F (impl_isFinite64_enc v78 y).2 H' ∧ (impl_isFinite64_enc v78 y).1.Ok F (impl_isFinite64_enc v78 y).2 :=
  fn_fin tok impl_isFinite64_hO mixed Try.func114 Try.call114 (by kernel_rfl) (LoopsOk_eq (l := []) (by kernel_rfl) trivial) (impl_isFinite64_den v78) hy hm h0 hA
def impl_isFinite64_v (v78 : Nat) : Bool :=
  if (!(math_IsNaN_v v78)) = true then (
   !(math_IsInf_v v78 (0 : Int))
  ) else (
   false
  )
theorem impl_isFinite64_tot (v78 : Nat) : impl_isFinite64_g v78 = some (impl_isFinite64_v v78) := by
  unfold impl_isFinite64_g impl_isFinite64_T impl_isFinite64_v
  simp only [Tree.run]
  repeat' (first | rfl | split)
noncomputable def impl_isFinite64_F : DFn := fun args L =>
  match args with
  | [.flt .f64 v78] =>
    .leaf (.bool (impl_isFinite64_v v78), L)
  | _ => .fail
theorem impl_isFinite64_Fok : COk Try.prog 114 impl_isFinite64_F true := by
  intro F L H args r L' hs ha hr
  unfold impl_isFinite64_F at hr
  split at hr
  · rename_i v78
    have hy := impl_isFinite64_tot v78
    generalize impl_isFinite64_v v78 = y at hy hr
    simp only [Tree.run, Option.some.injEq, Prod.mk.injEq] at hr
    obtain ⟨rfl, rfl⟩ := hr
    exact call_ok0 hs (fun k => (([] : List AV)[k]?).getD .top) [.flt .f64 v78] [.flt .f64 v78] (fun F' h0 hi hρ => ⟨by simp [DVs.av, DV.av, BR.av, hρ], impl_isFinite64_fn v78 F' (by rw [hi]; rfl) (st_nil hi) ⟨trivial, trivial⟩ hy⟩) rfl
  · cases hr
/-! impl.IsFinite -/
noncomputable def impl_IsFinite_LO (v77 : Nat) : LOr := fun id e L =>
  match id with
  | _ => .fail
noncomputable def impl_IsFinite_tab : List (FuncId × DFn × Bool) := [(114, impl_isFinite64_F, true)]
theorem impl_IsFinite_hO : OrcOk Try.prog (tabD impl_IsFinite_tab) (tabM impl_IsFinite_tab) := tabD_cons impl_isFinite64_Fok (tabD_nil _)
noncomputable def impl_IsFinite_T (v77 : Nat) : Tree (Bool) :=
  .leaf (impl_isFinite64_v (wid v77))

noncomputable def impl_IsFinite_g (v77 : Nat) : Option (Bool) := (impl_IsFinite_T v77).run
def impl_IsFinite_enc (v77 : Nat) (y : Bool) : Rs := (.bool y, [])
theorem impl_IsFinite_den (v77 : Nat) : (den TT (tabD impl_IsFinite_tab) (tabM impl_IsFinite_tab) (impl_IsFinite_LO v77) (codeOf Try.f43) ([.flt .f32 v77] ++ List.replicate (Try.f43.ntmps - ([.flt .f32 v77] : List DV).length) .undef) []).bind (retD TT Try.f43.results.toList 0) = (impl_IsFinite_T v77).bind fun y => .leaf (impl_IsFinite_enc v77 y) := by kernel_rfl
theorem impl_IsFinite_fn (v77 : Nat) (F : Fr) (hm : F.ids.length = 0) (h0 : St F [] F.H0) (hA : DVs.Ok F [] [.flt .f32 v77]) {y : Bool} (hy : impl_IsFinite_g v77 = some y) : ∃ H', FnOk Try.prog 43 (DVs.av F [.flt .f32 v77]) F.H0 ((impl_IsFinite_enc v77 y).1.av F) H' ∧ St F (impl_IsFinite_enc v77 y).2 H' ∧ (impl_IsFinite_enc v77 y).1.Ok F (impl_IsFinite_enc v77 y).2 :=
  fn_fin tok impl_IsFinite_hO mixed Try.func43 Try.call43 (by kernel_rfl) (LoopsOk_eq (l := []) (by kernel_rfl) trivial) (impl_IsFinite_den v77) hy hm h0 hA
def impl_IsFinite_v (v77 : Nat) : Bool :=
  (impl_isFinite64_v (wid v77))
theorem impl_IsFinite_tot (v77 : Nat) : impl_IsFinite_g v77 = some (impl_IsFinite_v v77) := by
  unfold impl_IsFinite_g impl_IsFinite_T impl_IsFinite_v
  simp only [Tree.run]
  repeat' (first | rfl | split)
noncomputable def impl_IsFinite_F : DFn := fun args L =>
  match args with
  | [.flt .f32 v77] =>
    .leaf (.bool (impl_IsFinite_v v77), L)
  | _ => .fail
theorem impl_IsFinite_Fok : COk Try.prog 43 impl_IsFinite_F true := by
  intro F L H args r L' hs ha hr
  unfold impl_IsFinite_F at hr
  split at hr
  · rename_i v77
    have hy := impl_IsFinite_tot v77
    generalize impl_IsFinite_v v77 = y at hy hr
    simp only [Tree.run, Option.some.injEq, Prod.mk.injEq] at hr
    obtain ⟨rfl, rfl⟩ := hr
    exact call_ok0 hs (fun k => (([] : List AV)[k]?).getD .top) [.flt .f32 v77] [.flt .f32 v77] (fun F' h0 hi hρ => ⟨by simp [DVs.av, DV.av, BR.av, hρ], impl_IsFinite_fn v77 F' (by rw [hi]; rfl) (st_nil hi) ⟨trivial, trivial⟩ hy⟩) rfl
  · cases hr
/-! impl.areFinite$1 -/
noncomputable def impl_areFinite_1_LO (v76 : Nat) : LOr := fun id e L =>
  match id with
  | _ => .fail
noncomputable def impl_areFinite_1_tab : List (FuncId × DFn × Bool) := [(43, impl_IsFinite_F, true)]
theorem impl_areFinite_1_hO : OrcOk Try.prog (tabD impl_areFinite_1_tab) (tabM impl_areFinite_1_tab) := tabD_cons impl_IsFinite_Fok (tabD_nil _)
noncomputable def impl_areFinite_1_T (v76 : Nat) : Tree (Bool) :=
  .leaf (!(impl_IsFinite_v v76))

noncomputable def impl_areFinite_1_g (v76 : Nat) : Option (Bool) := (impl_areFinite_1_T v76).run
def impl_areFinite_1_enc (v76 : Nat) (y : Bool) : Rs := (.bool y, [])
theorem impl_areFinite_1_den (v76 : Nat) : (den TT (tabD impl_areFinite_1_tab) (tabM impl_areFinite_1_tab) (impl_areFinite_1_LO v76) (codeOf Try.f113) ([.flt .f32 v76] ++ List.replicate (Try.f113.ntmps - ([.flt .f32 v76] : List DV).length) .undef) []).bind (retD TT Try.f113.results.toList 0) = (impl_areFinite_1_T v76).bind fun y => .leaf (impl_areFinite_1_enc v76 y) := by kernel_rfl
theorem impl_areFinite_1_fn (v76 : Nat) (F : Fr) (hm : F.ids.length = 0) (h0 : St F [] F.H0) (hA : DVs.Ok F [] [.flt .f32 v76]) {y : Bool} (hy : impl_areFinite_1_g v76 = some y) : ∃ H', FnOk Try.prog 113 (DVs.av F [.flt .f32 v76]) F.H0 ((impl_areFinite_1_enc v76 y).1.av F) H' ∧ St F (impl_areFinite_1_enc v76 y).2 H' ∧ (impl_areFinite_1_enc v76 y).1.Ok F (impl_areFinite_1_enc v76 y).2 :=
  fn_fin tok impl_areFinite_1_hO mixed Try.func113 Try.call113 (by kernel_rfl) (LoopsOk_eq (l := []) (by kernel_rfl) trivial) (impl_areFinite_1_den v76) hy hm h0 hA
def impl_areFinite_1_v (v76 : Nat) : Bool :=
  !(impl_IsFinite_v v76)
theorem impl_areFinite_1_tot (v76 : Nat) : impl_areFinite_1_g v76 = some (impl_areFinite_1_v v76) := by
  unfold impl_areFinite_1_g impl_areFinite_1_T impl_areFinite_1_v
  simp only [Tree.run]
  repeat' (first | rfl | split)
noncomputable def impl_areFinite_1_F : DFn := fun args L =>
  match args with
  | [.flt .f32 v76] =>
    .leaf (.bool (impl_areFinite_1_v v76), L)
  | _ => .fail
theorem impl_areFinite_1_Fok : COk Try.prog 113 impl_areFinite_1_F true := by
  intro F L H args r L' hs ha hr
  unfold impl_areFinite_1_F at hr
  split at hr
  · rename_i v76
    have hy := impl_areFinite_1_tot v76
    generalize impl_areFinite_1_v v76 = y at hy hr
    simp only [Tree.run, Option.some.injEq, Prod.mk.injEq] at hr
    obtain ⟨rfl, rfl⟩ := hr
    exact call_ok0 hs (fun k => (([] : List AV)[k]?).getD .top) [.flt .f32 v76] [.flt .f32 v76] (fun F' h0 hi hρ => ⟨by simp [DVs.av, DV.av, BR.av, hρ], impl_areFinite_1_fn v76 F' (by rw [hi]; rfl) (st_nil hi) ⟨trivial, trivial⟩ hy⟩) rfl
  · cases hr
/-! slices.IndexFunc[list of float32,float32] -/
noncomputable def slices_IndexFuncF_l0_T (v74 : List Nat) (s : Int) : Tree ((Int) ⊕ ((Int) ⊕ (Unit))) :=
  (.br (decide (s < ((v74.length : Nat) : Int))) (
   (.grd (inb s v74.length) <|
   (.br (impl_areFinite_1_v (nth v74 (Int.toNat s))) (
    .leaf (.inr (.inl s))
   ) (
    .leaf (.inl (IntKind.i64.wrap (s + (1 : Int))))
   )))
  ) (
   .leaf (.inr (.inr ()))
  ))

noncomputable def slices_IndexFuncF_l0_g (v74 : List Nat) (s0 : Int) : Option ((Int) ⊕ (Unit)) := whileM (fun s => (slices_IndexFuncF_l0_T v74 s).run) s0
def slices_IndexFuncF_l0_E (v74 : List Nat) (s : Int) : Sd := ([.bslc (BR.root 0) (.f32 v74), .fn 113 [], .top, .top, .top, .top, .top, .int .i64 ((v74.length : Nat) : Int), .int .i64 s, .top, .top, .top, .top, .top, .top, .top, .top, .top, .top], [])
def slices_IndexFuncF_l0_X (v74 : List Nat) (x : (Int) ⊕ (Unit)) : Out := (match x with | .inl x => (.ret, [.top, .top, .top, .top, .int .i64 x, .top, .top, .top, .top, .top, .top, .top, .top, .top, .top, .top, .top, .top, .top], []) | .inr x => (.normal, [.top, .top, .top, .top, .top, .top, .top, .top, .top, .top, .top, .top, .top, .top, .top, .top, .top, .top, .top], []))
def slices_IndexFuncF_l0_kill : List Nat := [0, 0, 1, 1, 1, 1, 1, 0, 0, 1, 1, 1, 1, 1, 1, 1, 1, 1, 1]
def slices_IndexFuncF_l0_nx : Exit → List Nat
  | .exit 0 => [1, 1, 1, 1, 1, 1, 1, 1, 1, 1, 1, 1, 1, 1, 1, 1, 1, 1, 1]
  | .ret => [1, 1, 1, 1, 0, 1, 1, 1, 1, 1, 1, 1, 1, 1, 1, 1, 1, 1, 1]
  | _ => []
noncomputable def slices_IndexFuncF_LO (v74 : List Nat) : LOr := fun id e L =>
  match id with
  | 0 => .need (normA 0 slices_IndexFuncF_l0_kill e L = some (slices_IndexFuncF_l0_E v74 (gI (vAt e 8)))) (.call (slices_IndexFuncF_l0_g v74 (gI (vAt e 8))) fun x => .sum x (fun b0 => .leaf (slices_IndexFuncF_l0_X v74 (.inl b0))) (fun c0 => .leaf (slices_IndexFuncF_l0_X v74 (.inr c0))))
  | _ => .fail
noncomputable def slices_IndexFuncF_tab : List (FuncId × DFn × Bool) := [(113, impl_areFinite_1_F, true)]
theorem slices_IndexFuncF_hO : OrcOk Try.prog (tabD slices_IndexFuncF_tab) (tabM slices_IndexFuncF_tab) := tabD_cons impl_areFinite_1_Fok (tabD_nil _)
theorem slices_IndexFuncF_l0_be (v74 : List Nat) (s : Int) : bodyT TT (tabD slices_IndexFuncF_tab) (tabM slices_IndexFuncF_tab) (slices_IndexFuncF_LO v74) 0 slices_IndexFuncF_l0_kill slices_IndexFuncF_l0_nx (bodyOf Try.f152 0) 0 (slices_IndexFuncF_l0_E v74 s) = (slices_IndexFuncF_l0_T v74 s).bind fun y => .leaf (outS (slices_IndexFuncF_l0_E v74) (slices_IndexFuncF_l0_X v74) y) := by kernel_rfl
theorem slices_IndexFuncF_l0_ok (v74 : List Nat) : LSound Try.prog 0 (slices_IndexFuncF_LO v74) 0 (bodyOf Try.f152 0) := by
  intro e L out h
  exact lo_ok (E := slices_IndexFuncF_l0_E v74) (gT := slices_IndexFuncF_l0_T v74) (X := slices_IndexFuncF_l0_X v74) (s0 := (gI (vAt e 8))) tok slices_IndexFuncF_hO mixed (LoopsOk_eq (l := []) (by kernel_rfl) trivial) (slices_IndexFuncF_l0_be v74) rfl (by intro x; (cases x with | inl b => rfl | inr x => exact rfl)) h
noncomputable def slices_IndexFuncF_T (v74 : List Nat) : Tree (Int) :=
  (.need (some (slices_IndexFuncF_l0_E v74 (0 : Int)) = some (slices_IndexFuncF_l0_E v74 (0 : Int))) <|
  (.call (slices_IndexFuncF_l0_g v74 (0 : Int)) fun v84 =>
  (.sum v84 (fun v85 =>
   .leaf v85
  ) (fun v86 =>
   .leaf (-1 : Int)
  ))))

noncomputable def slices_IndexFuncF_g (v74 : List Nat) : Option (Int) := (slices_IndexFuncF_T v74).run
def slices_IndexFuncF_enc (v74 : List Nat) (y : Int) : Rs := (.int .i64 y, [])
theorem slices_IndexFuncF_den (v74 : List Nat) : (den TT (tabD slices_IndexFuncF_tab) (tabM slices_IndexFuncF_tab) (slices_IndexFuncF_LO v74) (codeOf Try.f152) ([.bslc (BR.root 0) (.f32 v74), .fn 113 []] ++ List.replicate (Try.f152.ntmps - ([.bslc (BR.root 0) (.f32 v74), .fn 113 []] : List DV).length) .undef) []).bind (retD TT Try.f152.results.toList 0) = (slices_IndexFuncF_T v74).bind fun y => .leaf (slices_IndexFuncF_enc v74 y) := by kernel_rfl
theorem slices_IndexFuncF_fn (v74 : List Nat) (F : Fr) (hm : F.ids.length = 0) (h0 : St F [] F.H0) (hA : DVs.Ok F [] [.bslc (BR.root 0) (.f32 v74), .fn 113 []]) {y : Int} (hy : slices_IndexFuncF_g v74 = some y) : ∃ H', FnOk Try.prog 152 (DVs.av F [.bslc (BR.root 0) (.f32 v74), .fn 113 []]) F.H0 ((slices_IndexFuncF_enc v74 y).1.av F) H' ∧ St F (slices_IndexFuncF_enc v74 y).2 H' ∧ (slices_IndexFuncF_enc v74 y).1.Ok F (slices_IndexFuncF_enc v74 y).2 :=
  fn_fin tok slices_IndexFuncF_hO mixed Try.func152 Try.call152 (by kernel_rfl) (LoopsOk_eq (l := [(0, bodyOf Try.f152 0)]) (by kernel_rfl) ⟨slices_IndexFuncF_l0_ok v74, trivial⟩) (slices_IndexFuncF_den v74) hy hm h0 hA
noncomputable def slices_IndexFuncF_F : DFn := fun args L =>
  match args with
  | [a1, .fn 113 []] =>
    optT (rowF32 L a1) fun v74 =>
    .call (slices_IndexFuncF_g v74) fun y => .leaf (.int .i64 y, L)
  | _ => .fail
theorem slices_IndexFuncF_Fok : COk Try.prog 152 slices_IndexFuncF_F true := by
  intro F L H args r L' hs ha hr
  unfold slices_IndexFuncF_F at hr
  split at hr
  · rename_i a1
    obtain ⟨v74, hv74, hr⟩ := optT_run hr
    simp only [Tree.run] at hr
    obtain ⟨y, hy, hr⟩ := Option.bind_eq_some_iff.1 hr
    simp only [Tree.run, Option.some.injEq, Prod.mk.injEq] at hr
    obtain ⟨rfl, rfl⟩ := hr
    exact call_ok0 hs (fun k => (([a1.av F] : List AV)[k]?).getD .top) [a1, .fn 113 []] [.bslc (BR.root 0) (.f32 v74), .fn 113 []] (fun F' h0 hi hρ => ⟨by simp [DVs.av, DV.av, BR.av, hρ], slices_IndexFuncF_fn v74 F' (by rw [hi]; rfl) (st_nil hi) ⟨bslc_ok hi (by rw [h0, hρ]; exact rowF32_ok hs (DVs.okAt ha 0 rfl) hv74), trivial, trivial⟩ hy⟩) rfl
  · cases hr
/-! slices.ContainsFunc[list of float32,float32] -/
noncomputable def slices_ContainsFuncF_LO (v73 : List Nat) : LOr := fun id e L =>
  match id with
  | _ => .fail
noncomputable def slices_ContainsFuncF_tab : List (FuncId × DFn × Bool) := [(152, slices_IndexFuncF_F, true)]
theorem slices_ContainsFuncF_hO : OrcOk Try.prog (tabD slices_ContainsFuncF_tab) (tabM slices_ContainsFuncF_tab) := tabD_cons slices_IndexFuncF_Fok (tabD_nil _)
noncomputable def slices_ContainsFuncF_T (v73 : List Nat) : Tree (Bool) :=
  (.call (slices_IndexFuncF_g v73) fun v87 =>
  .leaf (decide ((0 : Int) ≤ v87)))

noncomputable def slices_ContainsFuncF_g (v73 : List Nat) : Option (Bool) := (slices_ContainsFuncF_T v73).run
def slices_ContainsFuncF_enc (v73 : List Nat) (y : Bool) : Rs := (.bool y, [])
theorem slices_ContainsFuncF_den (v73 : List Nat) : (den TT (tabD slices_ContainsFuncF_tab) (tabM slices_ContainsFuncF_tab) (slices_ContainsFuncF_LO v73) (codeOf Try.f107) ([.bslc (BR.root 0) (.f32 v73), .fn 113 []] ++ List.replicate (Try.f107.ntmps - ([.bslc (BR.root 0) (.f32 v73), .fn 113 []] : List DV).length) .undef) []).bind (retD TT Try.f107.results.toList 0) = (slices_ContainsFuncF_T v73).bind fun y => .leaf (slices_ContainsFuncF_enc v73 y) := by kernel_rfl
theorem slices_ContainsFuncF_fn (v73 : List Nat) (F : Fr) (hm : F.ids.length = 0) (h0 : St F [] F.H0) (hA : DVs.Ok F [] [.bslc (BR.root 0) (.f32 v73), .fn 113 []]) {y : Bool} (hy : slices_ContainsFuncF_g v73 = some y) : ∃ H', FnOk Try.prog 107 (DVs.av F [.bslc (BR.root 0) (.f32 v73), .fn 113 []]) F.H0 ((slices_ContainsFuncF_enc v73 y).1.av F) H' ∧ St F (slices_ContainsFuncF_enc v73 y).2 H' ∧ (slices_ContainsFuncF_enc v73 y).1.Ok F (slices_ContainsFuncF_enc v73 y).2 :=
  fn_fin tok slices_ContainsFuncF_hO mixed Try.func107 Try.call107 (by kernel_rfl) (LoopsOk_eq (l := []) (by kernel_rfl) trivial) (slices_ContainsFuncF_den v73) hy hm h0 hA
noncomputable def slices_ContainsFuncF_F : DFn := fun args L =>
  match args with
  | [a1, .fn 113 []] =>
    optT (rowF32 L a1) fun v73 =>
    .call (slices_ContainsFuncF_g v73) fun y => .leaf (.bool y, L)
  | _ => .fail
theorem slices_ContainsFuncF_Fok : COk Try.prog 107 slices_ContainsFuncF_F true := by
  intro F L H args r L' hs ha hr
  unfold slices_ContainsFuncF_F at hr
  split at hr
  · rename_i a1
    obtain ⟨v73, hv73, hr⟩ := optT_run hr
    simp only [Tree.run] at hr
    obtain ⟨y, hy, hr⟩ := Option.bind_eq_some_iff.1 hr
    simp only [Tree.run, Option.some.injEq, Prod.mk.injEq] at hr
    obtain ⟨rfl, rfl⟩ := hr
    exact call_ok0 hs (fun k => (([a1.av F] : List AV)[k]?).getD .top) [a1, .fn 113 []] [.bslc (BR.root 0) (.f32 v73), .fn 113 []] (fun F' h0 hi hρ => ⟨by simp [DVs.av, DV.av, BR.av, hρ], slices_ContainsFuncF_fn v73 F' (by rw [hi]; rfl) (st_nil hi) ⟨bslc_ok hi (by rw [h0, hρ]; exact rowF32_ok hs (DVs.okAt ha 0 rfl) hv73), trivial, trivial⟩ hy⟩) rfl
  · cases hr
/-! impl.areFinite -/
noncomputable def impl_areFinite_LO (v72 : List Nat) : LOr := fun id e L =>
  match id with
  | _ => .fail
noncomputable def impl_areFinite_tab : List (FuncId × DFn × Bool) := [(107, slices_ContainsFuncF_F, true)]
theorem impl_areFinite_hO : OrcOk Try.prog (tabD impl_areFinite_tab) (tabM impl_areFinite_tab) := tabD_cons slices_ContainsFuncF_Fok (tabD_nil _)
noncomputable def impl_areFinite_T (v72 : List Nat) : Tree (Bool) :=
  (.call (slices_ContainsFuncF_g v72) fun v88 =>
  .leaf (!v88))

noncomputable def impl_areFinite_g (v72 : List Nat) : Option (Bool) := (impl_areFinite_T v72).run
def impl_areFinite_enc (v72 : List Nat) (y : Bool) : Rs := (.bool y, [])
theorem impl_areFinite_den (v72 : List Nat) : (den TT (tabD impl_areFinite_tab) (tabM impl_areFinite_tab) (impl_areFinite_LO v72) (codeOf Try.f42) ([.bslc (BR.root 0) (.f32 v72)] ++ List.replicate (Try.f42.ntmps - ([.bslc (BR.root 0) (.f32 v72)] : List DV).length) .undef) []).bind (retD TT Try.f42.results.toList 0) = (impl_areFinite_T v72).bind fun y => .leaf (impl_areFinite_enc v72 y) := by kernel_rfl
theorem impl_areFinite_fn (v72 : List Nat) (F : Fr) (hm : F.ids.length = 0) (h0 : St F [] F.H0) (hA : DVs.Ok F [] [.bslc (BR.root 0) (.f32 v72)]) {y : Bool} (hy : impl_areFinite_g v72 = some y) : ∃ H', FnOk Try.prog 42 (DVs.av F [.bslc (BR.root 0) (.f32 v72)]) F.H0 ((impl_areFinite_enc v72 y).1.av F) H' ∧ St F (impl_areFinite_enc v72 y).2 H' ∧ (impl_areFinite_enc v72 y).1.Ok F (impl_areFinite_enc v72 y).2 :=
  fn_fin tok impl_areFinite_hO mixed Try.func42 Try.call42 (by kernel_rfl) (LoopsOk_eq (l := []) (by kernel_rfl) trivial) (impl_areFinite_den v72) hy hm h0 hA
noncomputable def impl_areFinite_F : DFn := fun args L =>
  match args with
  | [a1] =>
    optT (rowF32 L a1) fun v72 =>
    .call (impl_areFinite_g v72) fun y => .leaf (.bool y, L)
  | _ => .fail
theorem impl_areFinite_Fok : COk Try.prog 42 impl_areFinite_F true := by
  intro F L H args r L' hs ha hr
  unfold impl_areFinite_F at hr
  split at hr
  · rename_i a1
    obtain ⟨v72, hv72, hr⟩ := optT_run hr
    simp only [Tree.run] at hr
    obtain ⟨y, hy, hr⟩ := Option.bind_eq_some_iff.1 hr
    simp only [Tree.run, Option.some.injEq, Prod.mk.injEq] at hr
    obtain ⟨rfl, rfl⟩ := hr
    exact call_ok0 hs (fun k => (([a1.av F] : List AV)[k]?).getD .top) [a1] [.bslc (BR.root 0) (.f32 v72)] (fun F' h0 hi hρ => ⟨by simp [DVs.av, DV.av, BR.av, hρ], impl_areFinite_fn v72 F' (by rw [hi]; rfl) (st_nil hi) ⟨bslc_ok hi (by rw [h0, hρ]; exact rowF32_ok hs (DVs.okAt ha 0 rfl) hv72), trivial⟩ hy⟩) rfl
  · cases hr
/-! impl.isList -/
noncomputable def impl_isList_LO (v66 : List Nat) (v67 : Int) : LOr := fun id e L =>
  match id with
  | _ => .fail
noncomputable def impl_isList_tab : List (FuncId × DFn × Bool) := [(82, impl_lengthF_F, true), (94, impl_inRange_F, true), (42, impl_areFinite_F, true)]
theorem impl_isList_hO : OrcOk Try.prog (tabD impl_isList_tab) (tabM impl_isList_tab) := tabD_cons impl_lengthF_Fok (tabD_cons impl_inRange_Fok (tabD_cons impl_areFinite_Fok (tabD_nil _)))
noncomputable def impl_isList_T (v66 : List Nat) (v67 : Int) : Tree (Bool) :=
  (.br (impl_inRange_v (impl_lengthF_v v66) (1 : Int) v67) (
   (.call (impl_areFinite_g v66) fun v89 =>
   .leaf v89)
  ) (
   .leaf false
  ))

noncomputable def impl_isList_g (v66 : List Nat) (v67 : Int) : Option (Bool) := (impl_isList_T v66 v67).run
def impl_isList_enc (v66 : List Nat) (v67 : Int) (y : Bool) : Rs := (.bool y, [])
theorem impl_isList_den (v66 : List Nat) (v67 : Int) : (den TT (tabD impl_isList_tab) (tabM impl_isList_tab) (impl_isList_LO v66 v67) (codeOf Try.f111) ([.bslc (BR.root 0) (.f32 v66), .int .i64 v67] ++ List.replicate (Try.f111.ntmps - ([.bslc (BR.root 0) (.f32 v66), .int .i64 v67] : List DV).length) .undef) []).bind (retD TT Try.f111.results.toList 0) = (impl_isList_T v66 v67).bind fun y => .leaf (impl_isList_enc v66 v67 y) := by kernel_rfl
theorem impl_isList_fn (v66 : List Nat) (v67 : Int) (F : Fr) (hm : F.ids.length = 0) (h0 : St F [] F.H0) (hA : DVs.Ok F [] [.bslc (BR.root 0) (.f32 v66), .int .i64 v67]) {y : Bool} (hy : impl_isList_g v66 v67 = some y) : ∃ H', FnOk Try.prog 111 (DVs.av F [.bslc (BR.root 0) (.f32 v66), .int .i64 v67]) F.H0 ((impl_isList_enc v66 v67 y).1.av F) H' ∧ St F (impl_isList_enc v66 v67 y).2 H' ∧ (impl_isList_enc v66 v67 y).1.Ok F (impl_isList_enc v66 v67 y).2 :=
  fn_fin tok impl_isList_hO mixed Try.func111 Try.call111 (by kernel_rfl) (LoopsOk_eq (l := []) (by kernel_rfl) trivial) (impl_isList_den v66 v67) hy hm h0 hA
noncomputable def impl_isList_F : DFn := fun args L =>
  match args with
  | [a1, .int .i64 v67] =>
    optT (rowF32 L a1) fun v66 =>
    .call (impl_isList_g v66 v67) fun y => .leaf (.bool y, L)
  | _ => .fail
theorem impl_isList_Fok : COk Try.prog 111 impl_isList_F true := by
  intro F L H args r L' hs ha hr
  unfold impl_isList_F at hr
  split at hr
  · rename_i a1 v67
    obtain ⟨v66, hv66, hr⟩ := optT_run hr
    simp only [Tree.run] at hr
    obtain ⟨y, hy, hr⟩ := Option.bind_eq_some_iff.1 hr
    simp only [Tree.run, Option.some.injEq, Prod.mk.injEq] at hr
    obtain ⟨rfl, rfl⟩ := hr
    exact call_ok0 hs (fun k => (([a1.av F] : List AV)[k]?).getD .top) [a1, .int .i64 v67] [.bslc (BR.root 0) (.f32 v66), .int .i64 v67] (fun F' h0 hi hρ => ⟨by simp [DVs.av, DV.av, BR.av, hρ], impl_isList_fn v66 v67 F' (by rw [hi]; rfl) (st_nil hi) ⟨bslc_ok hi (by rw [h0, hρ]; exact rowF32_ok hs (DVs.okAt ha 0 rfl) hv66), trivial, trivial⟩ hy⟩) rfl
  · cases hr
/-! impl.isShiftList -/
noncomputable def impl_isShiftList_LO (v65 : List Nat) : LOr := fun id e L =>
  match id with
  | _ => .fail
noncomputable def impl_isShiftList_tab : List (FuncId × DFn × Bool) := [(111, impl_isList_F, true)]
theorem impl_isShiftList_hO : OrcOk Try.prog (tabD impl_isShiftList_tab) (tabM impl_isShiftList_tab) := tabD_cons impl_isList_Fok (tabD_nil _)
noncomputable def impl_isShiftList_T (v65 : List Nat) : Tree (Bool) :=
  (.call (impl_isList_g v65 (12 : Int)) fun v90 =>
  (.br v90 (
   (.grd (inb (0 : Int) v65.length) <|
   .leaf (fgrt .f32 (nth v65 (Int.toNat (0 : Int))) (0 : Nat)))
  ) (
   .leaf false
  )))

noncomputable def impl_isShiftList_g (v65 : List Nat) : Option (Bool) := (impl_isShiftList_T v65).run
def impl_isShiftList_enc (v65 : List Nat) (y : Bool) : Rs := (.bool y, [])
theorem impl_isShiftList_den (v65 : List Nat) : (den TT (tabD impl_isShiftList_tab) (tabM impl_isShiftList_tab) (impl_isShiftList_LO v65) (codeOf Try.f40) ([.bslc (BR.root 0) (.f32 v65)] ++ List.replicate (Try.f40.ntmps - ([.bslc (BR.root 0) (.f32 v65)] : List DV).length) .undef) []).bind (retD TT Try.f40.results.toList 0) = (impl_isShiftList_T v65).bind fun y => .leaf (impl_isShiftList_enc v65 y) := by kernel_rfl
theorem impl_isShiftList_fn (v65 : List Nat) (F : Fr) (hm : F.ids.length = 0) (h0 : St F [] F.H0) (hA : DVs.Ok F [] [.bslc (BR.root 0) (.f32 v65)]) {y : Bool} (hy : impl_isShiftList_g v65 = some y) : ∃ H', FnOk Try.prog 40 (DVs.av F [.bslc (BR.root 0) (.f32 v65)]) F.H0 ((impl_isShiftList_enc v65 y).1.av F) H' ∧ St F (impl_isShiftList_enc v65 y).2 H' ∧ (impl_isShiftList_enc v65 y).1.Ok F (impl_isShiftList_enc v65 y).2 :=
  fn_fin tok impl_isShiftList_hO mixed Try.func40 Try.call40 (by kernel_rfl) (LoopsOk_eq (l := []) (by kernel_rfl) trivial) (impl_isShiftList_den v65) hy hm h0 hA
noncomputable def impl_isShiftList_F : DFn := fun args L =>
  match args with
  | [a1] =>
    optT (rowF32 L a1) fun v65 =>
    .call (impl_isShiftList_g v65) fun y => .leaf (.bool y, L)
  | _ => .fail
theorem impl_isShiftList_Fok : COk Try.prog 40 impl_isShiftList_F true := by
  intro F L H args r L' hs ha hr
  unfold impl_isShiftList_F at hr
  split at hr
  · rename_i a1
    obtain ⟨v65, hv65, hr⟩ := optT_run hr
    simp only [Tree.run] at hr
    obtain ⟨y, hy, hr⟩ := Option.bind_eq_some_iff.1 hr
    simp only [Tree.run, Option.some.injEq, Prod.mk.injEq] at hr
    obtain ⟨rfl, rfl⟩ := hr
    exact call_ok0 hs (fun k => (([a1.av F] : List AV)[k]?).getD .top) [a1] [.bslc (BR.root 0) (.f32 v65)] (fun F' h0 hi hρ => ⟨by simp [DVs.av, DV.av, BR.av, hρ], impl_isShiftList_fn v65 F' (by rw [hi]; rfl) (st_nil hi) ⟨bslc_ok hi (by rw [h0, hρ]; exact rowF32_ok hs (DVs.okAt ha 0 rfl) hv65), trivial⟩ hy⟩) rfl
  · cases hr
/-! impl.mul -/
noncomputable def impl_mul_LO (v100 : Nat) (v101 : Nat) : LOr := fun id e L =>
  match id with
  | _ => .fail
noncomputable def impl_mul_tab : List (FuncId × DFn × Bool) := []
theorem impl_mul_hO : OrcOk Try.prog (tabD impl_mul_tab) (tabM impl_mul_tab) := tabD_nil _
noncomputable def impl_mul_T (v100 : Nat) (v101 : Nat) : Tree (Nat) :=
  .leaf (fmul .f32 v100 v101)

noncomputable def impl_mul_g (v100 : Nat) (v101 : Nat) : Option (Nat) := (impl_mul_T v100 v101).run
def impl_mul_enc (v100 : Nat) (v101 : Nat) (y : Nat) : Rs := (.flt .f32 y, [])
theorem impl_mul_den (v100 : Nat) (v101 : Nat) : (den TT (tabD impl_mul_tab) (tabM impl_mul_tab) (impl_mul_LO v100 v101) (codeOf Try.f50) ([.flt .f32 v100, .flt .f32 v101] ++ List.replicate (Try.f50.ntmps - ([.flt .f32 v100, .flt .f32 v101] : List DV).length) .undef) []).bind (retD TT Try.f50.results.toList 0) = (impl_mul_T v100 v101).bind fun y => .leaf (impl_mul_enc v100 v101 y) := by kernel_rfl
theorem impl_mul_fn (v100 : Nat) (v101 : Nat) (F : Fr) (hm : F.ids.length = 0) (h0 : St F [] F.H0) (hA : DVs.Ok F [] [.flt .f32 v100, .flt .f32 v101]) {y : Nat} (hy : impl_mul_g v100 v101 = some y) : ∃ H', FnOk Try.prog 50 (DVs.av F [.flt .f32 v100, .flt .f32 v101]) F.H0 ((impl_mul_enc v100 v101 y).1.av F) H' ∧ St F (impl_mul_enc v100 v101 y).2 H' ∧ (impl_mul_enc v100 v101 y).1.Ok F (impl_mul_enc v100 v101 y).2 :=
  fn_fin tok impl_mul_hO mixed Try.func50 Try.call50 (by kernel_rfl) (LoopsOk_eq (l := []) (by kernel_rfl) trivial) (impl_mul_den v100 v101) hy hm h0 hA
def impl_mul_v (v100 : Nat) (v101 : Nat) : Nat :=
  fmul .f32 v100 v101
theorem impl_mul_tot (v100 : Nat) (v101 : Nat) : impl_mul_g v100 v101 = some (impl_mul_v v100 v101) := by
  unfold impl_mul_g impl_mul_T impl_mul_v
  simp only [Tree.run]
  repeat' (first | rfl | split)
noncomputable def impl_mul_F : DFn := fun args L =>
  match args with
  | [.flt .f32 v100, .flt .f32 v101] =>
    .leaf (.flt .f32 (impl_mul_v v100 v101), L)
  | _ => .fail
theorem impl_mul_Fok : COk Try.prog 50 impl_mul_F true := by
  intro F L H args r L' hs ha hr
  unfold impl_mul_F at hr
  split at hr
  · rename_i v100 v101
    have hy := impl_mul_tot v100 v101
    generalize impl_mul_v v100 v101 = y at hy hr
    simp only [Tree.run, Option.some.injEq, Prod.mk.injEq] at hr
    obtain ⟨rfl, rfl⟩ := hr
    exact call_ok0 hs (fun k => (([] : List AV)[k]?).getD .top) [.flt .f32 v100, .flt .f32 v101] [.flt .f32 v100, .flt .f32 v101] (fun F' h0 hi hρ => ⟨by simp [DVs.av, DV.av, BR.av, hρ], impl_mul_fn v100 v101 F' (by rw [hi]; rfl) (st_nil hi) ⟨trivial, trivial, trivial⟩ hy⟩) rfl
  · cases hr
/-! slices.Clone[list of float32,float32] -/
noncomputable def slices_CloneF_LO (v107 : List Nat) : LOr := fun id e L =>
  match id with
  | _ => .fail
noncomputable def slices_CloneF_tab : List (FuncId × DFn × Bool) := []
theorem slices_CloneF_hO : OrcOk Try.prog (tabD slices_CloneF_tab) (tabM slices_CloneF_tab) := tabD_nil _
noncomputable def slices_CloneF_T (v107 : List Nat) : Tree (Unit) :=
  (.grd (decide (0 < v107.length)) <|
  (.grd (fits (([] : List Nat) ++ v107).length) <|
  .leaf ()))

noncomputable def slices_CloneF_g (v107 : List Nat) : Option (Unit) := (slices_CloneF_T v107).run
def slices_CloneF_enc (v107 : List Nat) (y : Unit) : Rs := (.own 0 0 ((([] : List Nat) ++ v107).length), [.row (.f32 (([] : List Nat) ++ v107)) 0])
theorem slices_CloneF_den (v107 : List Nat) : (den TT (tabD slices_CloneF_tab) (tabM slices_CloneF_tab) (slices_CloneF_LO v107) (codeOf Try.f112) ([.bslc (BR.root 0) (.f32 v107)] ++ List.replicate (Try.f112.ntmps - ([.bslc (BR.root 0) (.f32 v107)] : List DV).length) .undef) []).bind (retD TT Try.f112.results.toList 0) = (slices_CloneF_T v107).bind fun y => .leaf (slices_CloneF_enc v107 y) := by kernel_rfl
theorem slices_CloneF_fn (v107 : List Nat) (F : Fr) (hm : F.ids.length = 0) (h0 : St F [] F.H0) (hA : DVs.Ok F [] [.bslc (BR.root 0) (.f32 v107)]) {y : Unit} (hy : slices_CloneF_g v107 = some y) : ∃ H', FnOk Try.prog 112 (DVs.av F [.bslc (BR.root 0) (.f32 v107)]) F.H0 ((slices_CloneF_enc v107 y).1.av F) H' ∧ St F (slices_CloneF_enc v107 y).2 H' ∧ (slices_CloneF_enc v107 y).1.Ok F (slices_CloneF_enc v107 y).2 :=
  fn_fin tok slices_CloneF_hO mixed Try.func112 Try.call112 (by kernel_rfl) (LoopsOk_eq (l := []) (by kernel_rfl) trivial) (slices_CloneF_den v107) hy hm h0 hA
noncomputable def slices_CloneF_F : DFn := fun args L =>
  match args with
  | [a1] =>
    optT (rowF32 L a1) fun v107 =>
    .call (slices_CloneF_g v107) fun y => .leaf (.own (L.length + 0) 0 ((([] : List Nat) ++ v107).length), L ++ [.row (.f32 (([] : List Nat) ++ v107)) 0])
  | _ => .fail
theorem slices_CloneF_Fok : COk Try.prog 112 slices_CloneF_F true := by
  intro F L H args r L' hs ha hr
  unfold slices_CloneF_F at hr
  split at hr
  · rename_i a1
    obtain ⟨v107, hv107, hr⟩ := optT_run hr
    simp only [Tree.run] at hr
    obtain ⟨y, hy, hr⟩ := Option.bind_eq_some_iff.1 hr
    simp only [Tree.run, Option.some.injEq, Prod.mk.injEq] at hr
    obtain ⟨rfl, rfl⟩ := hr
    exact call_ok1 hs (fun k => (([a1.av F] : List AV)[k]?).getD .top) [a1] [.bslc (BR.root 0) (.f32 v107)] (fun F' h0 hi hρ => ⟨by simp [DVs.av, DV.av, BR.av, hρ], slices_CloneF_fn v107 F' (by rw [hi]; rfl) (st_nil hi) ⟨bslc_ok hi (by rw [h0, hρ]; exact rowF32_ok hs (DVs.okAt ha 0 rfl) hv107), trivial⟩ hy⟩) rfl rfl
  · cases hr
/-! (*impl.reflections).next -/
noncomputable def impl_reflections_next_l0_T (v133 : List Nat) (v136 : List Nat) (v137 : Int) (s : Nat × Int) : Tree ((Nat × Int) ⊕ (Nat)) :=
  (.br (decide (s.2 < ((v133.length : Nat) : Int))) (
   (.grd (inb s.2 ((v133).length)) <|
   (.grd (inb (IntKind.i64.wrap ((IntKind.i64.wrap (v137 - (1 : Int))) - s.2)) v136.length) <|
   .leaf (.inl (fadd .f32 s.1 (impl_mul_v (nth v133 (Int.toNat s.2)) (nth v136 (Int.toNat (IntKind.i64.wrap ((IntKind.i64.wrap (v137 - (1 : Int))) - s.2))))), IntKind.i64.wrap (s.2 + (1 : Int))))))
  ) (
   .leaf (.inr s.1)
  ))

noncomputable def impl_reflections_next_l0_g (v133 : List Nat) (v136 : List Nat) (v137 : Int) (s0 : Nat × Int) : Option (Nat) := whileM (fun s => (impl_reflections_next_l0_T v133 v136 v137 s).run) s0
def impl_reflections_next_l0_E (v133 : List Nat) (v134 : List Nat) (v135 : Nat) (v136 : List Nat) (v137 : Int) (s : Nat × Int) : Sd := ([.ptr 0 (0 : Nat) 0 (3 : Nat), .bslc (BR.root 3) (.f32 v136), .int .i64 v137, .top, .top, .top, .top, .flt .f32 s.1, .top, .top, .top, .top, .top, .top, .top, .top, .own 1 0 ((v133).length), .int .i64 ((v133.length : Nat) : Int), .int .i64 s.2, .top, .top, .top, .top, .top, .top, .top, .top, .top, .top, .top, .top, .top, .top, .top, .top, .top, .top, .top, .top, .top, .top, .top, .top, .top, .top, .top, .top, .top, .top, .top, .top, .top, .top, .top, .top, .top, .top, .top, .top, .top, .top, .top, .top, .top, .top, .top, .top, .top, .top, .top, .top, .top, .top, .top, .top, .top, .top, .top, .top, .top, .top, .top, .top, .top, .top, .top, .top, .top, .top, .top, .top, .top, .top, .top, .top, .top, .top, .top, .top, .top, .top, .top, .top, .top, .top, .top, .top, .top, .top, .top, .top, .top, .top, .top, .top], [.gen [.own 1 0 ((v133).length), .own 2 0 ((v134).length), .flt .f32 v135] false 0, .row (.f32 v133) 0, .row (.f32 v134) 0])
def impl_reflections_next_l0_X (v133 : List Nat) (v134 : List Nat) (v135 : Nat) (v136 : List Nat) (v137 : Int) (x : Nat) : Out := (.normal, [.ptr 0 (0 : Nat) 0 (3 : Nat), .bslc (BR.root 3) (.f32 v136), .int .i64 v137, .top, .top, .top, .top, .flt .f32 x, .top, .top, .top, .top, .top, .top, .top, .top, .top, .top, .top, .top, .top, .top, .top, .top, .top, .top, .top, .top, .top, .top, .top, .top, .top, .top, .top, .top, .top, .top, .top, .top, .top, .top, .top, .top, .top, .top, .top, .top, .top, .top, .top, .top, .top, .top, .top, .top, .top, .top, .top, .top, .top, .top, .top, .top, .top, .top, .top, .top, .top, .top, .top, .top, .top, .top, .top, .top, .top, .top, .top, .top, .top, .top, .top, .top, .top, .top, .top, .top, .top, .top, .top, .top, .top, .top, .top, .top, .top, .top, .top, .top, .top, .top, .top, .top, .top, .top, .top, .top, .top, .top, .top, .top, .top, .top, .top], [.gen [.own 1 0 ((v133).length), .own 2 0 ((v134).length), .flt .f32 v135] false 0, .row (.f32 v133) 0, .row (.f32 v134) 0])
def impl_reflections_next_l0_kill : List Nat := [0, 0, 0, 1, 1, 1, 1, 0, 1, 1, 1, 1, 1, 1, 1, 1, 0, 0, 0, 1, 1, 1, 1, 1, 1, 1, 1, 1, 1, 1, 1, 1, 1, 1, 1, 1, 1, 1, 1, 1, 1, 1, 1, 1, 1, 1, 1, 1, 1, 1, 1, 1, 1, 1, 1, 1, 1, 1, 1, 1, 1, 1, 1, 1, 1, 1, 1, 1, 1, 1, 1, 1, 1, 1, 1, 1, 1, 1, 1, 1, 1, 1, 1, 1, 1, 1, 1, 1, 1, 1, 1, 1, 1, 1, 1, 1, 1, 1, 1, 1, 1, 1, 1, 1, 1, 1, 1, 1, 1, 1, 1, 1, 1, 1, 1]
def impl_reflections_next_l0_nx : Exit → List Nat
  | .exit 0 => [0, 0, 0, 1, 1, 1, 1, 0, 1, 1, 1, 1, 1, 1, 1, 1, 1, 1, 1, 1, 1, 1, 1, 1, 1, 1, 1, 1, 1, 1, 1, 1, 1, 1, 1, 1, 1, 1, 1, 1, 1, 1, 1, 1, 1, 1, 1, 1, 1, 1, 1, 1, 1, 1, 1, 1, 1, 1, 1, 1, 1, 1, 1, 1, 1, 1, 1, 1, 1, 1, 1, 1, 1, 1, 1, 1, 1, 1, 1, 1, 1, 1, 1, 1, 1, 1, 1, 1, 1, 1, 1, 1, 1, 1, 1, 1, 1, 1, 1, 1, 1, 1, 1, 1, 1, 1, 1, 1, 1, 1, 1, 1, 1, 1, 1]
  | .ret => [1, 1, 1, 1, 1, 1, 0, 1, 1, 1, 1, 1, 1, 1, 1, 1, 1, 1, 1, 1, 1, 1, 1, 1, 1, 1, 1, 1, 1, 1, 1, 1, 1, 1, 1, 1, 1, 1, 1, 1, 1, 1, 1, 1, 1, 1, 1, 1, 1, 1, 1, 1, 1, 1, 1, 1, 1, 1, 1, 1, 1, 1, 1, 1, 1, 1, 1, 1, 1, 1, 1, 1, 1, 1, 1, 1, 1, 1, 1, 1, 1, 1, 1, 1, 1, 1, 1, 1, 1, 1, 1, 1, 1, 1, 1, 1, 1, 1, 1, 1, 1, 1, 1, 1, 1, 1, 1, 1, 1, 1, 1, 1, 1, 1, 1]
  | _ => []
noncomputable def impl_reflections_next_l2_T (v133 : List Nat) (v137 : Int) (v151 : Nat) (s : Int × (List Nat)) : Tree ((Int × (List Nat)) ⊕ ((List Nat))) :=
  (.br (decide (s.1 < (((v133).length : Nat) : Int))) (
   (.grd (inb s.1 ((s.2).length)) <|
   (.grd (inb (IntKind.i64.wrap ((IntKind.i64.wrap (v137 - (2 : Int))) - s.1)) ((([] : List Nat) ++ v133).length)) <|
   (.grd (inb s.1 ((s.2).length)) <|
   .leaf (.inl (IntKind.i64.wrap (s.1 + (1 : Int)), List.set s.2 (Int.toNat s.1) (fsub .f32 (nth s.2 (Int.toNat s.1)) (impl_mul_v v151 (nth (([] : List Nat) ++ v133) (Int.toNat (IntKind.i64.wrap ((IntKind.i64.wrap (v137 - (2 : Int))) - s.1)))))))))))
  ) (
   .leaf (.inr s.2)
  ))

noncomputable def impl_reflections_next_l2_g (v133 : List Nat) (v137 : Int) (v151 : Nat) (s0 : Int × (List Nat)) : Option ((List Nat)) := whileM (fun s => (impl_reflections_next_l2_T v133 v137 v151 s).run) s0
def impl_reflections_next_l2_E (v133 : List Nat) (v134 : List Nat) (v135 : Nat) (v136 : List Nat) (v137 : Int) (v151 : Nat) (s : Int × (List Nat)) : Sd := ([.ptr 0 (0 : Nat) 0 (3 : Nat), .top, .int .i64 v137, .top, .top, .top, .top, .top, .top, .top, .flt .f32 v151, .own 3 0 ((([] : List Nat) ++ v133).length), .top, .top, .top, .top, .top, .top, .top, .top, .top, .top, .top, .top, .top, .top, .top, .top, .top, .top, .top, .top, .top, .top, .top, .top, .top, .top, .top, .top, .top, .top, .top, .top, .top, .top, .top, .top, .top, .top, .top, .top, .top, .top, .top, .int .i64 (((v133).length : Nat) : Int), .int .i64 s.1, .top, .top, .top, .top, .top, .top, .top, .top, .top, .top, .top, .top, .top, .top, .top, .top, .top, .top, .top, .top, .top, .top, .top, .top, .top, .top, .top, .top, .top, .top, .top, .top, .top, .top, .top, .top, .top, .top, .top, .top, .top, .top, .top, .top, .top, .top, .top, .top, .top, .top, .top, .top, .top, .top, .top, .top, .top, .top], [.gen [.own 1 0 ((s.2).length), .own 2 0 ((v134).length), .flt .f32 v135] false 0, .row (.f32 s.2) 0, .row (.f32 v134) 0, .row (.f32 (([] : List Nat) ++ v133)) 0])
def impl_reflections_next_l2_X (v133 : List Nat) (v134 : List Nat) (v135 : Nat) (v136 : List Nat) (v137 : Int) (v151 : Nat) (x : (List Nat)) : Out := (.normal, [.ptr 0 (0 : Nat) 0 (3 : Nat), .top, .top, .top, .top, .top, .top, .top, .top, .top, .flt .f32 v151, .top, .top, .top, .top, .top, .top, .top, .top, .top, .top, .top, .top, .top, .top, .top, .top, .top, .top, .top, .top, .top, .top, .top, .top, .top, .top, .top, .top, .top, .top, .top, .top, .top, .top, .top, .top, .top, .top, .top, .top, .top, .top, .top, .top, .top, .top, .top, .top, .top, .top, .top, .top, .top, .top, .top, .top, .top, .top, .top, .top, .top, .top, .top, .top, .top, .top, .top, .top, .top, .top, .top, .top, .top, .top, .top, .top, .top, .top, .top, .top, .top, .top, .top, .top, .top, .top, .top, .top, .top, .top, .top, .top, .top, .top, .top, .top, .top, .top, .top, .top, .top, .top, .top, .top], [.gen [.own 1 0 ((x).length), .own 2 0 ((v134).length), .flt .f32 v135] false 0, .row (.f32 x) 0, .row (.f32 v134) 0])
def impl_reflections_next_l2_kill : List Nat := [0, 1, 0, 1, 1, 1, 1, 1, 1, 1, 0, 0, 1, 1, 1, 1, 1, 1, 1, 1, 1, 1, 1, 1, 1, 1, 1, 1, 1, 1, 1, 1, 1, 1, 1, 1, 1, 1, 1, 1, 1, 1, 1, 1, 1, 1, 1, 1, 1, 1, 1, 1, 1, 1, 1, 0, 0, 1, 1, 1, 1, 1, 1, 1, 1, 1, 1, 1, 1, 1, 1, 1, 1, 1, 1, 1, 1, 1, 1, 1, 1, 1, 1, 1, 1, 1, 1, 1, 1, 1, 1, 1, 1, 1, 1, 1, 1, 1, 1, 1, 1, 1, 1, 1, 1, 1, 1, 1, 1, 1, 1, 1, 1, 1, 1]
def impl_reflections_next_l2_nx : Exit → List Nat
  | .exit 2 => [0, 1, 1, 1, 1, 1, 1, 1, 1, 1, 0, 1, 1, 1, 1, 1, 1, 1, 1, 1, 1, 1, 1, 1, 1, 1, 1, 1, 1, 1, 1, 1, 1, 1, 1, 1, 1, 1, 1, 1, 1, 1, 1, 1, 1, 1, 1, 1, 1, 1, 1, 1, 1, 1, 1, 1, 1, 1, 1, 1, 1, 1, 1, 1, 1, 1, 1, 1, 1, 1, 1, 1, 1, 1, 1, 1, 1, 1, 1, 1, 1, 1, 1, 1, 1, 1, 1, 1, 1, 1, 1, 1, 1, 1, 1, 1, 1, 1, 1, 1, 1, 1, 1, 1, 1, 1, 1, 1, 1, 1, 1, 1, 1, 1, 1]
  | .ret => [1, 1, 1, 1, 1, 1, 0, 1, 1, 1, 1, 1, 1, 1, 1, 1, 1, 1, 1, 1, 1, 1, 1, 1, 1, 1, 1, 1, 1, 1, 1, 1, 1, 1, 1, 1, 1, 1, 1, 1, 1, 1, 1, 1, 1, 1, 1, 1, 1, 1, 1, 1, 1, 1, 1, 1, 1, 1, 1, 1, 1, 1, 1, 1, 1, 1, 1, 1, 1, 1, 1, 1, 1, 1, 1, 1, 1, 1, 1, 1, 1, 1, 1, 1, 1, 1, 1, 1, 1, 1, 1, 1, 1, 1, 1, 1, 1, 1, 1, 1, 1, 1, 1, 1, 1, 1, 1, 1, 1, 1, 1, 1, 1, 1, 1]
  | _ => []
noncomputable def impl_reflections_next_LO (v133 : List Nat) (v134 : List Nat) (v135 : Nat) (v136 : List Nat) (v137 : Int) : LOr := fun id e L =>
  match id with
  | 0 => .need (normA 3 impl_reflections_next_l0_kill e L = some (impl_reflections_next_l0_E v133 v134 v135 v136 v137 ((gF (vAt e 7)), (gI (vAt e 18))))) (.call (impl_reflections_next_l0_g v133 v136 v137 ((gF (vAt e 7)), (gI (vAt e 18)))) fun x => .leaf (impl_reflections_next_l0_X v133 v134 v135 v136 v137 x))
  | 2 => .need (normA 3 impl_reflections_next_l2_kill e L = some (impl_reflections_next_l2_E v133 v134 v135 v136 v137 (gF (vAt e 10)) ((gI (vAt e 56)), (gRF L (cAt L (vAt e 0) 0))))) (.call (impl_reflections_next_l2_g v133 v137 (gF (vAt e 10)) ((gI (vAt e 56)), (gRF L (cAt L (vAt e 0) 0)))) fun x => .leaf (impl_reflections_next_l2_X v133 v134 v135 v136 v137 (gF (vAt e 10)) x))
  | _ => .fail
noncomputable def impl_reflections_next_tab : List (FuncId × DFn × Bool) := [(50, impl_mul_F, true), (112, slices_CloneF_F, true)]
theorem impl_reflections_next_hO : OrcOk Try.prog (tabD impl_reflections_next_tab) (tabM impl_reflections_next_tab) := tabD_cons impl_mul_Fok (tabD_cons slices_CloneF_Fok (tabD_nil _))
theorem impl_reflections_next_l0_be (v133 : List Nat) (v134 : List Nat) (v135 : Nat) (v136 : List Nat) (v137 : Int) (s : Nat × Int) : bodyT TT (tabD impl_reflections_next_tab) (tabM impl_reflections_next_tab) (impl_reflections_next_LO v133 v134 v135 v136 v137) 3 impl_reflections_next_l0_kill impl_reflections_next_l0_nx (bodyOf Try.f41 0) 0 (impl_reflections_next_l0_E v133 v134 v135 v136 v137 s) = (impl_reflections_next_l0_T v133 v136 v137 s).bind fun y => .leaf (outS (impl_reflections_next_l0_E v133 v134 v135 v136 v137) (impl_reflections_next_l0_X v133 v134 v135 v136 v137) y) := by kernel_rfl
theorem impl_reflections_next_l0_ok (v133 : List Nat) (v134 : List Nat) (v135 : Nat) (v136 : List Nat) (v137 : Int) : LSound Try.prog 3 (impl_reflections_next_LO v133 v134 v135 v136 v137) 0 (bodyOf Try.f41 0) := by
  intro e L out h
  exact lo_ok (E := impl_reflections_next_l0_E v133 v134 v135 v136 v137) (gT := impl_reflections_next_l0_T v133 v136 v137) (X := impl_reflections_next_l0_X v133 v134 v135 v136 v137) (s0 := ((gF (vAt e 7)), (gI (vAt e 18)))) tok impl_reflections_next_hO mixed (LoopsOk_eq (l := []) (by kernel_rfl) trivial) (impl_reflections_next_l0_be v133 v134 v135 v136 v137) rfl (by intro x; rfl) h
theorem impl_reflections_next_l2_be (v133 : List Nat) (v134 : List Nat) (v135 : Nat) (v136 : List Nat) (v137 : Int) (v151 : Nat) (s : Int × (List Nat)) : bodyT TT (tabD impl_reflections_next_tab) (tabM impl_reflections_next_tab) (impl_reflections_next_LO v133 v134 v135 v136 v137) 3 impl_reflections_next_l2_kill impl_reflections_next_l2_nx (bodyOf Try.f41 2) 2 (impl_reflections_next_l2_E v133 v134 v135 v136 v137 v151 s) = (impl_reflections_next_l2_T v133 v137 v151 s).bind fun y => .leaf (outS (impl_reflections_next_l2_E v133 v134 v135 v136 v137 v151) (impl_reflections_next_l2_X v133 v134 v135 v136 v137 v151) y) := by kernel_rfl
theorem impl_reflections_next_l2_ok (v133 : List Nat) (v134 : List Nat) (v135 : Nat) (v136 : List Nat) (v137 : Int) : LSound Try.prog 3 (impl_reflections_next_LO v133 v134 v135 v136 v137) 2 (bodyOf Try.f41 2) := by
  intro e L out h
  exact lo_ok (E := impl_reflections_next_l2_E v133 v134 v135 v136 v137 (gF (vAt e 10))) (gT := impl_reflections_next_l2_T v133 v137 (gF (vAt e 10))) (X := impl_reflections_next_l2_X v133 v134 v135 v136 v137 (gF (vAt e 10))) (s0 := ((gI (vAt e 56)), (gRF L (cAt L (vAt e 0) 0)))) tok impl_reflections_next_hO mixed (LoopsOk_eq (l := []) (by kernel_rfl) trivial) (impl_reflections_next_l2_be v133 v134 v135 v136 v137 (gF (vAt e 10))) rfl (by intro x; rfl) h
noncomputable def impl_reflections_next_T (v133 : List Nat) (v134 : List Nat) (v135 : Nat) (v136 : List Nat) (v137 : Int) : Tree (Bool × Nat × (List Nat) × (List Nat)) :=
  (.need (some (impl_reflections_next_l0_E v133 v134 v135 v136 v137 ((0 : Nat), (0 : Int))) = some (impl_reflections_next_l0_E v133 v134 v135 v136 v137 ((0 : Nat), (0 : Int)))) <|
  (.call (impl_reflections_next_l0_g v133 v136 v137 ((0 : Nat), (0 : Int))) fun v144 =>
  (.grd (inb v137 v136.length) <|
  (.call (slices_CloneF_g v133) fun v145 =>
  (.need (some (impl_reflections_next_l2_E v133 v134 v135 v136 v137 (fdiv .f32 (fsub .f32 (nth v136 (Int.toNat v137)) v144) v135) ((0 : Int), v133)) = some (impl_reflections_next_l2_E v133 v134 v135 v136 v137 (fdiv .f32 (fsub .f32 (nth v136 (Int.toNat v137)) v144) v135) ((0 : Int), v133))) <|
  (.call (impl_reflections_next_l2_g v133 v137 (fdiv .f32 (fsub .f32 (nth v136 (Int.toNat v137)) v144) v135) ((0 : Int), v133)) fun v154 =>
  (.grd (fits (v154 ++ ([(fdiv .f32 (fsub .f32 (nth v136 (Int.toNat v137)) v144) v135)] : List Nat)).length) <|
  (.grd (fits (v134 ++ ([(fdiv .f32 (fsub .f32 (nth v136 (Int.toNat v137)) v144) v135)] : List Nat)).length) <|
  .leaf (fgrt .f32 (impl_mul_v v135 (fsub .f32 (1065353216 : Nat) (impl_mul_v (fdiv .f32 (fsub .f32 (nth v136 (Int.toNat v137)) v144) v135) (fdiv .f32 (fsub .f32 (nth v136 (Int.toNat v137)) v144) v135)))) (0 : Nat), (impl_mul_v v135 (fsub .f32 (1065353216 : Nat) (impl_mul_v (fdiv .f32 (fsub .f32 (nth v136 (Int.toNat v137)) v144) v135) (fdiv .f32 (fsub .f32 (nth v136 (Int.toNat v137)) v144) v135)))), v154 ++ ([(fdiv .f32 (fsub .f32 (nth v136 (Int.toNat v137)) v144) v135)] : List Nat), v134 ++ ([(fdiv .f32 (fsub .f32 (nth v136 (Int.toNat v137)) v144) v135)] : List Nat))))))))))

noncomputable def impl_reflections_next_g (v133 : List Nat) (v134 : List Nat) (v135 : Nat) (v136 : List Nat) (v137 : Int) : Option (Bool × Nat × (List Nat) × (List Nat)) := (impl_reflections_next_T v133 v134 v135 v136 v137).run
def impl_reflections_next_enc (v133 : List Nat) (v134 : List Nat) (v135 : Nat) (v136 : List Nat) (v137 : Int) (y : Bool × Nat × (List Nat) × (List Nat)) : Rs := (.bool y.1, [.gen [.own 1 0 ((y.2.2.1).length), .own 2 0 ((y.2.2.2).length), .flt .f32 y.2.1] false 0, .row (.f32 y.2.2.1) 0, .row (.f32 y.2.2.2) 0])
theorem impl_reflections_next_den (v133 : List Nat) (v134 : List Nat) (v135 : Nat) (v136 : List Nat) (v137 : Int) : (den TT (tabD impl_reflections_next_tab) (tabM impl_reflections_next_tab) (impl_reflections_next_LO v133 v134 v135 v136 v137) (codeOf Try.f41) ([.ptr 0 (0 : Nat) 0 (3 : Nat), .bslc (BR.root 3) (.f32 v136), .int .i64 v137] ++ List.replicate (Try.f41.ntmps - ([.ptr 0 (0 : Nat) 0 (3 : Nat), .bslc (BR.root 3) (.f32 v136), .int .i64 v137] : List DV).length) .undef) [.gen [.own 1 0 v133.length, .own 2 0 v134.length, .flt .f32 v135] false 0, .row (.f32 v133) 0, .row (.f32 v134) 0]).bind (retD TT Try.f41.results.toList 3) = (impl_reflections_next_T v133 v134 v135 v136 v137).bind fun y => .leaf (impl_reflections_next_enc v133 v134 v135 v136 v137 y) := by kernel_rfl
theorem impl_reflections_next_fn (v133 : List Nat) (v134 : List Nat) (v135 : Nat) (v136 : List Nat) (v137 : Int) (F : Fr) (hm : F.ids.length = 3) (h0 : St F [.gen [.own 1 0 v133.length, .own 2 0 v134.length, .flt .f32 v135] false 0, .row (.f32 v133) 0, .row (.f32 v134) 0] F.H0) (hA : DVs.Ok F [.gen [.own 1 0 v133.length, .own 2 0 v134.length, .flt .f32 v135] false 0, .row (.f32 v133) 0, .row (.f32 v134) 0] [.ptr 0 (0 : Nat) 0 (3 : Nat), .bslc (BR.root 3) (.f32 v136), .int .i64 v137]) {y : Bool × Nat × (List Nat) × (List Nat)} (hy : impl_reflections_next_g v133 v134 v135 v136 v137 = some y) : ∃ H', FnOk Try.prog 41 (DVs.av F [.ptr 0 (0 : Nat) 0 (3 : Nat), .bslc (BR.root 3) (.f32 v136), .int .i64 v137]) F.H0 ((impl_reflections_next_enc v133 v134 v135 v136 v137 y).1.av F) H' ∧ St F (impl_reflections_next_enc v133 v134 v135 v136 v137 y).2 H' ∧ (impl_reflections_next_enc v133 v134 v135 v136 v137 y).1.Ok F (impl_reflections_next_enc v133 v134 v135 v136 v137 y).2 :=
  fn_fin tok impl_reflections_next_hO mixed Try.func41 Try.call41 (by kernel_rfl) (LoopsOk_eq (l := [(0, bodyOf Try.f41 0), (2, bodyOf Try.f41 2)]) (by kernel_rfl) ⟨impl_reflections_next_l0_ok v133 v134 v135 v136 v137, impl_reflections_next_l2_ok v133 v134 v135 v136 v137, trivial⟩) (impl_reflections_next_den v133 v134 v135 v136 v137) hy hm h0 hA
noncomputable def impl_reflections_next_F : DFn := fun args L =>
  match args with
  | [a1, a4, .int .i64 v137] =>
    optT (genOf L 3 false a1) fun qg0 =>
    (match qg0.2 with
    | [a2, a3, .flt .f32 v135] =>
    optT (ownF32 L a2) fun qv133 =>
    optT (ownF32 L a3) fun qv134 =>
    optT (rowF32 L a4) fun v136 =>
    (match sepB [qg0.1, qv133.1, qv134.1] [a4] with
    | true =>
    .call (impl_reflections_next_g qv133.2 qv134.2 v135 v136 v137) fun y => .grd (decide (qv133.2.length ≤ y.2.2.1.length)) (.grd (decide (qv134.2.length ≤ y.2.2.2.length)) (.leaf (.bool y.1, setB L [(qg0.1, .gen [.own qv133.1 (verAt L qv133.1 + 1) ((y.2.2.1).length), .own qv134.1 (verAt L qv134.1 + 1) ((y.2.2.2).length), .flt .f32 y.2.1] false (verAt L qg0.1)), (qv133.1, .row (.f32 y.2.2.1) (verAt L qv133.1 + 1)), (qv134.1, .row (.f32 y.2.2.2) (verAt L qv134.1 + 1))] ++ [])))
    | false => .fail)
    | _ => .fail)
  | _ => .fail
theorem impl_reflections_next_Fok : COk Try.prog 41 impl_reflections_next_F false := by
  intro F L H args r L' hs ha hr
  unfold impl_reflections_next_F at hr
  split at hr
  · rename_i a1 a4 v137
    obtain ⟨⟨jg0, cg0⟩, hg0, hr⟩ := optT_run hr
    simp only at hr
    split at hr
    · rename_i a2 a3 v135
      obtain ⟨hge0, hgu0, hga0, hgn0, hgc0, hgf0⟩ := genOf_spec hs (DVs.okAt ha 0 rfl) hg0
      obtain ⟨⟨jv133, v133⟩, hqv133, hr⟩ := optT_run hr
      simp only at hr
      obtain ⟨⟨jv134, v134⟩, hqv134, hr⟩ := optT_run hr
      simp only at hr
      obtain ⟨v136, hv136, hr⟩ := optT_run hr
      split at hr
      · rename_i hsep
        obtain ⟨hnd, hsepv⟩ := sepB_spec hsep
        simp only [Tree.run] at hr
        obtain ⟨y, hy, hr⟩ := Option.bind_eq_some_iff.1 hr
        try simp only [Tree.run] at hr
        obtain ⟨hl0, hr⟩ := ite_run hr
        obtain ⟨hl1, hr⟩ := ite_run hr
        simp only [Option.some.injEq, Prod.mk.injEq] at hr
        obtain ⟨rfl, rfl⟩ := hr
        obtain ⟨hr1, hu1, ha1, hb1⟩ := (ownR_spec (DVs.okAt hgc0 0 rfl) (ownF32_or hqv133))
        obtain ⟨hr2, hu2, ha2, hb2⟩ := (ownR_spec (DVs.okAt hgc0 1 rfl) (ownF32_or hqv134))
        exact mutG_ok hs [a1, a2, a3, a4] ⟨(DVs.okAt ha 0 rfl), (DVs.okAt hgc0 0 rfl), (DVs.okAt hgc0 1 rfl), (DVs.okAt ha 1 rfl), trivial⟩ [a1, a4, .int .i64 v137] [.ptr 0 (0 : Nat) 0 (3 : Nat), .bslc (BR.root 3) (.f32 v136), .int .i64 v137] [jg0, jv133, jv134] [verAt L jg0, verAt L jv133 + 1, verAt L jv134 + 1] [.gen [.own 1 0 v133.length, .own 2 0 v134.length, .flt .f32 v135] false 0, .row (.f32 v133) 0, .row (.f32 v134) 0] [.gen [.own 1 0 ((y.2.2.1).length), .own 2 0 ((y.2.2.2).length), .flt .f32 y.2.1] false 0, .row (.f32 y.2.2.1) 0, .row (.f32 y.2.2.2) 0] [.gen [.own jv133 (verAt L jv133 + 1) ((y.2.2.1).length), .own jv134 (verAt L jv134 + 1) ((y.2.2.2).length), .flt .f32 y.2.1] false (verAt L jg0), .row (.f32 y.2.2.1) (verAt L jv133 + 1), .row (.f32 y.2.2.2) (verAt L jv134 + 1)] [] hnd rfl rfl (fun j hj => by
            simp at hj
            rcases hj with rfl | rfl | rfl
            · exact ex_lt hge0
            · exact ex_lt hr1
            · exact ex_lt hr2) (fun j hj => by
            simp at hj
            rcases hj with rfl | rfl | rfl
            · exact reach_refs (by simp [DVs.refs, DV.refs, hgu0])
            · exact reach_1 (deep_mem (by simp [DVs.refs, DV.refs, hgu0]) hge0 (by simp [DVs.refs, DV.refs, hu1]))
            · exact reach_1 (deep_mem (by simp [DVs.refs, DV.refs, hgu0]) hge0 (by simp [DVs.refs, DV.refs, hu2]))) (fun F' h0 hi hρ ab hS => by
            have ab0 := ab 0 _ rfl; have ab1 := ab 1 _ rfl; have ab2 := ab 2 _ rfl;
            refine ⟨fun i j b' h1 h2 => ?_, by simp [DBlk.blk, DVs.av, DV.av, BR.av, hρ, Row.len, hga0, ab0, ha1, ab1, ha2, ab2], fun hst => impl_reflections_next_fn v133 v134 v135 v136 v137 F' (by rw [hi]; rfl) hst ⟨⟨_, rfl, Nat.le_refl _, by decide, Nat.le_refl _, fun _ => rfl⟩, bslcM hS (by rw [hρ]; rfl) (hsepv a4 (by simp)) (DVs.okAt ha 1 rfl) (rowF32_or hv136), trivial, trivial⟩ hy⟩
            rcases i with _ | _ | _ | i
            · simp at h1 h2; subst h1; subst h2; obtain ⟨ver_, hv_⟩ := hge0; exact ⟨_, hv_, by simp [DBlk.blk, DVs.av, DV.av, BR.av, hρ, Row.len, hga0, ab0, ha1, ab1, ha2, ab2], ⟨⟨⟨_, rfl, Nat.le_refl _, Nat.le_refl _, fun _ => rfl, (ownR_spec (DVs.okAt hgc0 0 rfl) (ownF32_or hqv133)).2.2.2⟩, ⟨_, rfl, Nat.le_refl _, Nat.le_refl _, fun _ => rfl, (ownR_spec (DVs.okAt hgc0 1 rfl) (ownF32_or hqv134)).2.2.2⟩, trivial, trivial⟩, fun hf => by cases hf⟩⟩
            · simp at h1 h2; subst h1; subst h2; obtain ⟨ver_, hv_⟩ := hr1; exact ⟨_, hv_, rfl, hb1⟩
            · simp at h1 h2; subst h1; subst h2; obtain ⟨ver_, hv_⟩ := hr2; exact ⟨_, hv_, rfl, hb2⟩
            · simp at h1) rfl rfl (fun i j b b' h1 h2 h3 => by
            rcases i with _ | _ | _ | i
            · simp at h1; subst h1; cases h3; exact growG hge0 rfl h2
            · simp at h1; subst h1; cases h3; exact growB hr1 (of_decide_eq_true hl0) h2
            · simp at h1; subst h1; cases h3; exact growB hr2 (of_decide_eq_true hl1) h2
            · simp at h1)
      · cases hr
    · cases hr
  · cases hr
/-! slices.Clone[list of float32,float32] -/
noncomputable def slices_CloneF_i1_LO : LOr := fun id e L =>
  match id with
  | _ => .fail
noncomputable def slices_CloneF_i1_tab : List (FuncId × DFn × Bool) := []
theorem slices_CloneF_i1_hO : OrcOk Try.prog (tabD slices_CloneF_i1_tab) (tabM slices_CloneF_i1_tab) := tabD_nil _
noncomputable def slices_CloneF_i1_T : Tree (Unit) :=
  .leaf ()

noncomputable def slices_CloneF_i1_g : Option (Unit) := (slices_CloneF_i1_T).run
def slices_CloneF_i1_enc (y : Unit) : Rs := (.nilslc, [])
theorem slices_CloneF_i1_den : (den TT (tabD slices_CloneF_i1_tab) (tabM slices_CloneF_i1_tab) (slices_CloneF_i1_LO) (codeOf Try.f112) ([.nilslc] ++ List.replicate (Try.f112.ntmps - ([.nilslc] : List DV).length) .undef) []).bind (retD TT Try.f112.results.toList 0) = (slices_CloneF_i1_T).bind fun y => .leaf (slices_CloneF_i1_enc y) := by kernel_rfl
theorem slices_CloneF_i1_fn (F : Fr) (hm : F.ids.length = 0) (h0 : St F [] F.H0) (hA : DVs.Ok F [] [.nilslc]) {y : Unit} (hy : slices_CloneF_i1_g = some y) : ∃ H', FnOk Try.prog 112 (DVs.av F [.nilslc]) F.H0 ((slices_CloneF_i1_enc y).1.av F) H' ∧ St F (slices_CloneF_i1_enc y).2 H' ∧ (slices_CloneF_i1_enc y).1.Ok F (slices_CloneF_i1_enc y).2 :=
  fn_fin tok slices_CloneF_i1_hO mixed Try.func112 Try.call112 (by kernel_rfl) (LoopsOk_eq (l := []) (by kernel_rfl) trivial) (slices_CloneF_i1_den) hy hm h0 hA
def slices_CloneF_i1_v : Unit :=
  ()
theorem slices_CloneF_i1_tot : slices_CloneF_i1_g = some (slices_CloneF_i1_v) := by
  unfold slices_CloneF_i1_g slices_CloneF_i1_T slices_CloneF_i1_v
  simp only [Tree.run]
  repeat' (first | rfl | split)
noncomputable def slices_CloneF_i1_F : DFn := fun args L =>
  match args with
  | [.nilslc] =>
    .leaf (.nilslc, L)
  | _ => .fail
theorem slices_CloneF_i1_Fok : COk Try.prog 112 slices_CloneF_i1_F true := by
  intro F L H args r L' hs ha hr
  unfold slices_CloneF_i1_F at hr
  split at hr
  · skip
    have hy := slices_CloneF_i1_tot
    generalize slices_CloneF_i1_v = y at hy hr
    simp only [Tree.run, Option.some.injEq, Prod.mk.injEq] at hr
    obtain ⟨rfl, rfl⟩ := hr
    exact call_ok0 hs (fun k => (([] : List AV)[k]?).getD .top) [.nilslc] [.nilslc] (fun F' h0 hi hρ => ⟨by simp [DVs.av, DV.av, BR.av, hρ], slices_CloneF_i1_fn  F' (by rw [hi]; rfl) (st_nil hi) ⟨trivial, trivial⟩ hy⟩) rfl
  · cases hr
/-! (*impl.reflections).next -/
noncomputable def impl_reflections_next_i1_l0_T (s : Unit) : Tree ((Unit) ⊕ (Unit)) :=
  (.br (decide ((0 : Int) < (0 : Int))) (
   .fail
  ) (
   .leaf (.inr ())
  ))

noncomputable def impl_reflections_next_i1_l0_g (s0 : Unit) : Option (Unit) := whileM (fun s => (impl_reflections_next_i1_l0_T s).run) s0
def impl_reflections_next_i1_l0_E (v163 : Nat) (v164 : List Nat) (v165 : Int) (s : Unit) : Sd := ([.ptr 0 (0 : Nat) 0 (3 : Nat), .bslc (BR.root 1) (.f32 v164), .int .i64 v165, .top, .top, .top, .top, .flt .f32 (0 : Nat), .top, .top, .top, .top, .top, .top, .top, .top, .nilslc, .int .i64 (0 : Int), .int .i64 (0 : Int), .top, .top, .top, .top, .top, .top, .top, .top, .top, .top, .top, .top, .top, .top, .top, .top, .top, .top, .top, .top, .top, .top, .top, .top, .top, .top, .top, .top, .top, .top, .top, .top, .top, .top, .top, .top, .top, .top, .top, .top, .top, .top, .top, .top, .top, .top, .top, .top, .top, .top, .top, .top, .top, .top, .top, .top, .top, .top, .top, .top, .top, .top, .top, .top, .top, .top, .top, .top, .top, .top, .top, .top, .top, .top, .top, .top, .top, .top, .top, .top, .top, .top, .top, .top, .top, .top, .top, .top, .top, .top, .top, .top, .top, .top, .top, .top], [.gen [.nilslc, .nilslc, .flt .f32 v163] false 0])
def impl_reflections_next_i1_l0_X (v163 : Nat) (v164 : List Nat) (v165 : Int) (x : Unit) : Out := (.normal, [.ptr 0 (0 : Nat) 0 (3 : Nat), .bslc (BR.root 1) (.f32 v164), .int .i64 v165, .top, .top, .top, .top, .flt .f32 (0 : Nat), .top, .top, .top, .top, .top, .top, .top, .top, .top, .top, .top, .top, .top, .top, .top, .top, .top, .top, .top, .top, .top, .top, .top, .top, .top, .top, .top, .top, .top, .top, .top, .top, .top, .top, .top, .top, .top, .top, .top, .top, .top, .top, .top, .top, .top, .top, .top, .top, .top, .top, .top, .top, .top, .top, .top, .top, .top, .top, .top, .top, .top, .top, .top, .top, .top, .top, .top, .top, .top, .top, .top, .top, .top, .top, .top, .top, .top, .top, .top, .top, .top, .top, .top, .top, .top, .top, .top, .top, .top, .top, .top, .top, .top, .top, .top, .top, .top, .top, .top, .top, .top, .top, .top, .top, .top, .top, .top], [.gen [.nilslc, .nilslc, .flt .f32 v163] false 0])
def impl_reflections_next_i1_l0_kill : List Nat := [0, 0, 0, 1, 1, 1, 1, 0, 1, 1, 1, 1, 1, 1, 1, 1, 0, 0, 0, 1, 1, 1, 1, 1, 1, 1, 1, 1, 1, 1, 1, 1, 1, 1, 1, 1, 1, 1, 1, 1, 1, 1, 1, 1, 1, 1, 1, 1, 1, 1, 1, 1, 1, 1, 1, 1, 1, 1, 1, 1, 1, 1, 1, 1, 1, 1, 1, 1, 1, 1, 1, 1, 1, 1, 1, 1, 1, 1, 1, 1, 1, 1, 1, 1, 1, 1, 1, 1, 1, 1, 1, 1, 1, 1, 1, 1, 1, 1, 1, 1, 1, 1, 1, 1, 1, 1, 1, 1, 1, 1, 1, 1, 1, 1, 1]
def impl_reflections_next_i1_l0_nx : Exit → List Nat
  | .exit 0 => [0, 0, 0, 1, 1, 1, 1, 0, 1, 1, 1, 1, 1, 1, 1, 1, 1, 1, 1, 1, 1, 1, 1, 1, 1, 1, 1, 1, 1, 1, 1, 1, 1, 1, 1, 1, 1, 1, 1, 1, 1, 1, 1, 1, 1, 1, 1, 1, 1, 1, 1, 1, 1, 1, 1, 1, 1, 1, 1, 1, 1, 1, 1, 1, 1, 1, 1, 1, 1, 1, 1, 1, 1, 1, 1, 1, 1, 1, 1, 1, 1, 1, 1, 1, 1, 1, 1, 1, 1, 1, 1, 1, 1, 1, 1, 1, 1, 1, 1, 1, 1, 1, 1, 1, 1, 1, 1, 1, 1, 1, 1, 1, 1, 1, 1]
  | .ret => [1, 1, 1, 1, 1, 1, 0, 1, 1, 1, 1, 1, 1, 1, 1, 1, 1, 1, 1, 1, 1, 1, 1, 1, 1, 1, 1, 1, 1, 1, 1, 1, 1, 1, 1, 1, 1, 1, 1, 1, 1, 1, 1, 1, 1, 1, 1, 1, 1, 1, 1, 1, 1, 1, 1, 1, 1, 1, 1, 1, 1, 1, 1, 1, 1, 1, 1, 1, 1, 1, 1, 1, 1, 1, 1, 1, 1, 1, 1, 1, 1, 1, 1, 1, 1, 1, 1, 1, 1, 1, 1, 1, 1, 1, 1, 1, 1, 1, 1, 1, 1, 1, 1, 1, 1, 1, 1, 1, 1, 1, 1, 1, 1, 1, 1]
  | _ => []
noncomputable def impl_reflections_next_i1_l2_T (s : Unit) : Tree ((Unit) ⊕ (Unit)) :=
  (.br (decide ((0 : Int) < (0 : Int))) (
   .fail
  ) (
   .leaf (.inr ())
  ))

noncomputable def impl_reflections_next_i1_l2_g (s0 : Unit) : Option (Unit) := whileM (fun s => (impl_reflections_next_i1_l2_T s).run) s0
def impl_reflections_next_i1_l2_E (v163 : Nat) (v164 : List Nat) (v165 : Int) (s : Unit) : Sd := ([.ptr 0 (0 : Nat) 0 (3 : Nat), .top, .int .i64 v165, .top, .top, .top, .top, .top, .top, .top, .flt .f32 (fdiv .f32 (fsub .f32 (nth v164 (Int.toNat v165)) (0 : Nat)) v163), .nilslc, .top, .top, .top, .top, .top, .top, .top, .top, .top, .top, .top, .top, .top, .top, .top, .top, .top, .top, .top, .top, .top, .top, .top, .top, .top, .top, .top, .top, .top, .top, .top, .top, .top, .top, .top, .top, .top, .top, .top, .top, .top, .top, .top, .int .i64 (0 : Int), .int .i64 (0 : Int), .top, .top, .top, .top, .top, .top, .top, .top, .top, .top, .top, .top, .top, .top, .top, .top, .top, .top, .top, .top, .top, .top, .top, .top, .top, .top, .top, .top, .top, .top, .top, .top, .top, .top, .top, .top, .top, .top, .top, .top, .top, .top, .top, .top, .top, .top, .top, .top, .top, .top, .top, .top, .top, .top, .top, .top, .top, .top], [.gen [.nilslc, .nilslc, .flt .f32 v163] false 0])
def impl_reflections_next_i1_l2_X (v163 : Nat) (v164 : List Nat) (v165 : Int) (x : Unit) : Out := (.normal, [.ptr 0 (0 : Nat) 0 (3 : Nat), .top, .top, .top, .top, .top, .top, .top, .top, .top, .flt .f32 (fdiv .f32 (fsub .f32 (nth v164 (Int.toNat v165)) (0 : Nat)) v163), .top, .top, .top, .top, .top, .top, .top, .top, .top, .top, .top, .top, .top, .top, .top, .top, .top, .top, .top, .top, .top, .top, .top, .top, .top, .top, .top, .top, .top, .top, .top, .top, .top, .top, .top, .top, .top, .top, .top, .top, .top, .top, .top, .top, .top, .top, .top, .top, .top, .top, .top, .top, .top, .top, .top, .top, .top, .top, .top, .top, .top, .top, .top, .top, .top, .top, .top, .top, .top, .top, .top, .top, .top, .top, .top, .top, .top, .top, .top, .top, .top, .top, .top, .top, .top, .top, .top, .top, .top, .top, .top, .top, .top, .top, .top, .top, .top, .top, .top, .top, .top, .top, .top, .top], [.gen [.nilslc, .nilslc, .flt .f32 v163] false 0])
def impl_reflections_next_i1_l2_kill : List Nat := [0, 1, 0, 1, 1, 1, 1, 1, 1, 1, 0, 0, 1, 1, 1, 1, 1, 1, 1, 1, 1, 1, 1, 1, 1, 1, 1, 1, 1, 1, 1, 1, 1, 1, 1, 1, 1, 1, 1, 1, 1, 1, 1, 1, 1, 1, 1, 1, 1, 1, 1, 1, 1, 1, 1, 0, 0, 1, 1, 1, 1, 1, 1, 1, 1, 1, 1, 1, 1, 1, 1, 1, 1, 1, 1, 1, 1, 1, 1, 1, 1, 1, 1, 1, 1, 1, 1, 1, 1, 1, 1, 1, 1, 1, 1, 1, 1, 1, 1, 1, 1, 1, 1, 1, 1, 1, 1, 1, 1, 1, 1, 1, 1, 1, 1]
def impl_reflections_next_i1_l2_nx : Exit → List Nat
  | .exit 2 => [0, 1, 1, 1, 1, 1, 1, 1, 1, 1, 0, 1, 1, 1, 1, 1, 1, 1, 1, 1, 1, 1, 1, 1, 1, 1, 1, 1, 1, 1, 1, 1, 1, 1, 1, 1, 1, 1, 1, 1, 1, 1, 1, 1, 1, 1, 1, 1, 1, 1, 1, 1, 1, 1, 1, 1, 1, 1, 1, 1, 1, 1, 1, 1, 1, 1, 1, 1, 1, 1, 1, 1, 1, 1, 1, 1, 1, 1, 1, 1, 1, 1, 1, 1, 1, 1, 1, 1, 1, 1, 1, 1, 1, 1, 1, 1, 1, 1, 1, 1, 1, 1, 1, 1, 1, 1, 1, 1, 1, 1, 1, 1, 1, 1, 1]
  | .ret => [1, 1, 1, 1, 1, 1, 0, 1, 1, 1, 1, 1, 1, 1, 1, 1, 1, 1, 1, 1, 1, 1, 1, 1, 1, 1, 1, 1, 1, 1, 1, 1, 1, 1, 1, 1, 1, 1, 1, 1, 1, 1, 1, 1, 1, 1, 1, 1, 1, 1, 1, 1, 1, 1, 1, 1, 1, 1, 1, 1, 1, 1, 1, 1, 1, 1, 1, 1, 1, 1, 1, 1, 1, 1, 1, 1, 1, 1, 1, 1, 1, 1, 1, 1, 1, 1, 1, 1, 1, 1, 1, 1, 1, 1, 1, 1, 1, 1, 1, 1, 1, 1, 1, 1, 1, 1, 1, 1, 1, 1, 1, 1, 1, 1, 1]
  | _ => []
noncomputable def impl_reflections_next_i1_LO (v163 : Nat) (v164 : List Nat) (v165 : Int) : LOr := fun id e L =>
  match id with
  | 0 => .need (normA 1 impl_reflections_next_i1_l0_kill e L = some (impl_reflections_next_i1_l0_E v163 v164 v165 ())) (.call (impl_reflections_next_i1_l0_g ()) fun x => .leaf (impl_reflections_next_i1_l0_X v163 v164 v165 x))
  | 2 => .need (normA 1 impl_reflections_next_i1_l2_kill e L = some (impl_reflections_next_i1_l2_E v163 v164 v165 ())) (.call (impl_reflections_next_i1_l2_g ()) fun x => .leaf (impl_reflections_next_i1_l2_X v163 v164 v165 x))
  | _ => .fail
noncomputable def impl_reflections_next_i1_tab : List (FuncId × DFn × Bool) := [(112, slices_CloneF_i1_F, true), (50, impl_mul_F, true)]
theorem impl_reflections_next_i1_hO : OrcOk Try.prog (tabD impl_reflections_next_i1_tab) (tabM impl_reflections_next_i1_tab) := tabD_cons slices_CloneF_i1_Fok (tabD_cons impl_mul_Fok (tabD_nil _))
theorem impl_reflections_next_i1_l0_be (v163 : Nat) (v164 : List Nat) (v165 : Int) (s : Unit) : bodyT TT (tabD impl_reflections_next_i1_tab) (tabM impl_reflections_next_i1_tab) (impl_reflections_next_i1_LO v163 v164 v165) 1 impl_reflections_next_i1_l0_kill impl_reflections_next_i1_l0_nx (bodyOf Try.f41 0) 0 (impl_reflections_next_i1_l0_E v163 v164 v165 s) = (impl_reflections_next_i1_l0_T s).bind fun y => .leaf (outS (impl_reflections_next_i1_l0_E v163 v164 v165) (impl_reflections_next_i1_l0_X v163 v164 v165) y) := by kernel_rfl
theorem impl_reflections_next_i1_l0_ok (v163 : Nat) (v164 : List Nat) (v165 : Int) : LSound Try.prog 1 (impl_reflections_next_i1_LO v163 v164 v165) 0 (bodyOf Try.f41 0) := by
  intro e L out h
  exact lo_ok (E := impl_reflections_next_i1_l0_E v163 v164 v165) (gT := impl_reflections_next_i1_l0_T) (X := impl_reflections_next_i1_l0_X v163 v164 v165) (s0 := ()) tok impl_reflections_next_i1_hO mixed (LoopsOk_eq (l := []) (by kernel_rfl) trivial) (impl_reflections_next_i1_l0_be v163 v164 v165) rfl (by intro x; rfl) h
theorem impl_reflections_next_i1_l2_be (v163 : Nat) (v164 : List Nat) (v165 : Int) (s : Unit) : bodyT TT (tabD impl_reflections_next_i1_tab) (tabM impl_reflections_next_i1_tab) (impl_reflections_next_i1_LO v163 v164 v165) 1 impl_reflections_next_i1_l2_kill impl_reflections_next_i1_l2_nx (bodyOf Try.f41 2) 2 (impl_reflections_next_i1_l2_E v163 v164 v165 s) = (impl_reflections_next_i1_l2_T s).bind fun y => .leaf (outS (impl_reflections_next_i1_l2_E v163 v164 v165) (impl_reflections_next_i1_l2_X v163 v164 v165) y) := by kernel_rfl
theorem impl_reflections_next_i1_l2_ok (v163 : Nat) (v164 : List Nat) (v165 : Int) : LSound Try.prog 1 (impl_reflections_next_i1_LO v163 v164 v165) 2 (bodyOf Try.f41 2) := by
  intro e L out h
  exact lo_ok (E := impl_reflections_next_i1_l2_E v163 v164 v165) (gT := impl_reflections_next_i1_l2_T) (X := impl_reflections_next_i1_l2_X v163 v164 v165) (s0 := ()) tok impl_reflections_next_i1_hO mixed (LoopsOk_eq (l := []) (by kernel_rfl) trivial) (impl_reflections_next_i1_l2_be v163 v164 v165) rfl (by intro x; rfl) h
noncomputable def impl_reflections_next_i1_T (v163 : Nat) (v164 : List Nat) (v165 : Int) : Tree (Bool × Nat) :=
  (.need (some (impl_reflections_next_i1_l0_E v163 v164 v165 ()) = some (impl_reflections_next_i1_l0_E v163 v164 v165 ())) <|
  (.call (impl_reflections_next_i1_l0_g ()) fun v168 =>
  (.grd (inb v165 v164.length) <|
  (.need (some (impl_reflections_next_i1_l2_E v163 v164 v165 ()) = some (impl_reflections_next_i1_l2_E v163 v164 v165 ())) <|
  (.call (impl_reflections_next_i1_l2_g ()) fun v170 =>
  (.grd (fits ([fdiv .f32 (fsub .f32 (nth v164 (Int.toNat v165)) (0 : Nat)) v163] : List Nat).length) <|
  (.br (decide (([fdiv .f32 (fsub .f32 (nth v164 (Int.toNat v165)) (0 : Nat)) v163] : List Nat).length = 0)) (
   .fail
  ) (
   (.grd (fits ([fdiv .f32 (fsub .f32 (nth v164 (Int.toNat v165)) (0 : Nat)) v163] : List Nat).length) <|
   (.br (decide (([fdiv .f32 (fsub .f32 (nth v164 (Int.toNat v165)) (0 : Nat)) v163] : List Nat).length = 0)) (
    .fail
   ) (
    .leaf (fgrt .f32 (impl_mul_v v163 (fsub .f32 (1065353216 : Nat) (impl_mul_v (fdiv .f32 (fsub .f32 (nth v164 (Int.toNat v165)) (0 : Nat)) v163) (fdiv .f32 (fsub .f32 (nth v164 (Int.toNat v165)) (0 : Nat)) v163)))) (0 : Nat), (impl_mul_v v163 (fsub .f32 (1065353216 : Nat) (impl_mul_v (fdiv .f32 (fsub .f32 (nth v164 (Int.toNat v165)) (0 : Nat)) v163) (fdiv .f32 (fsub .f32 (nth v164 (Int.toNat v165)) (0 : Nat)) v163)))))
   )))
  ))))))))

noncomputable def impl_reflections_next_i1_g (v163 : Nat) (v164 : List Nat) (v165 : Int) : Option (Bool × Nat) := (impl_reflections_next_i1_T v163 v164 v165).run
def impl_reflections_next_i1_enc (v163 : Nat) (v164 : List Nat) (v165 : Int) (y : Bool × Nat) : Rs := (.bool y.1, [.gen [.own 1 0 ((([fdiv .f32 (fsub .f32 (nth v164 (Int.toNat v165)) (0 : Nat)) v163] : List Nat)).length), .own 2 0 ((([fdiv .f32 (fsub .f32 (nth v164 (Int.toNat v165)) (0 : Nat)) v163] : List Nat)).length), .flt .f32 y.2] false 0, .row (.f32 ([fdiv .f32 (fsub .f32 (nth v164 (Int.toNat v165)) (0 : Nat)) v163] : List Nat)) 0, .row (.f32 ([fdiv .f32 (fsub .f32 (nth v164 (Int.toNat v165)) (0 : Nat)) v163] : List Nat)) 0])
theorem impl_reflections_next_i1_den (v163 : Nat) (v164 : List Nat) (v165 : Int) : (den TT (tabD impl_reflections_next_i1_tab) (tabM impl_reflections_next_i1_tab) (impl_reflections_next_i1_LO v163 v164 v165) (codeOf Try.f41) ([.ptr 0 (0 : Nat) 0 (3 : Nat), .bslc (BR.root 1) (.f32 v164), .int .i64 v165] ++ List.replicate (Try.f41.ntmps - ([.ptr 0 (0 : Nat) 0 (3 : Nat), .bslc (BR.root 1) (.f32 v164), .int .i64 v165] : List DV).length) .undef) [.gen [.nilslc, .nilslc, .flt .f32 v163] false 0]).bind (retD TT Try.f41.results.toList 1) = (impl_reflections_next_i1_T v163 v164 v165).bind fun y => .leaf (impl_reflections_next_i1_enc v163 v164 v165 y) := by kernel_rfl
theorem impl_reflections_next_i1_fn (v163 : Nat) (v164 : List Nat) (v165 : Int) (F : Fr) (hm : F.ids.length = 1) (h0 : St F [.gen [.nilslc, .nilslc, .flt .f32 v163] false 0] F.H0) (hA : DVs.Ok F [.gen [.nilslc, .nilslc, .flt .f32 v163] false 0] [.ptr 0 (0 : Nat) 0 (3 : Nat), .bslc (BR.root 1) (.f32 v164), .int .i64 v165]) {y : Bool × Nat} (hy : impl_reflections_next_i1_g v163 v164 v165 = some y) : ∃ H', FnOk Try.prog 41 (DVs.av F [.ptr 0 (0 : Nat) 0 (3 : Nat), .bslc (BR.root 1) (.f32 v164), .int .i64 v165]) F.H0 ((impl_reflections_next_i1_enc v163 v164 v165 y).1.av F) H' ∧ St F (impl_reflections_next_i1_enc v163 v164 v165 y).2 H' ∧ (impl_reflections_next_i1_enc v163 v164 v165 y).1.Ok F (impl_reflections_next_i1_enc v163 v164 v165 y).2 :=
  fn_fin tok impl_reflections_next_i1_hO mixed Try.func41 Try.call41 (by kernel_rfl) (LoopsOk_eq (l := [(0, bodyOf Try.f41 0), (2, bodyOf Try.f41 2)]) (by kernel_rfl) ⟨impl_reflections_next_i1_l0_ok v163 v164 v165, impl_reflections_next_i1_l2_ok v163 v164 v165, trivial⟩) (impl_reflections_next_i1_den v163 v164 v165) hy hm h0 hA
noncomputable def impl_reflections_next_i1_F : DFn := fun args L =>
  match args with
  | [a1, a2, .int .i64 v165] =>
    optT (genOf L 3 false a1) fun qg0 =>
    (match qg0.2 with
    | [.nilslc, .nilslc, .flt .f32 v163] =>
    optT (rowF32 L a2) fun v164 =>
    (match sepB [qg0.1] [a2] with
    | true =>
    .call (impl_reflections_next_i1_g v163 v164 v165) fun y => .leaf (.bool y.1, setB L [(qg0.1, .gen [.own (L.length + 0) 0 ((([fdiv .f32 (fsub .f32 (nth v164 (Int.toNat v165)) (0 : Nat)) v163] : List Nat)).length), .own (L.length + 1) 0 ((([fdiv .f32 (fsub .f32 (nth v164 (Int.toNat v165)) (0 : Nat)) v163] : List Nat)).length), .flt .f32 y.2] false (verAt L qg0.1))] ++ [.row (.f32 ([fdiv .f32 (fsub .f32 (nth v164 (Int.toNat v165)) (0 : Nat)) v163] : List Nat)) 0, .row (.f32 ([fdiv .f32 (fsub .f32 (nth v164 (Int.toNat v165)) (0 : Nat)) v163] : List Nat)) 0])
    | false => .fail)
    | _ => .fail)
  | _ => .fail
theorem impl_reflections_next_i1_Fok : COk Try.prog 41 impl_reflections_next_i1_F false := by
  intro F L H args r L' hs ha hr
  unfold impl_reflections_next_i1_F at hr
  split at hr
  · rename_i a1 a2 v165
    obtain ⟨⟨jg0, cg0⟩, hg0, hr⟩ := optT_run hr
    simp only at hr
    split at hr
    · rename_i v163
      obtain ⟨hge0, hgu0, hga0, hgn0, hgc0, hgf0⟩ := genOf_spec hs (DVs.okAt ha 0 rfl) hg0
      obtain ⟨v164, hv164, hr⟩ := optT_run hr
      split at hr
      · rename_i hsep
        obtain ⟨hnd, hsepv⟩ := sepB_spec hsep
        simp only [Tree.run] at hr
        obtain ⟨y, hy, hr⟩ := Option.bind_eq_some_iff.1 hr
        try simp only [Tree.run] at hr
        simp only [Option.some.injEq, Prod.mk.injEq] at hr
        obtain ⟨rfl, rfl⟩ := hr
        exact mutG_ok hs [a1, a2] ⟨(DVs.okAt ha 0 rfl), (DVs.okAt ha 1 rfl), trivial⟩ [a1, a2, .int .i64 v165] [.ptr 0 (0 : Nat) 0 (3 : Nat), .bslc (BR.root 1) (.f32 v164), .int .i64 v165] [jg0] [verAt L jg0] [.gen [.nilslc, .nilslc, .flt .f32 v163] false 0] [.gen [.own 1 0 ((([fdiv .f32 (fsub .f32 (nth v164 (Int.toNat v165)) (0 : Nat)) v163] : List Nat)).length), .own 2 0 ((([fdiv .f32 (fsub .f32 (nth v164 (Int.toNat v165)) (0 : Nat)) v163] : List Nat)).length), .flt .f32 y.2] false 0, .row (.f32 ([fdiv .f32 (fsub .f32 (nth v164 (Int.toNat v165)) (0 : Nat)) v163] : List Nat)) 0, .row (.f32 ([fdiv .f32 (fsub .f32 (nth v164 (Int.toNat v165)) (0 : Nat)) v163] : List Nat)) 0] [.gen [.own (L.length + 0) 0 ((([fdiv .f32 (fsub .f32 (nth v164 (Int.toNat v165)) (0 : Nat)) v163] : List Nat)).length), .own (L.length + 1) 0 ((([fdiv .f32 (fsub .f32 (nth v164 (Int.toNat v165)) (0 : Nat)) v163] : List Nat)).length), .flt .f32 y.2] false (verAt L jg0)] [.row (.f32 ([fdiv .f32 (fsub .f32 (nth v164 (Int.toNat v165)) (0 : Nat)) v163] : List Nat)) 0, .row (.f32 ([fdiv .f32 (fsub .f32 (nth v164 (Int.toNat v165)) (0 : Nat)) v163] : List Nat)) 0] hnd rfl rfl (fun j hj => by
            simp at hj
            subst hj; exact ex_lt hge0) (fun j hj => by
            simp at hj
            subst hj; exact reach_refs (by simp [DVs.refs, DV.refs, hgu0])) (fun F' h0 hi hρ ab hS => by
            have ab0 := ab 0 _ rfl;
            refine ⟨fun i j b' h1 h2 => ?_, by simp [DBlk.blk, DVs.av, DV.av, BR.av, hρ, Row.len, hga0, ab0], fun hst => impl_reflections_next_i1_fn v163 v164 v165 F' (by rw [hi]; rfl) hst ⟨⟨_, rfl, Nat.le_refl _, by decide, Nat.le_refl _, fun _ => rfl⟩, bslcM hS (by rw [hρ]; rfl) (hsepv a2 (by simp)) (DVs.okAt ha 1 rfl) (rowF32_or hv164), trivial, trivial⟩ hy⟩
            rcases i with _ | i
            · simp at h1 h2; subst h1; subst h2; obtain ⟨ver_, hv_⟩ := hge0; exact ⟨_, hv_, by simp [DBlk.blk, DVs.av, DV.av, BR.av, hρ, Row.len, hga0, ab0], ⟨⟨trivial, trivial, trivial, trivial⟩, fun hf => by cases hf⟩⟩
            · simp at h1) rfl rfl (fun i j b b' h1 h2 h3 => by
            rcases i with _ | i
            · simp at h1; subst h1; cases h3; exact growG hge0 rfl h2
            · simp at h1)
      · cases hr
    · cases hr
  · cases hr
/-! impl.ReflectionsOf -/
noncomputable def impl_ReflectionsOf_l0_T (v64 : List Nat) (s : (Int × Nat) ⊕ (Int × Nat × (List Nat) × (List Nat))) : Tree (((Int × Nat) ⊕ (Int × Nat × (List Nat) × (List Nat))) ⊕ ((Unit) ⊕ ((Nat) ⊕ (Nat × (List Nat) × (List Nat))))) :=
  (match s with
  | .inl s => (
  (.br (decide (s.1 < ((v64.length : Nat) : Int))) (
   (.call (impl_reflections_next_i1_g s.2 v64 s.1) fun v184 =>
   (.br (!v184.1) (
    .leaf (.inr (.inl ()))
   ) (
    .leaf (.inl (.inr (IntKind.i64.wrap (s.1 + (1 : Int)), v184.2, ([fdiv .f32 (fsub .f32 (nth v64 (Int.toNat s.1)) (0 : Nat)) s.2] : List Nat), ([fdiv .f32 (fsub .f32 (nth v64 (Int.toNat s.1)) (0 : Nat)) s.2] : List Nat))))
   )))
  ) (
   .leaf (.inr (.inr (.inl s.2)))
  )))
  | .inr s => (
  (.br (decide (s.1 < ((v64.length : Nat) : Int))) (
   (.call (impl_reflections_next_g s.2.2.1 s.2.2.2 s.2.1 v64 s.1) fun v185 =>
   (.grd (decide (s.2.2.1.length ≤ v185.2.2.1.length)) <|
   (.grd (decide (s.2.2.2.length ≤ v185.2.2.2.length)) <|
   (.br (!v185.1) (
    .leaf (.inr (.inl ()))
   ) (
    .leaf (.inl (.inr (IntKind.i64.wrap (s.1 + (1 : Int)), v185.2.1, v185.2.2.1, v185.2.2.2)))
   )))))
  ) (
   .leaf (.inr (.inr (.inr (s.2.1, s.2.2.1, s.2.2.2))))
  ))))

noncomputable def impl_ReflectionsOf_l0_g (v64 : List Nat) (s0 : (Int × Nat) ⊕ (Int × Nat × (List Nat) × (List Nat))) : Option ((Unit) ⊕ ((Nat) ⊕ (Nat × (List Nat) × (List Nat)))) := whileM (fun s => (impl_ReflectionsOf_l0_T v64 s).run) s0
def impl_ReflectionsOf_l0_E (v64 : List Nat) (s : (Int × Nat) ⊕ (Int × Nat × (List Nat) × (List Nat))) : Sd := (match s with | .inl s => ( ([.bslc (BR.root 0) (.f32 v64), .top, .top, .top, .top, .top, .ptr 0 (0 : Nat) 0 (3 : Nat), .int .i64 s.1, .top, .top, .top, .top, .top, .top, .top, .top, .top, .top, .top, .top, .top, .top, .top, .top, .top, .top, .top, .top, .top, .top, .top, .top, .top, .top, .top, .top, .top, .top, .top, .top, .top, .top, .top, .top, .top, .top, .top, .top, .top, .top, .top, .top, .top, .top, .top, .top, .top, .top, .top, .top, .top], [.gen [.nilslc, .nilslc, .flt .f32 s.2] false 0])) | .inr s => ( ([.bslc (BR.root 0) (.f32 v64), .top, .top, .top, .top, .top, .ptr 0 (0 : Nat) 0 (3 : Nat), .int .i64 s.1, .top, .top, .top, .top, .top, .top, .top, .top, .top, .top, .top, .top, .top, .top, .top, .top, .top, .top, .top, .top, .top, .top, .top, .top, .top, .top, .top, .top, .top, .top, .top, .top, .top, .top, .top, .top, .top, .top, .top, .top, .top, .top, .top, .top, .top, .top, .top, .top, .top, .top, .top, .top, .top], [.gen [.own 1 0 ((s.2.2.1).length), .own 2 0 ((s.2.2.2).length), .flt .f32 s.2.1] false 0, .row (.f32 s.2.2.1) 0, .row (.f32 s.2.2.2) 0]))) 
def impl_ReflectionsOf_l0_X (v64 : List Nat) (x : (Unit) ⊕ ((Nat) ⊕ (Nat × (List Nat) × (List Nat)))) : Out := (match x with | .inl x => (.ret, [.top, .top, .nilslc, .nilslc, .flt .f32 (0 : Nat), .lit false, .top, .top, .top, .top, .top, .top, .top, .top, .top, .top, .top, .top, .top, .top, .top, .top, .top, .top, .top, .top, .top, .top, .top, .top, .top, .top, .top, .top, .top, .top, .top, .top, .top, .top, .top, .top, .top, .top, .top, .top, .top, .top, .top, .top, .top, .top, .top, .top, .top, .top, .top, .top, .top, .top, .top], []) | .inr x => (match x with | .inl x => (.normal, [.top, .top, .top, .top, .top, .top, .ptr 0 (0 : Nat) 0 (3 : Nat), .top, .top, .top, .top, .top, .top, .top, .top, .top, .top, .top, .top, .top, .top, .top, .top, .top, .top, .top, .top, .top, .top, .top, .top, .top, .top, .top, .top, .top, .top, .top, .top, .top, .top, .top, .top, .top, .top, .top, .top, .top, .top, .top, .top, .top, .top, .top, .top, .top, .top, .top, .top, .top, .top], [.gen [.nilslc, .nilslc, .flt .f32 x] false 0]) | .inr x => (.normal, [.top, .top, .top, .top, .top, .top, .ptr 0 (0 : Nat) 0 (3 : Nat), .top, .top, .top, .top, .top, .top, .top, .top, .top, .top, .top, .top, .top, .top, .top, .top, .top, .top, .top, .top, .top, .top, .top, .top, .top, .top, .top, .top, .top, .top, .top, .top, .top, .top, .top, .top, .top, .top, .top, .top, .top, .top, .top, .top, .top, .top, .top, .top, .top, .top, .top, .top, .top, .top], [.gen [.own 1 0 ((x.2.1).length), .own 2 0 ((x.2.2).length), .flt .f32 x.1] false 0, .row (.f32 x.2.1) 0, .row (.f32 x.2.2) 0])))
def impl_ReflectionsOf_l0_kill : List Nat := [0, 1, 1, 1, 1, 1, 0, 0, 1, 1, 1, 1, 1, 1, 1, 1, 1, 1, 1, 1, 1, 1, 1, 1, 1, 1, 1, 1, 1, 1, 1, 1, 1, 1, 1, 1, 1, 1, 1, 1, 1, 1, 1, 1, 1, 1, 1, 1, 1, 1, 1, 1, 1, 1, 1, 1, 1, 1, 1, 1, 1]
def impl_ReflectionsOf_l0_nx : Exit → List Nat
  | .exit 0 => [1, 1, 1, 1, 1, 1, 0, 1, 1, 1, 1, 1, 1, 1, 1, 1, 1, 1, 1, 1, 1, 1, 1, 1, 1, 1, 1, 1, 1, 1, 1, 1, 1, 1, 1, 1, 1, 1, 1, 1, 1, 1, 1, 1, 1, 1, 1, 1, 1, 1, 1, 1, 1, 1, 1, 1, 1, 1, 1, 1, 1]
  | .ret => [1, 1, 0, 0, 0, 0, 1, 1, 1, 1, 1, 1, 1, 1, 1, 1, 1, 1, 1, 1, 1, 1, 1, 1, 1, 1, 1, 1, 1, 1, 1, 1, 1, 1, 1, 1, 1, 1, 1, 1, 1, 1, 1, 1, 1, 1, 1, 1, 1, 1, 1, 1, 1, 1, 1, 1, 1, 1, 1, 1, 1]
  | _ => []
noncomputable def impl_ReflectionsOf_LO (v64 : List Nat) : LOr := fun id e L =>
  match id with
  | 0 => .need (normA 0 impl_ReflectionsOf_l0_kill e L = some (impl_ReflectionsOf_l0_E v64 (.inl ((gI (vAt e 7)), (gF (cAt L (vAt e 6) 2)))))) (.call (impl_ReflectionsOf_l0_g v64 (.inl ((gI (vAt e 7)), (gF (cAt L (vAt e 6) 2))))) fun x => .sum x (fun b0 => .leaf (impl_ReflectionsOf_l0_X v64 (.inl b0))) (fun c0 => .sum c0 (fun b1 => .leaf (impl_ReflectionsOf_l0_X v64 (.inr (.inl b1)))) (fun c1 => .leaf (impl_ReflectionsOf_l0_X v64 (.inr (.inr c1))))))
  | _ => .fail
noncomputable def impl_ReflectionsOf_tab : List (FuncId × DFn × Bool) := [(40, impl_isShiftList_F, true), (41, (orL (fun args L => match args with | [x1, _, _] => (match cellsAt L x1 with | [.nilslc, .nilslc, _] => true | _ => false) | _ => false) impl_reflections_next_i1_F impl_reflections_next_F), false), (42, impl_areFinite_F, true), (43, impl_IsFinite_F, true)]
theorem impl_ReflectionsOf_hO : OrcOk Try.prog (tabD impl_ReflectionsOf_tab) (tabM impl_ReflectionsOf_tab) := tabD_cons impl_isShiftList_Fok (tabD_cons (orL_ok impl_reflections_next_i1_Fok impl_reflections_next_Fok) (tabD_cons impl_areFinite_Fok (tabD_cons impl_IsFinite_Fok (tabD_nil _))))
theorem impl_ReflectionsOf_l0_be0 (v64 : List Nat) (s : Int × Nat) : bodyT TT (tabD impl_ReflectionsOf_tab) (tabM impl_ReflectionsOf_tab) (impl_ReflectionsOf_LO v64) 0 impl_ReflectionsOf_l0_kill impl_ReflectionsOf_l0_nx (bodyOf Try.f11 0) 0 (impl_ReflectionsOf_l0_E v64 (.inl s)) = (impl_ReflectionsOf_l0_T v64 (.inl s)).bind fun y => .leaf (outS (impl_ReflectionsOf_l0_E v64) (impl_ReflectionsOf_l0_X v64) y) := by kernel_rfl
theorem impl_ReflectionsOf_l0_be1 (v64 : List Nat) (s : Int × Nat × (List Nat) × (List Nat)) : bodyT TT (tabD impl_ReflectionsOf_tab) (tabM impl_ReflectionsOf_tab) (impl_ReflectionsOf_LO v64) 0 impl_ReflectionsOf_l0_kill impl_ReflectionsOf_l0_nx (bodyOf Try.f11 0) 0 (impl_ReflectionsOf_l0_E v64 (.inr s)) = (impl_ReflectionsOf_l0_T v64 (.inr s)).bind fun y => .leaf (outS (impl_ReflectionsOf_l0_E v64) (impl_ReflectionsOf_l0_X v64) y) := by kernel_rfl
theorem impl_ReflectionsOf_l0_be (v64 : List Nat) (s : (Int × Nat) ⊕ (Int × Nat × (List Nat) × (List Nat))) : bodyT TT (tabD impl_ReflectionsOf_tab) (tabM impl_ReflectionsOf_tab) (impl_ReflectionsOf_LO v64) 0 impl_ReflectionsOf_l0_kill impl_ReflectionsOf_l0_nx (bodyOf Try.f11 0) 0 (impl_ReflectionsOf_l0_E v64 s) = (impl_ReflectionsOf_l0_T v64 s).bind fun y => .leaf (outS (impl_ReflectionsOf_l0_E v64) (impl_ReflectionsOf_l0_X v64) y) := by 
  rcases s with s | s
  · exact impl_ReflectionsOf_l0_be0 v64 s
  · exact impl_ReflectionsOf_l0_be1 v64 s
theorem impl_ReflectionsOf_l0_ok (v64 : List Nat) : LSound Try.prog 0 (impl_ReflectionsOf_LO v64) 0 (bodyOf Try.f11 0) := by
  intro e L out h
  exact lo_ok (E := impl_ReflectionsOf_l0_E v64) (gT := impl_ReflectionsOf_l0_T v64) (X := impl_ReflectionsOf_l0_X v64) (s0 := .inl ((gI (vAt e 7)), (gF (cAt L (vAt e 6) 2)))) tok impl_ReflectionsOf_hO mixed (LoopsOk_eq (l := []) (by kernel_rfl) trivial) (impl_ReflectionsOf_l0_be v64) rfl (by intro x; (cases x with | inl b => rfl | inr x => (cases x with | inl b => rfl | inr x => exact rfl))) h
noncomputable def impl_ReflectionsOf_T (v64 : List Nat) : Tree ((Unit) ⊕ ((Nat) ⊕ (Nat × (List Nat) × (List Nat)))) :=
  (.call (impl_isShiftList_g v64) fun v91 =>
  (.br (!v91) (
   .leaf (.inl ())
  ) (
   (.grd (inb (0 : Int) v64.length) <|
   (.need (some (impl_ReflectionsOf_l0_E v64 (.inl ((1 : Int), nth v64 (Int.toNat (0 : Int))))) = some (impl_ReflectionsOf_l0_E v64 (.inl ((1 : Int), nth v64 (Int.toNat (0 : Int)))))) <|
   (.call (impl_ReflectionsOf_l0_g v64 (.inl ((1 : Int), nth v64 (Int.toNat (0 : Int))))) fun v186 =>
   (.sum v186 (fun v187 =>
    .leaf (.inl ())
   ) (fun v188 =>
    (.sum v188 (fun v189 =>
     (.call (impl_areFinite_g ([] : List Nat)) fun v191 =>
     (.br (!v191) (
      .leaf (.inl ())
     ) (
      (.call (impl_areFinite_g ([] : List Nat)) fun v192 =>
      (.br (!v192) (
       .leaf (.inl ())
      ) (
       (.br (!(impl_IsFinite_v v189)) (
        .leaf (.inl ())
       ) (
        .leaf (.inr (.inl v189))
       ))
      )))
     )))
    ) (fun v190 =>
     (.call (impl_areFinite_g v190.2.1) fun v193 =>
     (.br (!v193) (
      .leaf (.inl ())
     ) (
      (.call (impl_areFinite_g v190.2.2) fun v194 =>
      (.br (!v194) (
       .leaf (.inl ())
      ) (
       (.br (!(impl_IsFinite_v v190.1)) (
        .leaf (.inl ())
       ) (
        .leaf (.inr (.inr (v190.1, v190.2.1, v190.2.2)))
       ))
      )))
     )))
    ))
   )))))
  )))

noncomputable def impl_ReflectionsOf_g (v64 : List Nat) : Option ((Unit) ⊕ ((Nat) ⊕ (Nat × (List Nat) × (List Nat)))) := (impl_ReflectionsOf_T v64).run
def impl_ReflectionsOf_enc (v64 : List Nat) (y : (Unit) ⊕ ((Nat) ⊕ (Nat × (List Nat) × (List Nat)))) : Rs := (match y with | .inl y => (.tup [.nilslc, .nilslc, .flt .f32 (0 : Nat), .lit false], []) | .inr y => (match y with | .inl y => (.tup [.nilslc, .nilslc, .flt .f32 y, .lit true], []) | .inr y => (.tup [.own 0 0 ((y.2.1).length), .own 1 0 ((y.2.2).length), .flt .f32 y.1, .lit true], [.row (.f32 y.2.1) 0, .row (.f32 y.2.2) 0])))
theorem impl_ReflectionsOf_den (v64 : List Nat) : (den TT (tabD impl_ReflectionsOf_tab) (tabM impl_ReflectionsOf_tab) (impl_ReflectionsOf_LO v64) (codeOf Try.f11) ([.bslc (BR.root 0) (.f32 v64)] ++ List.replicate (Try.f11.ntmps - ([.bslc (BR.root 0) (.f32 v64)] : List DV).length) .undef) []).bind (retD TT Try.f11.results.toList 0) = (impl_ReflectionsOf_T v64).bind fun y => .leaf (impl_ReflectionsOf_enc v64 y) := by kernel_rfl
theorem impl_ReflectionsOf_fn (v64 : List Nat) (F : Fr) (hm : F.ids.length = 0) (h0 : St F [] F.H0) (hA : DVs.Ok F [] [.bslc (BR.root 0) (.f32 v64)]) {y : (Unit) ⊕ ((Nat) ⊕ (Nat × (List Nat) × (List Nat)))} (hy : impl_ReflectionsOf_g v64 = some y) : ∃ H', FnOk Try.prog 11 (DVs.av F [.bslc (BR.root 0) (.f32 v64)]) F.H0 ((impl_ReflectionsOf_enc v64 y).1.av F) H' ∧ St F (impl_ReflectionsOf_enc v64 y).2 H' ∧ (impl_ReflectionsOf_enc v64 y).1.Ok F (impl_ReflectionsOf_enc v64 y).2 :=
  fn_fin tok impl_ReflectionsOf_hO mixed Try.func11 Try.call11 (by kernel_rfl) (LoopsOk_eq (l := [(0, bodyOf Try.f11 0)]) (by kernel_rfl) ⟨impl_ReflectionsOf_l0_ok v64, trivial⟩) (impl_ReflectionsOf_den v64) hy hm h0 hA
noncomputable def impl_ReflectionsOf_F : DFn := fun args L =>
  match args with
  | [a1] =>
    optT (rowF32 L a1) fun v64 =>
    .call (impl_ReflectionsOf_g v64) fun y => .sum y (fun y0 => .leaf (.tup [.nilslc, .nilslc, .flt .f32 (0 : Nat), .lit false], L)) (fun z0 => .sum z0 (fun y1 => .leaf (.tup [.nilslc, .nilslc, .flt .f32 y1, .lit true], L)) (fun z1 => .leaf (.tup [.own (L.length + 0) 0 ((z1.2.1).length), .own (L.length + 1) 0 ((z1.2.2).length), .flt .f32 z1.1, .lit true], L ++ [.row (.f32 z1.2.1) 0, .row (.f32 z1.2.2) 0])))
  | _ => .fail
theorem impl_ReflectionsOf_Fok : COk Try.prog 11 impl_ReflectionsOf_F true := by
  intro F L H args r L' hs ha hr
  unfold impl_ReflectionsOf_F at hr
  split at hr
  · rename_i a1
    obtain ⟨v64, hv64, hr⟩ := optT_run hr
    simp only [Tree.run] at hr
    obtain ⟨y, hy, hr⟩ := Option.bind_eq_some_iff.1 hr
    cases y with
    | inl y =>
      simp only [Tree.run, Option.some.injEq, Prod.mk.injEq] at hr
      obtain ⟨rfl, rfl⟩ := hr
      exact call_ok0 hs (fun k => (([a1.av F] : List AV)[k]?).getD .top) [a1] [.bslc (BR.root 0) (.f32 v64)] (fun F' h0 hi hρ => ⟨by simp [DVs.av, DV.av, BR.av, hρ], impl_ReflectionsOf_fn v64 F' (by rw [hi]; rfl) (st_nil hi) ⟨bslc_ok hi (by rw [h0, hρ]; exact rowF32_ok hs (DVs.okAt ha 0 rfl) hv64), trivial⟩ hy⟩) rfl
    | inr y =>
      cases y with
      | inl y =>
        simp only [Tree.run, Option.some.injEq, Prod.mk.injEq] at hr
        obtain ⟨rfl, rfl⟩ := hr
        exact call_ok0 hs (fun k => (([a1.av F] : List AV)[k]?).getD .top) [a1] [.bslc (BR.root 0) (.f32 v64)] (fun F' h0 hi hρ => ⟨by simp [DVs.av, DV.av, BR.av, hρ], impl_ReflectionsOf_fn v64 F' (by rw [hi]; rfl) (st_nil hi) ⟨bslc_ok hi (by rw [h0, hρ]; exact rowF32_ok hs (DVs.okAt ha 0 rfl) hv64), trivial⟩ hy⟩) rfl
      | inr y =>
        simp only [Tree.run, Option.some.injEq, Prod.mk.injEq] at hr
        obtain ⟨rfl, rfl⟩ := hr
        exact call_ok1 hs (fun k => (([a1.av F] : List AV)[k]?).getD .top) [a1] [.bslc (BR.root 0) (.f32 v64)] (fun F' h0 hi hρ => ⟨by simp [DVs.av, DV.av, BR.av, hρ], impl_ReflectionsOf_fn v64 F' (by rw [hi]; rfl) (st_nil hi) ⟨bslc_ok hi (by rw [h0, hρ]; exact rowF32_ok hs (DVs.okAt ha 0 rfl) hv64), trivial⟩ hy⟩) rfl rfl
  · cases hr
/-! laws.sameFloat -/
noncomputable def laws_sameFloat_LO (v201 : Nat) (v202 : Nat) : LOr := fun id e L =>
  match id with
  | _ => .fail
noncomputable def laws_sameFloat_tab : List (FuncId × DFn × Bool) := []
theorem laws_sameFloat_hO : OrcOk Try.prog (tabD laws_sameFloat_tab) (tabM laws_sameFloat_tab) := tabD_nil _
noncomputable def laws_sameFloat_T (v201 : Nat) (v202 : Nat) : Tree (Bool) :=
  (.br (!feq .f64 v201 v201) (
   (.br (!feq .f64 v201 v201) (
    .leaf (!feq .f64 v202 v202)
   ) (
    .leaf false
   ))
  ) (
   (.br (!feq .f64 v202 v202) (
    (.br (!feq .f64 v201 v201) (
     .leaf (!feq .f64 v202 v202)
    ) (
     .leaf false
    ))
   ) (
    (.br (feq .f64 v201 (0 : Nat)) (
     (.br (feq .f64 v202 (0 : Nat)) (
      .leaf ((fgrt .f64 (fdiv .f64 (4607182418800017408 : Nat) v201) (0 : Nat)) == (fgrt .f64 (fdiv .f64 (4607182418800017408 : Nat) v202) (0 : Nat)))
     ) (
      .leaf (feq .f64 v201 v202)
     ))
    ) (
     .leaf (feq .f64 v201 v202)
    ))
   ))
  ))

noncomputable def laws_sameFloat_g (v201 : Nat) (v202 : Nat) : Option (Bool) := (laws_sameFloat_T v201 v202).run
def laws_sameFloat_enc (v201 : Nat) (v202 : Nat) (y : Bool) : Rs := (.bool y, [])
theorem laws_sameFloat_den (v201 : Nat) (v202 : Nat) : (den TT (tabD laws_sameFloat_tab) (tabM laws_sameFloat_tab) (laws_sameFloat_LO v201 v202) (codeOf Try.f13) ([.flt .f64 v201, .flt .f64 v202] ++ List.replicate (Try.f13.ntmps - ([.flt .f64 v201, .flt .f64 v202] : List DV).length) .undef) []).bind (retD TT Try.f13.results.toList 0) = (laws_sameFloat_T v201 v202).bind fun y => .leaf (laws_sameFloat_enc v201 v202 y) := by kernel_rfl
theorem laws_sameFloat_fn (v201 : Nat) (v202 : Nat) (F : Fr) (hm : F.ids.length = 0) (h0 : St F [] F.H0) (hA : DVs.Ok F [] [.flt .f64 v201, .flt .f64 v202]) {y : Bool} (hy : laws_sameFloat_g v201 v202 = some y) : ∃ H', FnOk Try.prog 13 (DVs.av F [.flt .f64 v201, .flt .f64 v202]) F.H0 ((laws_sameFloat_enc v201 v202 y).1.av F) H' ∧ St F (laws_sameFloat_enc v201 v202 y).2 H' ∧ (laws_sameFloat_enc v201 v202 y).1.Ok F (laws_sameFloat_enc v201 v202 y).2 :=
  fn_fin tok laws_sameFloat_hO mixed Try.func13 Try.call13 (by kernel_rfl) (LoopsOk_eq (l := []) (by kernel_rfl) trivial) (laws_sameFloat_den v201 v202) hy hm h0 hA
def laws_sameFloat_v (v201 : Nat) (v202 : Nat) : Bool :=
  if (!feq .f64 v201 v201) = true then (
   if (!feq .f64 v201 v201) = true then (
    !feq .f64 v202 v202
   ) else (
    false
   )
  ) else (
   if (!feq .f64 v202 v202) = true then (
    if (!feq .f64 v201 v201) = true then (
     !feq .f64 v202 v202
    ) else (
     false
    )
   ) else (
    if (feq .f64 v201 (0 : Nat)) = true then (
     if (feq .f64 v202 (0 : Nat)) = true then (
      (fgrt .f64 (fdiv .f64 (4607182418800017408 : Nat) v201) (0 : Nat)) == (fgrt .f64 (fdiv .f64 (4607182418800017408 : Nat) v202) (0 : Nat))
     ) else (
      feq .f64 v201 v202
     )
    ) else (
     feq .f64 v201 v202
    )
   )
  )
theorem laws_sameFloat_tot (v201 : Nat) (v202 : Nat) : laws_sameFloat_g v201 v202 = some (laws_sameFloat_v v201 v202) := by
  unfold laws_sameFloat_g laws_sameFloat_T laws_sameFloat_v
  simp only [Tree.run]
  repeat' (first | rfl | split)
noncomputable def laws_sameFloat_F : DFn := fun args L =>
  match args with
  | [.flt .f64 v201, .flt .f64 v202] =>
    .leaf (.bool (laws_sameFloat_v v201 v202), L)
  | _ => .fail
theorem laws_sameFloat_Fok : COk Try.prog 13 laws_sameFloat_F true := by
  intro F L H args r L' hs ha hr
  unfold laws_sameFloat_F at hr
  split at hr
  · rename_i v201 v202
    have hy := laws_sameFloat_tot v201 v202
    generalize laws_sameFloat_v v201 v202 = y at hy hr
    simp only [Tree.run, Option.some.injEq, Prod.mk.injEq] at hr
    obtain ⟨rfl, rfl⟩ := hr
    exact call_ok0 hs (fun k => (([] : List AV)[k]?).getD .top) [.flt .f64 v201, .flt .f64 v202] [.flt .f64 v201, .flt .f64 v202] (fun F' h0 hi hρ => ⟨by simp [DVs.av, DV.av, BR.av, hρ], laws_sameFloat_fn v201 v202 F' (by rw [hi]; rfl) (st_nil hi) ⟨trivial, trivial, trivial⟩ hy⟩) rfl
  · cases hr
/-! laws.eqFloat32S -/
noncomputable def laws_eqFloat32S_l0_T (v198 : List Nat) (v199 : List Nat) (s : Int) : Tree ((Int) ⊕ ((Unit) ⊕ (Unit))) :=
  (.br (decide (s < ((v198.length : Nat) : Int))) (
   (.grd (inb s v198.length) <|
   (.grd (inb s v199.length) <|
   (.br (!(laws_sameFloat_v (wid (nth v198 (Int.toNat s))) (wid (nth v199 (Int.toNat s))))) (
    .leaf (.inr (.inl ()))
   ) (
    .leaf (.inl (IntKind.i64.wrap (s + (1 : Int))))
   ))))
  ) (
   .leaf (.inr (.inr ()))
  ))

noncomputable def laws_eqFloat32S_l0_g (v198 : List Nat) (v199 : List Nat) (s0 : Int) : Option ((Unit) ⊕ (Unit)) := whileM (fun s => (laws_eqFloat32S_l0_T v198 v199 s).run) s0
def laws_eqFloat32S_l0_E (v198 : List Nat) (v199 : List Nat) (s : Int) : Sd := ([.bslc (BR.root 0) (.f32 v198), .bslc (BR.root 1) (.f32 v199), .top, .top, .top, .int .i64 s, .top, .top, .top, .top, .top, .top, .top, .top, .top, .top, .top, .top, .top, .top, .top, .top, .top, .top, .top, .top, .top, .top, .top], [])
def laws_eqFloat32S_l0_X (v198 : List Nat) (v199 : List Nat) (x : (Unit) ⊕ (Unit)) : Out := (match x with | .inl x => (.ret, [.top, .top, .top, .top, .lit false, .top, .top, .top, .top, .top, .top, .top, .top, .top, .top, .top, .top, .top, .top, .top, .top, .top, .top, .top, .top, .top, .top, .top, .top], []) | .inr x => (.normal, [.top, .top, .top, .top, .top, .top, .top, .top, .top, .top, .top, .top, .top, .top, .top, .top, .top, .top, .top, .top, .top, .top, .top, .top, .top, .top, .top, .top, .top], []))
def laws_eqFloat32S_l0_kill : List Nat := [0, 0, 1, 1, 1, 0, 1, 1, 1, 1, 1, 1, 1, 1, 1, 1, 1, 1, 1, 1, 1, 1, 1, 1, 1, 1, 1, 1, 1]
def laws_eqFloat32S_l0_nx : Exit → List Nat
  | .exit 0 => [1, 1, 1, 1, 1, 1, 1, 1, 1, 1, 1, 1, 1, 1, 1, 1, 1, 1, 1, 1, 1, 1, 1, 1, 1, 1, 1, 1, 1]
  | .ret => [1, 1, 1, 1, 0, 1, 1, 1, 1, 1, 1, 1, 1, 1, 1, 1, 1, 1, 1, 1, 1, 1, 1, 1, 1, 1, 1, 1, 1]
  | _ => []
noncomputable def laws_eqFloat32S_LO (v198 : List Nat) (v199 : List Nat) : LOr := fun id e L =>
  match id with
  | 0 => .need (normA 0 laws_eqFloat32S_l0_kill e L = some (laws_eqFloat32S_l0_E v198 v199 (gI (vAt e 5)))) (.call (laws_eqFloat32S_l0_g v198 v199 (gI (vAt e 5))) fun x => .sum x (fun b0 => .leaf (laws_eqFloat32S_l0_X v198 v199 (.inl b0))) (fun c0 => .leaf (laws_eqFloat32S_l0_X v198 v199 (.inr c0))))
  | _ => .fail
noncomputable def laws_eqFloat32S_tab : List (FuncId × DFn × Bool) := [(13, laws_sameFloat_F, true)]
theorem laws_eqFloat32S_hO : OrcOk Try.prog (tabD laws_eqFloat32S_tab) (tabM laws_eqFloat32S_tab) := tabD_cons laws_sameFloat_Fok (tabD_nil _)
theorem laws_eqFloat32S_l0_be (v198 : List Nat) (v199 : List Nat) (s : Int) : bodyT TT (tabD laws_eqFloat32S_tab) (tabM laws_eqFloat32S_tab) (laws_eqFloat32S_LO v198 v199) 0 laws_eqFloat32S_l0_kill laws_eqFloat32S_l0_nx (bodyOf Try.f12 0) 0 (laws_eqFloat32S_l0_E v198 v199 s) = (laws_eqFloat32S_l0_T v198 v199 s).bind fun y => .leaf (outS (laws_eqFloat32S_l0_E v198 v199) (laws_eqFloat32S_l0_X v198 v199) y) := by kernel_rfl
theorem laws_eqFloat32S_l0_ok (v198 : List Nat) (v199 : List Nat) : LSound Try.prog 0 (laws_eqFloat32S_LO v198 v199) 0 (bodyOf Try.f12 0) := by
  intro e L out h
  exact lo_ok (E := laws_eqFloat32S_l0_E v198 v199) (gT := laws_eqFloat32S_l0_T v198 v199) (X := laws_eqFloat32S_l0_X v198 v199) (s0 := (gI (vAt e 5))) tok laws_eqFloat32S_hO mixed (LoopsOk_eq (l := []) (by kernel_rfl) trivial) (laws_eqFloat32S_l0_be v198 v199) rfl (by intro x; (cases x with | inl b => rfl | inr x => exact rfl)) h
noncomputable def laws_eqFloat32S_T (v198 : List Nat) (v199 : List Nat) : Tree (Bool) :=
  (.br (!decide (((v198.length : Nat) : Int) = ((v199.length : Nat) : Int))) (
   .leaf false
  ) (
   (.need (some (laws_eqFloat32S_l0_E v198 v199 (0 : Int)) = some (laws_eqFloat32S_l0_E v198 v199 (0 : Int))) <|
   (.call (laws_eqFloat32S_l0_g v198 v199 (0 : Int)) fun v205 =>
   (.sum v205 (fun v206 =>
    .leaf false
   ) (fun v207 =>
    .leaf true
   ))))
  ))

noncomputable def laws_eqFloat32S_g (v198 : List Nat) (v199 : List Nat) : Option (Bool) := (laws_eqFloat32S_T v198 v199).run
def laws_eqFloat32S_enc (v198 : List Nat) (v199 : List Nat) (y : Bool) : Rs := (.bool y, [])
theorem laws_eqFloat32S_den (v198 : List Nat) (v199 : List Nat) : (den TT (tabD laws_eqFloat32S_tab) (tabM laws_eqFloat32S_tab) (laws_eqFloat32S_LO v198 v199) (codeOf Try.f12) ([.bslc (BR.root 0) (.f32 v198), .bslc (BR.root 1) (.f32 v199)] ++ List.replicate (Try.f12.ntmps - ([.bslc (BR.root 0) (.f32 v198), .bslc (BR.root 1) (.f32 v199)] : List DV).length) .undef) []).bind (retD TT Try.f12.results.toList 0) = (laws_eqFloat32S_T v198 v199).bind fun y => .leaf (laws_eqFloat32S_enc v198 v199 y) := by kernel_rfl
theorem laws_eqFloat32S_fn (v198 : List Nat) (v199 : List Nat) (F : Fr) (hm : F.ids.length = 0) (h0 : St F [] F.H0) (hA : DVs.Ok F [] [.bslc (BR.root 0) (.f32 v198), .bslc (BR.root 1) (.f32 v199)]) {y : Bool} (hy : laws_eqFloat32S_g v198 v199 = some y) : ∃ H', FnOk Try.prog 12 (DVs.av F [.bslc (BR.root 0) (.f32 v198), .bslc (BR.root 1) (.f32 v199)]) F.H0 ((laws_eqFloat32S_enc v198 v199 y).1.av F) H' ∧ St F (laws_eqFloat32S_enc v198 v199 y).2 H' ∧ (laws_eqFloat32S_enc v198 v199 y).1.Ok F (laws_eqFloat32S_enc v198 v199 y).2 :=
  fn_fin tok laws_eqFloat32S_hO mixed Try.func12 Try.call12 (by kernel_rfl) (LoopsOk_eq (l := [(0, bodyOf Try.f12 0)]) (by kernel_rfl) ⟨laws_eqFloat32S_l0_ok v198 v199, trivial⟩) (laws_eqFloat32S_den v198 v199) hy hm h0 hA
noncomputable def laws_eqFloat32S_F : DFn := fun args L =>
  match args with
  | [a1, a2] =>
    optT (rowF32 L a1) fun v198 =>
    optT (rowF32 L a2) fun v199 =>
    .call (laws_eqFloat32S_g v198 v199) fun y => .leaf (.bool y, L)
  | _ => .fail
theorem laws_eqFloat32S_Fok : COk Try.prog 12 laws_eqFloat32S_F true := by
  intro F L H args r L' hs ha hr
  unfold laws_eqFloat32S_F at hr
  split at hr
  · rename_i a1 a2
    obtain ⟨v198, hv198, hr⟩ := optT_run hr
    obtain ⟨v199, hv199, hr⟩ := optT_run hr
    simp only [Tree.run] at hr
    obtain ⟨y, hy, hr⟩ := Option.bind_eq_some_iff.1 hr
    simp only [Tree.run, Option.some.injEq, Prod.mk.injEq] at hr
    obtain ⟨rfl, rfl⟩ := hr
    exact call_ok0 hs (fun k => (([a1.av F, a2.av F] : List AV)[k]?).getD .top) [a1, a2] [.bslc (BR.root 0) (.f32 v198), .bslc (BR.root 1) (.f32 v199)] (fun F' h0 hi hρ => ⟨by simp [DVs.av, DV.av, BR.av, hρ], laws_eqFloat32S_fn v198 v199 F' (by rw [hi]; rfl) (st_nil hi) ⟨bslc_ok hi (by rw [h0, hρ]; exact rowF32_ok hs (DVs.okAt ha 0 rfl) hv198), bslc_ok hi (by rw [h0, hρ]; exact rowF32_ok hs (DVs.okAt ha 1 rfl) hv199), trivial⟩ hy⟩) rfl
  · cases hr
/-! laws.markFloat32S -/
noncomputable def laws_markFloat32S_l0_T (s : Int × Int × (List Nat)) : Tree ((Int × Int × (List Nat)) ⊕ (Int × (List Nat))) :=
  (.br (decide (s.2.1 < (((s.2.2).length : Nat) : Int))) (
   (.grd (inb s.2.1 ((s.2.2).length)) <|
   .leaf (.inl (IntKind.i64.wrap (s.1 + (1 : Int)), IntKind.i64.wrap (s.2.1 + (1 : Int)), List.set s.2.2 (Int.toNat s.2.1) (fofint .f32 s.1))))
  ) (
   .leaf (.inr (s.1, s.2.2))
  ))

noncomputable def laws_markFloat32S_l0_g (s0 : Int × Int × (List Nat)) : Option (Int × (List Nat)) := whileM (fun s => (laws_markFloat32S_l0_T s).run) s0
def laws_markFloat32S_l0_E (v216 : List Nat) (v217 : Int) (s : Int × Int × (List Nat)) : Sd := ([.own 0 0 ((s.2.2).length), .int .i64 s.1, .top, .top, .top, .int .i64 s.2.1, .top, .top, .top, .top, .top, .top, .top, .top, .top, .top, .top, .top, .top, .top], [.row (.f32 s.2.2) 0])
def laws_markFloat32S_l0_X (v216 : List Nat) (v217 : Int) (x : Int × (List Nat)) : Out := (.normal, [.top, .int .i64 x.1, .top, .top, .top, .top, .top, .top, .top, .top, .top, .top, .top, .top, .top, .top, .top, .top, .top, .top], [.row (.f32 x.2) 0])
def laws_markFloat32S_l0_kill : List Nat := [0, 0, 1, 1, 1, 0, 1, 1, 1, 1, 1, 1, 1, 1, 1, 1, 1, 1, 1, 1]
def laws_markFloat32S_l0_nx : Exit → List Nat
  | .exit 0 => [1, 0, 1, 1, 1, 1, 1, 1, 1, 1, 1, 1, 1, 1, 1, 1, 1, 1, 1, 1]
  | .ret => [1, 1, 1, 1, 0, 1, 1, 1, 1, 1, 1, 1, 1, 1, 1, 1, 1, 1, 1, 1]
  | _ => []
noncomputable def laws_markFloat32S_LO (v216 : List Nat) (v217 : Int) : LOr := fun id e L =>
  match id with
  | 0 => .need (normA 1 laws_markFloat32S_l0_kill e L = some (laws_markFloat32S_l0_E v216 v217 ((gI (vAt e 1)), (gI (vAt e 5)), (gRF L (vAt e 0))))) (.call (laws_markFloat32S_l0_g ((gI (vAt e 1)), (gI (vAt e 5)), (gRF L (vAt e 0)))) fun x => .leaf (laws_markFloat32S_l0_X v216 v217 x))
  | _ => .fail
noncomputable def laws_markFloat32S_tab : List (FuncId × DFn × Bool) := []
theorem laws_markFloat32S_hO : OrcOk Try.prog (tabD laws_markFloat32S_tab) (tabM laws_markFloat32S_tab) := tabD_nil _
theorem laws_markFloat32S_l0_be (v216 : List Nat) (v217 : Int) (s : Int × Int × (List Nat)) : bodyT TT (tabD laws_markFloat32S_tab) (tabM laws_markFloat32S_tab) (laws_markFloat32S_LO v216 v217) 1 laws_markFloat32S_l0_kill laws_markFloat32S_l0_nx (bodyOf Try.f14 0) 0 (laws_markFloat32S_l0_E v216 v217 s) = (laws_markFloat32S_l0_T s).bind fun y => .leaf (outS (laws_markFloat32S_l0_E v216 v217) (laws_markFloat32S_l0_X v216 v217) y) := by kernel_rfl
theorem laws_markFloat32S_l0_ok (v216 : List Nat) (v217 : Int) : LSound Try.prog 1 (laws_markFloat32S_LO v216 v217) 0 (bodyOf Try.f14 0) := by
  intro e L out h
  exact lo_ok (E := laws_markFloat32S_l0_E v216 v217) (gT := laws_markFloat32S_l0_T) (X := laws_markFloat32S_l0_X v216 v217) (s0 := ((gI (vAt e 1)), (gI (vAt e 5)), (gRF L (vAt e 0)))) tok laws_markFloat32S_hO mixed (LoopsOk_eq (l := []) (by kernel_rfl) trivial) (laws_markFloat32S_l0_be v216 v217) rfl (by intro x; rfl) h
noncomputable def laws_markFloat32S_T (v216 : List Nat) (v217 : Int) : Tree (Int × (List Nat)) :=
  (.need (some (laws_markFloat32S_l0_E v216 v217 (v217, (0 : Int), v216)) = some (laws_markFloat32S_l0_E v216 v217 (v217, (0 : Int), v216))) <|
  (.call (laws_markFloat32S_l0_g (v217, (0 : Int), v216)) fun v226 =>
  .leaf (v226.1, v226.2)))

noncomputable def laws_markFloat32S_g (v216 : List Nat) (v217 : Int) : Option (Int × (List Nat)) := (laws_markFloat32S_T v216 v217).run
def laws_markFloat32S_enc (v216 : List Nat) (v217 : Int) (y : Int × (List Nat)) : Rs := (.int .i64 y.1, [.row (.f32 y.2) 0])
theorem laws_markFloat32S_den (v216 : List Nat) (v217 : Int) : (den TT (tabD laws_markFloat32S_tab) (tabM laws_markFloat32S_tab) (laws_markFloat32S_LO v216 v217) (codeOf Try.f14) ([.own 0 0 v216.length, .int .i64 v217] ++ List.replicate (Try.f14.ntmps - ([.own 0 0 v216.length, .int .i64 v217] : List DV).length) .undef) [.row (.f32 v216) 0]).bind (retD TT Try.f14.results.toList 1) = (laws_markFloat32S_T v216 v217).bind fun y => .leaf (laws_markFloat32S_enc v216 v217 y) := by kernel_rfl
theorem laws_markFloat32S_fn (v216 : List Nat) (v217 : Int) (F : Fr) (hm : F.ids.length = 1) (h0 : St F [.row (.f32 v216) 0] F.H0) (hA : DVs.Ok F [.row (.f32 v216) 0] [.own 0 0 v216.length, .int .i64 v217]) {y : Int × (List Nat)} (hy : laws_markFloat32S_g v216 v217 = some y) : ∃ H', FnOk Try.prog 14 (DVs.av F [.own 0 0 v216.length, .int .i64 v217]) F.H0 ((laws_markFloat32S_enc v216 v217 y).1.av F) H' ∧ St F (laws_markFloat32S_enc v216 v217 y).2 H' ∧ (laws_markFloat32S_enc v216 v217 y).1.Ok F (laws_markFloat32S_enc v216 v217 y).2 :=
  fn_fin tok laws_markFloat32S_hO mixed Try.func14 Try.call14 (by kernel_rfl) (LoopsOk_eq (l := [(0, bodyOf Try.f14 0)]) (by kernel_rfl) ⟨laws_markFloat32S_l0_ok v216 v217, trivial⟩) (laws_markFloat32S_den v216 v217) hy hm h0 hA
noncomputable def laws_markFloat32S_F : DFn := fun args L =>
  match args with
  | [a1, .int .i64 v217] =>
    optT (ownF32 L a1) fun qv216 =>
    (match sepB [qv216.1] [] with
    | true =>
    .call (laws_markFloat32S_g qv216.2 v217) fun y => .grd (decide (y.2.length = qv216.2.length)) (.leaf (.int .i64 y.1, setRows L ([qv216.1].zip [.f32 y.2])))
    | false => .fail)
  | _ => .fail
theorem laws_markFloat32S_Fok : COk Try.prog 14 laws_markFloat32S_F false := by
  intro F L H args r L' hs ha hr
  unfold laws_markFloat32S_F at hr
  split at hr
  · rename_i a1 v217
    obtain ⟨⟨jv216, v216⟩, hqv216, hr⟩ := optT_run hr
    simp only at hr
    split at hr
    · rename_i hsep
      obtain ⟨hnd, hsepv⟩ := sepB_spec hsep
      simp only [Tree.run] at hr
      obtain ⟨y, hy, hr⟩ := Option.bind_eq_some_iff.1 hr
      try simp only [Tree.run] at hr
      obtain ⟨hl0, hr⟩ := ite_run hr
      simp only [Option.some.injEq, Prod.mk.injEq] at hr
      obtain ⟨rfl, rfl⟩ := hr
      obtain ⟨hr0, hu0, ha0, hb0⟩ := (ownR_spec (DVs.okAt ha 0 rfl) (ownF32_or hqv216))
      exact mut_ok hs (fun k => (([a1.av F] : List AV)[k]?).getD .top) [a1, .int .i64 v217] [.own 0 0 v216.length, .int .i64 v217] [jv216] [.f32 v216] [.f32 y.2] hnd rfl rfl (fun i j q h1 h2 => by
          rcases i with _ | i
          · simp at h1 h2; subst h1; subst h2; exact hr0
          · simp at h1) (fun i q q' h1 h2 => by
          rcases i with _ | i
          · simp at h1 h2; subst h1; subst h2; exact of_decide_eq_true hl0
          · simp at h1) (fun j hj => by simp at hj; subst hj; simp [DVs.refs, DV.refs, hu0]) (fun F' h0 hi hρ hst hS => ⟨by (have ab0 : F'.abs 0 = F.abs jv216 := (by simp [Fr.abs, hi]); simp [DVs.av, DV.av, BR.av, hρ, Row.len, ha0, ab0]), by
          obtain ⟨H1, k1, k2, _⟩ := laws_markFloat32S_fn v216 v217 F' (by rw [hi]; rfl) hst ⟨⟨_, rfl, Nat.le_refl _, Nat.le_refl _, fun _ => rfl, (ownR_spec (DVs.okAt ha 0 rfl) (ownF32_or hqv216)).2.2.2⟩, trivial, trivial⟩ hy
          exact ⟨H1, k1, k2⟩⟩) (fun F' => rfl) (fun L' => trivial)
    · cases hr
  · cases hr
/-! laws.markFloat32S -/
noncomputable def laws_markFloat32S_i1_l0_T (s : Unit) : Tree ((Unit) ⊕ (Unit)) :=
  (.br (decide ((0 : Int) < (0 : Int))) (
   .fail
  ) (
   .leaf (.inr ())
  ))

noncomputable def laws_markFloat32S_i1_l0_g (s0 : Unit) : Option (Unit) := whileM (fun s => (laws_markFloat32S_i1_l0_T s).run) s0
def laws_markFloat32S_i1_l0_E (v230 : Int) (s : Unit) : Sd := ([.nilslc, .int .i64 v230, .top, .top, .top, .int .i64 (0 : Int), .top, .top, .top, .top, .top, .top, .top, .top, .top, .top, .top, .top, .top, .top], [])
def laws_markFloat32S_i1_l0_X (v230 : Int) (x : Unit) : Out := (.normal, [.top, .int .i64 v230, .top, .top, .top, .top, .top, .top, .top, .top, .top, .top, .top, .top, .top, .top, .top, .top, .top, .top], [])
def laws_markFloat32S_i1_l0_kill : List Nat := [0, 0, 1, 1, 1, 0, 1, 1, 1, 1, 1, 1, 1, 1, 1, 1, 1, 1, 1, 1]
def laws_markFloat32S_i1_l0_nx : Exit → List Nat
  | .exit 0 => [1, 0, 1, 1, 1, 1, 1, 1, 1, 1, 1, 1, 1, 1, 1, 1, 1, 1, 1, 1]
  | .ret => [1, 1, 1, 1, 0, 1, 1, 1, 1, 1, 1, 1, 1, 1, 1, 1, 1, 1, 1, 1]
  | _ => []
noncomputable def laws_markFloat32S_i1_LO (v230 : Int) : LOr := fun id e L =>
  match id with
  | 0 => .need (normA 0 laws_markFloat32S_i1_l0_kill e L = some (laws_markFloat32S_i1_l0_E v230 ())) (.call (laws_markFloat32S_i1_l0_g ()) fun x => .leaf (laws_markFloat32S_i1_l0_X v230 x))
  | _ => .fail
noncomputable def laws_markFloat32S_i1_tab : List (FuncId × DFn × Bool) := []
theorem laws_markFloat32S_i1_hO : OrcOk Try.prog (tabD laws_markFloat32S_i1_tab) (tabM laws_markFloat32S_i1_tab) := tabD_nil _
theorem laws_markFloat32S_i1_l0_be (v230 : Int) (s : Unit) : bodyT TT (tabD laws_markFloat32S_i1_tab) (tabM laws_markFloat32S_i1_tab) (laws_markFloat32S_i1_LO v230) 0 laws_markFloat32S_i1_l0_kill laws_markFloat32S_i1_l0_nx (bodyOf Try.f14 0) 0 (laws_markFloat32S_i1_l0_E v230 s) = (laws_markFloat32S_i1_l0_T s).bind fun y => .leaf (outS (laws_markFloat32S_i1_l0_E v230) (laws_markFloat32S_i1_l0_X v230) y) := by kernel_rfl
theorem laws_markFloat32S_i1_l0_ok (v230 : Int) : LSound Try.prog 0 (laws_markFloat32S_i1_LO v230) 0 (bodyOf Try.f14 0) := by
  intro e L out h
  exact lo_ok (E := laws_markFloat32S_i1_l0_E v230) (gT := laws_markFloat32S_i1_l0_T) (X := laws_markFloat32S_i1_l0_X v230) (s0 := ()) tok laws_markFloat32S_i1_hO mixed (LoopsOk_eq (l := []) (by kernel_rfl) trivial) (laws_markFloat32S_i1_l0_be v230) rfl (by intro x; rfl) h
noncomputable def laws_markFloat32S_i1_T (v230 : Int) : Tree (Int) :=
  (.need (some (laws_markFloat32S_i1_l0_E v230 ()) = some (laws_markFloat32S_i1_l0_E v230 ())) <|
  (.call (laws_markFloat32S_i1_l0_g ()) fun v233 =>
  .leaf v230))

noncomputable def laws_markFloat32S_i1_g (v230 : Int) : Option (Int) := (laws_markFloat32S_i1_T v230).run
def laws_markFloat32S_i1_enc (v230 : Int) (y : Int) : Rs := (.int .i64 y, [])
theorem laws_markFloat32S_i1_den (v230 : Int) : (den TT (tabD laws_markFloat32S_i1_tab) (tabM laws_markFloat32S_i1_tab) (laws_markFloat32S_i1_LO v230) (codeOf Try.f14) ([.nilslc, .int .i64 v230] ++ List.replicate (Try.f14.ntmps - ([.nilslc, .int .i64 v230] : List DV).length) .undef) []).bind (retD TT Try.f14.results.toList 0) = (laws_markFloat32S_i1_T v230).bind fun y => .leaf (laws_markFloat32S_i1_enc v230 y) := by kernel_rfl
theorem laws_markFloat32S_i1_fn (v230 : Int) (F : Fr) (hm : F.ids.length = 0) (h0 : St F [] F.H0) (hA : DVs.Ok F [] [.nilslc, .int .i64 v230]) {y : Int} (hy : laws_markFloat32S_i1_g v230 = some y) : ∃ H', FnOk Try.prog 14 (DVs.av F [.nilslc, .int .i64 v230]) F.H0 ((laws_markFloat32S_i1_enc v230 y).1.av F) H' ∧ St F (laws_markFloat32S_i1_enc v230 y).2 H' ∧ (laws_markFloat32S_i1_enc v230 y).1.Ok F (laws_markFloat32S_i1_enc v230 y).2 :=
  fn_fin tok laws_markFloat32S_i1_hO mixed Try.func14 Try.call14 (by kernel_rfl) (LoopsOk_eq (l := [(0, bodyOf Try.f14 0)]) (by kernel_rfl) ⟨laws_markFloat32S_i1_l0_ok v230, trivial⟩) (laws_markFloat32S_i1_den v230) hy hm h0 hA
noncomputable def laws_markFloat32S_i1_F : DFn := fun args L =>
  match args with
  | [.nilslc, .int .i64 v230] =>
    .call (laws_markFloat32S_i1_g v230) fun y => .leaf (.int .i64 y, L)
  | _ => .fail
theorem laws_markFloat32S_i1_Fok : COk Try.prog 14 laws_markFloat32S_i1_F true := by
  intro F L H args r L' hs ha hr
  unfold laws_markFloat32S_i1_F at hr
  split at hr
  · rename_i v230
    simp only [Tree.run] at hr
    obtain ⟨y, hy, hr⟩ := Option.bind_eq_some_iff.1 hr
    simp only [Tree.run, Option.some.injEq, Prod.mk.injEq] at hr
    obtain ⟨rfl, rfl⟩ := hr
    exact call_ok0 hs (fun k => (([] : List AV)[k]?).getD .top) [.nilslc, .int .i64 v230] [.nilslc, .int .i64 v230] (fun F' h0 hi hρ => ⟨by simp [DVs.av, DV.av, BR.av, hρ], laws_markFloat32S_i1_fn v230 F' (by rw [hi]; rfl) (st_nil hi) ⟨trivial, trivial, trivial⟩ hy⟩) rfl
  · cases hr
/-! laws.heldFloat32S -/
noncomputable def laws_heldFloat32S_l0_T (v236 : List Nat) (s : Int × Int) : Tree ((Int × Int) ⊕ ((Unit) ⊕ (Int))) :=
  (.br (decide (s.2 < ((v236.length : Nat) : Int))) (
   (.grd (inb s.2 v236.length) <|
   (.br (!feq .f32 (nth v236 (Int.toNat s.2)) (fofint .f32 s.1)) (
    .leaf (.inr (.inl ()))
   ) (
    .leaf (.inl (IntKind.i64.wrap (s.1 + (1 : Int)), IntKind.i64.wrap (s.2 + (1 : Int))))
   )))
  ) (
   .leaf (.inr (.inr s.1))
  ))

noncomputable def laws_heldFloat32S_l0_g (v236 : List Nat) (s0 : Int × Int) : Option ((Unit) ⊕ (Int)) := whileM (fun s => (laws_heldFloat32S_l0_T v236 s).run) s0
def laws_heldFloat32S_l0_E (v236 : List Nat) (v237 : Int) (s : Int × Int) : Sd := ([.bslc (BR.root 0) (.f32 v236), .int .i64 s.1, .top, .top, .top, .int .i64 s.2, .top, .top, .top, .top, .top, .top, .top, .top, .top, .top, .top, .top, .top, .top, .top, .top], [])
def laws_heldFloat32S_l0_X (v236 : List Nat) (v237 : Int) (x : (Unit) ⊕ (Int)) : Out := (match x with | .inl x => (.ret, [.top, .top, .top, .top, .int .i64 (-1 : Int), .top, .top, .top, .top, .top, .top, .top, .top, .top, .top, .top, .top, .top, .top, .top, .top, .top], []) | .inr x => (.normal, [.top, .int .i64 x, .top, .top, .top, .top, .top, .top, .top, .top, .top, .top, .top, .top, .top, .top, .top, .top, .top, .top, .top, .top], []))
def laws_heldFloat32S_l0_kill : List Nat := [0, 0, 1, 1, 1, 0, 1, 1, 1, 1, 1, 1, 1, 1, 1, 1, 1, 1, 1, 1, 1, 1]
def laws_heldFloat32S_l0_nx : Exit → List Nat
  | .exit 0 => [1, 0, 1, 1, 1, 1, 1, 1, 1, 1, 1, 1, 1, 1, 1, 1, 1, 1, 1, 1, 1, 1]
  | .ret => [1, 1, 1, 1, 0, 1, 1, 1, 1, 1, 1, 1, 1, 1, 1, 1, 1, 1, 1, 1, 1, 1]
  | _ => []
noncomputable def laws_heldFloat32S_LO (v236 : List Nat) (v237 : Int) : LOr := fun id e L =>
  match id with
  | 0 => .need (normA 0 laws_heldFloat32S_l0_kill e L = some (laws_heldFloat32S_l0_E v236 v237 ((gI (vAt e 1)), (gI (vAt e 5))))) (.call (laws_heldFloat32S_l0_g v236 ((gI (vAt e 1)), (gI (vAt e 5)))) fun x => .sum x (fun b0 => .leaf (laws_heldFloat32S_l0_X v236 v237 (.inl b0))) (fun c0 => .leaf (laws_heldFloat32S_l0_X v236 v237 (.inr c0))))
  | _ => .fail
noncomputable def laws_heldFloat32S_tab : List (FuncId × DFn × Bool) := []
theorem laws_heldFloat32S_hO : OrcOk Try.prog (tabD laws_heldFloat32S_tab) (tabM laws_heldFloat32S_tab) := tabD_nil _
theorem laws_heldFloat32S_l0_be (v236 : List Nat) (v237 : Int) (s : Int × Int) : bodyT TT (tabD laws_heldFloat32S_tab) (tabM laws_heldFloat32S_tab) (laws_heldFloat32S_LO v236 v237) 0 laws_heldFloat32S_l0_kill laws_heldFloat32S_l0_nx (bodyOf Try.f15 0) 0 (laws_heldFloat32S_l0_E v236 v237 s) = (laws_heldFloat32S_l0_T v236 s).bind fun y => .leaf (outS (laws_heldFloat32S_l0_E v236 v237) (laws_heldFloat32S_l0_X v236 v237) y) := by kernel_rfl
theorem laws_heldFloat32S_l0_ok (v236 : List Nat) (v237 : Int) : LSound Try.prog 0 (laws_heldFloat32S_LO v236 v237) 0 (bodyOf Try.f15 0) := by
  intro e L out h
  exact lo_ok (E := laws_heldFloat32S_l0_E v236 v237) (gT := laws_heldFloat32S_l0_T v236) (X := laws_heldFloat32S_l0_X v236 v237) (s0 := ((gI (vAt e 1)), (gI (vAt e 5)))) tok laws_heldFloat32S_hO mixed (LoopsOk_eq (l := []) (by kernel_rfl) trivial) (laws_heldFloat32S_l0_be v236 v237) rfl (by intro x; (cases x with | inl b => rfl | inr x => exact rfl)) h
noncomputable def laws_heldFloat32S_T (v236 : List Nat) (v237 : Int) : Tree (Int) :=
  (.need (some (laws_heldFloat32S_l0_E v236 v237 (v237, (0 : Int))) = some (laws_heldFloat32S_l0_E v236 v237 (v237, (0 : Int)))) <|
  (.call (laws_heldFloat32S_l0_g v236 (v237, (0 : Int))) fun v244 =>
  (.sum v244 (fun v245 =>
   .leaf (-1 : Int)
  ) (fun v246 =>
   .leaf v246
  ))))

noncomputable def laws_heldFloat32S_g (v236 : List Nat) (v237 : Int) : Option (Int) := (laws_heldFloat32S_T v236 v237).run
def laws_heldFloat32S_enc (v236 : List Nat) (v237 : Int) (y : Int) : Rs := (.int .i64 y, [])
theorem laws_heldFloat32S_den (v236 : List Nat) (v237 : Int) : (den TT (tabD laws_heldFloat32S_tab) (tabM laws_heldFloat32S_tab) (laws_heldFloat32S_LO v236 v237) (codeOf Try.f15) ([.bslc (BR.root 0) (.f32 v236), .int .i64 v237] ++ List.replicate (Try.f15.ntmps - ([.bslc (BR.root 0) (.f32 v236), .int .i64 v237] : List DV).length) .undef) []).bind (retD TT Try.f15.results.toList 0) = (laws_heldFloat32S_T v236 v237).bind fun y => .leaf (laws_heldFloat32S_enc v236 v237 y) := by kernel_rfl
theorem laws_heldFloat32S_fn (v236 : List Nat) (v237 : Int) (F : Fr) (hm : F.ids.length = 0) (h0 : St F [] F.H0) (hA : DVs.Ok F [] [.bslc (BR.root 0) (.f32 v236), .int .i64 v237]) {y : Int} (hy : laws_heldFloat32S_g v236 v237 = some y) : ∃ H', FnOk Try.prog 15 (DVs.av F [.bslc (BR.root 0) (.f32 v236), .int .i64 v237]) F.H0 ((laws_heldFloat32S_enc v236 v237 y).1.av F) H' ∧ St F (laws_heldFloat32S_enc v236 v237 y).2 H' ∧ (laws_heldFloat32S_enc v236 v237 y).1.Ok F (laws_heldFloat32S_enc v236 v237 y).2 :=
  fn_fin tok laws_heldFloat32S_hO mixed Try.func15 Try.call15 (by kernel_rfl) (LoopsOk_eq (l := [(0, bodyOf Try.f15 0)]) (by kernel_rfl) ⟨laws_heldFloat32S_l0_ok v236 v237, trivial⟩) (laws_heldFloat32S_den v236 v237) hy hm h0 hA
noncomputable def laws_heldFloat32S_F : DFn := fun args L =>
  match args with
  | [a1, .int .i64 v237] =>
    optT (rowF32 L a1) fun v236 =>
    .call (laws_heldFloat32S_g v236 v237) fun y => .leaf (.int .i64 y, L)
  | _ => .fail
theorem laws_heldFloat32S_Fok : COk Try.prog 15 laws_heldFloat32S_F true := by
  intro F L H args r L' hs ha hr
  unfold laws_heldFloat32S_F at hr
  split at hr
  · rename_i a1 v237
    obtain ⟨v236, hv236, hr⟩ := optT_run hr
    simp only [Tree.run] at hr
    obtain ⟨y, hy, hr⟩ := Option.bind_eq_some_iff.1 hr
    simp only [Tree.run, Option.some.injEq, Prod.mk.injEq] at hr
    obtain ⟨rfl, rfl⟩ := hr
    exact call_ok0 hs (fun k => (([a1.av F] : List AV)[k]?).getD .top) [a1, .int .i64 v237] [.bslc (BR.root 0) (.f32 v236), .int .i64 v237] (fun F' h0 hi hρ => ⟨by simp [DVs.av, DV.av, BR.av, hρ], laws_heldFloat32S_fn v236 v237 F' (by rw [hi]; rfl) (st_nil hi) ⟨bslc_ok hi (by rw [h0, hρ]; exact rowF32_ok hs (DVs.okAt ha 0 rfl) hv236), trivial, trivial⟩ hy⟩) rfl
  · cases hr
/-! laws.FnExactReflectionsOf -/
noncomputable def laws_FnExactReflectionsOf_LO (v1 : List Nat) : LOr := fun id e L =>
  match id with
  | _ => .fail
noncomputable def laws_FnExactReflectionsOf_tab : List (FuncId × DFn × Bool) := [(10, laws_toFloat32S_F, true), (9, spec_ReflectionsOf_F, true), (11, impl_ReflectionsOf_F, true), (12, laws_eqFloat32S_F, true), (13, laws_sameFloat_F, true), (14, (orD (fun args => match args with | [.nilslc, _] => true | _ => false) laws_markFloat32S_i1_F laws_markFloat32S_F), false), (15, laws_heldFloat32S_F, true)]
theorem laws_FnExactReflectionsOf_hO : OrcOk Try.prog (tabD laws_FnExactReflectionsOf_tab) (tabM laws_FnExactReflectionsOf_tab) := tabD_cons laws_toFloat32S_Fok (tabD_cons spec_ReflectionsOf_Fok (tabD_cons impl_ReflectionsOf_Fok (tabD_cons laws_eqFloat32S_Fok (tabD_cons laws_sameFloat_Fok (tabD_cons (orD_ok (COk.weak laws_markFloat32S_i1_Fok) laws_markFloat32S_Fok) (tabD_cons laws_heldFloat32S_Fok (tabD_nil _)))))))
noncomputable def laws_FnExactReflectionsOf_T (v1 : List Nat) : Tree (Bool) :=
  (.br (decide ((1048576 : Int) < ((v1.length : Nat) : Int))) (
   .leaf true
  ) (
   (.call (laws_toFloat32S_g v1) fun v9 =>
   (.call (spec_ReflectionsOf_g v9) fun v60 =>
   (.sum v60 (fun v61 =>
    (.call (laws_toFloat32S_g v1) fun v63 =>
    (.call (impl_ReflectionsOf_g v63) fun v195 =>
    (.sum v195 (fun v196 =>
     (.call (laws_eqFloat32S_g ([] : List Nat) ([] : List Nat)) fun v208 =>
     (.br (!v208) (
      .leaf false
     ) (
      (.call (laws_eqFloat32S_g ([] : List Nat) ([] : List Nat)) fun v209 =>
      (.br (!v209) (
       .leaf false
      ) (
       (.br (!(laws_sameFloat_v (wid (0 : Nat)) (wid (0 : Nat)))) (
        .leaf false
       ) (
        (.br (!(false == false)) (
         .leaf false
        ) (
         (.call (laws_toFloat32S_g v1) fun v210 =>
         (.call (laws_eqFloat32S_g v63 v210) fun v211 =>
         (.br (!v211) (
          .leaf false
         ) (
          (.call (laws_markFloat32S_g v63 (1 : Int)) fun v227 =>
          (.grd (decide (v227.2.length = v63.length)) <|
          (.br (decide (v227.1 < (0 : Int))) (
           .leaf false
          ) (
           (.call (laws_eqFloat32S_g ([] : List Nat) ([] : List Nat)) fun v228 =>
           (.br (!v228) (
            .leaf false
           ) (
            (.call (laws_eqFloat32S_g ([] : List Nat) ([] : List Nat)) fun v229 =>
            (.br (!v229) (
             .leaf false
            ) (
             (.br (!(laws_sameFloat_v (wid (0 : Nat)) (wid (0 : Nat)))) (
              .leaf false
             ) (
              (.br (!(false == false)) (
               .leaf false
              ) (
               (.call (laws_markFloat32S_i1_g (1 : Int)) fun v234 =>
               (.call (laws_markFloat32S_i1_g v234) fun v235 =>
               (.call (laws_heldFloat32S_g ([] : List Nat) (1 : Int)) fun v247 =>
               (.br (decide (v247 < (0 : Int))) (
                .leaf false
               ) (
                (.call (laws_heldFloat32S_g ([] : List Nat) v247) fun v248 =>
                (.br (decide (v248 < (0 : Int))) (
                 .leaf false
                ) (
                 (.br (!decide (v248 = v235)) (
                  .leaf false
                 ) (
                  (.call (laws_toFloat32S_g v1) fun v249 =>
                  (.call (impl_ReflectionsOf_g v249) fun v250 =>
                  (.sum v250 (fun v251 =>
                   (.call (laws_eqFloat32S_g ([] : List Nat) ([] : List Nat)) fun v253 =>
                   (.br (!v253) (
                    .leaf false
                   ) (
                    (.call (laws_eqFloat32S_g ([] : List Nat) ([] : List Nat)) fun v254 =>
                    (.br (!v254) (
                     .leaf false
                    ) (
                     (.br (!(laws_sameFloat_v (wid (0 : Nat)) (wid (0 : Nat)))) (
                      .leaf false
                     ) (
                      (.br (!(false == false)) (
                       .leaf false
                      ) (
                       (.call (laws_heldFloat32S_g ([] : List Nat) (1 : Int)) fun v255 =>
                       (.br (decide (v255 < (0 : Int))) (
                        .leaf false
                       ) (
                        (.call (laws_heldFloat32S_g ([] : List Nat) v255) fun v256 =>
                        (.br (decide (v256 < (0 : Int))) (
                         .leaf false
                        ) (
                         (.br (!decide (v256 = v235)) (
                          .leaf false
                         ) (
                          .leaf true
                         ))
                        )))
                       )))
                      ))
                     ))
                    )))
                   )))
                  ) (fun v252 =>
                   (.sum v252 (fun v257 =>
                    (.call (laws_eqFloat32S_g ([] : List Nat) ([] : List Nat)) fun v259 =>
                    (.br (!v259) (
                     .leaf false
                    ) (
                     (.call (laws_eqFloat32S_g ([] : List Nat) ([] : List Nat)) fun v260 =>
                     (.br (!v260) (
                      .leaf false
                     ) (
                      (.br (!(laws_sameFloat_v (wid v257) (wid (0 : Nat)))) (
                       .leaf false
                      ) (
                       (.br (!(true == false)) (
                        .leaf false
                       ) (
                        (.call (laws_heldFloat32S_g ([] : List Nat) (1 : Int)) fun v261 =>
                        (.br (decide (v261 < (0 : Int))) (
                         .leaf false
                        ) (
                         (.call (laws_heldFloat32S_g ([] : List Nat) v261) fun v262 =>
                         (.br (decide (v262 < (0 : Int))) (
                          .leaf false
                         ) (
                          (.br (!decide (v262 = v235)) (
                           .leaf false
                          ) (
                           .leaf true
                          ))
                         )))
                        )))
                       ))
                      ))
                     )))
                    )))
                   ) (fun v258 =>
                    (.call (laws_eqFloat32S_g v258.2.1 ([] : List Nat)) fun v263 =>
                    (.br (!v263) (
                     .leaf false
                    ) (
                     (.call (laws_eqFloat32S_g v258.2.2 ([] : List Nat)) fun v264 =>
                     (.br (!v264) (
                      .leaf false
                     ) (
                      (.br (!(laws_sameFloat_v (wid v258.1) (wid (0 : Nat)))) (
                       .leaf false
                      ) (
                       (.br (!(true == false)) (
                        .leaf false
                       ) (
                        (.call (laws_heldFloat32S_g ([] : List Nat) (1 : Int)) fun v265 =>
                        (.br (decide (v265 < (0 : Int))) (
                         .leaf false
                        ) (
                         (.call (laws_heldFloat32S_g ([] : List Nat) v265) fun v266 =>
                         (.br (decide (v266 < (0 : Int))) (
                          .leaf false
                         ) (
                          (.br (!decide (v266 = v235)) (
                           .leaf false
                          ) (
                           .leaf true
                          ))
                         )))
                        )))
                       ))
                      ))
                     )))
                    )))
                   ))
                  ))))
                 ))
                )))
               )))))
              ))
             ))
            )))
           )))
          ))))
         ))))
        ))
       ))
      )))
     )))
    ) (fun v197 =>
     (.sum v197 (fun v267 =>
      (.call (laws_eqFloat32S_g ([] : List Nat) ([] : List Nat)) fun v269 =>
      (.br (!v269) (
       .leaf false
      ) (
       (.call (laws_eqFloat32S_g ([] : List Nat) ([] : List Nat)) fun v270 =>
       (.br (!v270) (
        .leaf false
       ) (
        (.br (!(laws_sameFloat_v (wid v267) (wid (0 : Nat)))) (
         .leaf false
        ) (
         (.br (!(true == false)) (
          .leaf false
         ) (
          (.call (laws_toFloat32S_g v1) fun v271 =>
          (.call (laws_eqFloat32S_g v63 v271) fun v272 =>
          (.br (!v272) (
           .leaf false
          ) (
           (.call (laws_markFloat32S_g v63 (1 : Int)) fun v273 =>
           (.grd (decide (v273.2.length = v63.length)) <|
           (.br (decide (v273.1 < (0 : Int))) (
            .leaf false
           ) (
            (.call (laws_eqFloat32S_g ([] : List Nat) ([] : List Nat)) fun v274 =>
            (.br (!v274) (
             .leaf false
            ) (
             (.call (laws_eqFloat32S_g ([] : List Nat) ([] : List Nat)) fun v275 =>
             (.br (!v275) (
              .leaf false
             ) (
              (.br (!(laws_sameFloat_v (wid v267) (wid (0 : Nat)))) (
               .leaf false
              ) (
               (.br (!(true == false)) (
                .leaf false
               ) (
                (.call (laws_markFloat32S_i1_g (1 : Int)) fun v276 =>
                (.call (laws_markFloat32S_i1_g v276) fun v277 =>
                (.call (laws_heldFloat32S_g ([] : List Nat) (1 : Int)) fun v278 =>
                (.br (decide (v278 < (0 : Int))) (
                 .leaf false
                ) (
                 (.call (laws_heldFloat32S_g ([] : List Nat) v278) fun v279 =>
                 (.br (decide (v279 < (0 : Int))) (
                  .leaf false
                 ) (
                  (.br (!decide (v279 = v277)) (
                   .leaf false
                  ) (
                   (.call (laws_toFloat32S_g v1) fun v280 =>
                   (.call (impl_ReflectionsOf_g v280) fun v281 =>
                   (.sum v281 (fun v282 =>
                    (.call (laws_eqFloat32S_g ([] : List Nat) ([] : List Nat)) fun v284 =>
                    (.br (!v284) (
                     .leaf false
                    ) (
                     (.call (laws_eqFloat32S_g ([] : List Nat) ([] : List Nat)) fun v285 =>
                     (.br (!v285) (
                      .leaf false
                     ) (
                      (.br (!(laws_sameFloat_v (wid (0 : Nat)) (wid (0 : Nat)))) (
                       .leaf false
                      ) (
                       (.br (!(false == false)) (
                        .leaf false
                       ) (
                        (.call (laws_heldFloat32S_g ([] : List Nat) (1 : Int)) fun v286 =>
                        (.br (decide (v286 < (0 : Int))) (
                         .leaf false
                        ) (
                         (.call (laws_heldFloat32S_g ([] : List Nat) v286) fun v287 =>
                         (.br (decide (v287 < (0 : Int))) (
                          .leaf false
                         ) (
                          (.br (!decide (v287 = v277)) (
                           .leaf false
                          ) (
                           .leaf true
                          ))
                         )))
                        )))
                       ))
                      ))
                     )))
                    )))
                   ) (fun v283 =>
                    (.sum v283 (fun v288 =>
                     (.call (laws_eqFloat32S_g ([] : List Nat) ([] : List Nat)) fun v290 =>
                     (.br (!v290) (
                      .leaf false
                     ) (
                      (.call (laws_eqFloat32S_g ([] : List Nat) ([] : List Nat)) fun v291 =>
                      (.br (!v291) (
                       .leaf false
                      ) (
                       (.br (!(laws_sameFloat_v (wid v288) (wid (0 : Nat)))) (
                        .leaf false
                       ) (
                        (.br (!(true == false)) (
                         .leaf false
                        ) (
                         (.call (laws_heldFloat32S_g ([] : List Nat) (1 : Int)) fun v292 =>
                         (.br (decide (v292 < (0 : Int))) (
                          .leaf false
                         ) (
                          (.call (laws_heldFloat32S_g ([] : List Nat) v292) fun v293 =>
                          (.br (decide (v293 < (0 : Int))) (
                           .leaf false
                          ) (
                           (.br (!decide (v293 = v277)) (
                            .leaf false
                           ) (
                            .leaf true
                           ))
                          )))
                         )))
                        ))
                       ))
                      )))
                     )))
                    ) (fun v289 =>
                     (.call (laws_eqFloat32S_g v289.2.1 ([] : List Nat)) fun v294 =>
                     (.br (!v294) (
                      .leaf false
                     ) (
                      (.call (laws_eqFloat32S_g v289.2.2 ([] : List Nat)) fun v295 =>
                      (.br (!v295) (
                       .leaf false
                      ) (
                       (.br (!(laws_sameFloat_v (wid v289.1) (wid (0 : Nat)))) (
                        .leaf false
                       ) (
                        (.br (!(true == false)) (
                         .leaf false
                        ) (
                         (.call (laws_heldFloat32S_g ([] : List Nat) (1 : Int)) fun v296 =>
                         (.br (decide (v296 < (0 : Int))) (
                          .leaf false
                         ) (
                          (.call (laws_heldFloat32S_g ([] : List Nat) v296) fun v297 =>
                          (.br (decide (v297 < (0 : Int))) (
                           .leaf false
                          ) (
                           (.br (!decide (v297 = v277)) (
                            .leaf false
                           ) (
                            .leaf true
                           ))
                          )))
                         )))
                        ))
                       ))
                      )))
                     )))
                    ))
                   ))))
                  ))
                 )))
                )))))
               ))
              ))
             )))
            )))
           ))))
          ))))
         ))
        ))
       )))
      )))
     ) (fun v268 =>
      (.call (laws_eqFloat32S_g v268.2.1 ([] : List Nat)) fun v298 =>
      (.br (!v298) (
       .leaf false
      ) (
       (.call (laws_eqFloat32S_g v268.2.2 ([] : List Nat)) fun v299 =>
       (.br (!v299) (
        .leaf false
       ) (
        (.br (!(laws_sameFloat_v (wid v268.1) (wid (0 : Nat)))) (
         .leaf false
        ) (
         (.br (!(true == false)) (
          .leaf false
         ) (
          (.call (laws_toFloat32S_g v1) fun v300 =>
          (.call (laws_eqFloat32S_g v63 v300) fun v301 =>
          (.br (!v301) (
           .leaf false
          ) (
           (.call (laws_markFloat32S_g v63 (1 : Int)) fun v302 =>
           (.grd (decide (v302.2.length = v63.length)) <|
           (.br (decide (v302.1 < (0 : Int))) (
            .leaf false
           ) (
            (.call (laws_eqFloat32S_g v268.2.1 ([] : List Nat)) fun v303 =>
            (.br (!v303) (
             .leaf false
            ) (
             (.call (laws_eqFloat32S_g v268.2.2 ([] : List Nat)) fun v304 =>
             (.br (!v304) (
              .leaf false
             ) (
              (.br (!(laws_sameFloat_v (wid v268.1) (wid (0 : Nat)))) (
               .leaf false
              ) (
               (.br (!(true == false)) (
                .leaf false
               ) (
                (.call (laws_markFloat32S_g v268.2.1 (1 : Int)) fun v305 =>
                (.grd (decide (v305.2.length = v268.2.1.length)) <|
                (.call (laws_markFloat32S_g v268.2.2 v305.1) fun v306 =>
                (.grd (decide (v306.2.length = v268.2.2.length)) <|
                (.call (laws_heldFloat32S_g v305.2 (1 : Int)) fun v307 =>
                (.br (decide (v307 < (0 : Int))) (
                 .leaf false
                ) (
                 (.call (laws_heldFloat32S_g v306.2 v307) fun v308 =>
                 (.br (decide (v308 < (0 : Int))) (
                  .leaf false
                 ) (
                  (.br (!decide (v308 = v306.1)) (
                   .leaf false
                  ) (
                   (.call (laws_toFloat32S_g v1) fun v309 =>
                   (.call (impl_ReflectionsOf_g v309) fun v310 =>
                   (.sum v310 (fun v311 =>
                    (.call (laws_eqFloat32S_g ([] : List Nat) ([] : List Nat)) fun v313 =>
                    (.br (!v313) (
                     .leaf false
                    ) (
                     (.call (laws_eqFloat32S_g ([] : List Nat) ([] : List Nat)) fun v314 =>
                     (.br (!v314) (
                      .leaf false
                     ) (
                      (.br (!(laws_sameFloat_v (wid (0 : Nat)) (wid (0 : Nat)))) (
                       .leaf false
                      ) (
                       (.br (!(false == false)) (
                        .leaf false
                       ) (
                        (.call (laws_heldFloat32S_g v305.2 (1 : Int)) fun v315 =>
                        (.br (decide (v315 < (0 : Int))) (
                         .leaf false
                        ) (
                         (.call (laws_heldFloat32S_g v306.2 v315) fun v316 =>
                         (.br (decide (v316 < (0 : Int))) (
                          .leaf false
                         ) (
                          (.br (!decide (v316 = v306.1)) (
                           .leaf false
                          ) (
                           .leaf true
                          ))
                         )))
                        )))
                       ))
                      ))
                     )))
                    )))
                   ) (fun v312 =>
                    (.sum v312 (fun v317 =>
                     (.call (laws_eqFloat32S_g ([] : List Nat) ([] : List Nat)) fun v319 =>
                     (.br (!v319) (
                      .leaf false
                     ) (
                      (.call (laws_eqFloat32S_g ([] : List Nat) ([] : List Nat)) fun v320 =>
                      (.br (!v320) (
                       .leaf false
                      ) (
                       (.br (!(laws_sameFloat_v (wid v317) (wid (0 : Nat)))) (
                        .leaf false
                       ) (
                        (.br (!(true == false)) (
                         .leaf false
                        ) (
                         (.call (laws_heldFloat32S_g v305.2 (1 : Int)) fun v321 =>
                         (.br (decide (v321 < (0 : Int))) (
                          .leaf false
                         ) (
                          (.call (laws_heldFloat32S_g v306.2 v321) fun v322 =>
                          (.br (decide (v322 < (0 : Int))) (
                           .leaf false
                          ) (
                           (.br (!decide (v322 = v306.1)) (
                            .leaf false
                           ) (
                            .leaf true
                           ))
                          )))
                         )))
                        ))
                       ))
                      )))
                     )))
                    ) (fun v318 =>
                     (.call (laws_eqFloat32S_g v318.2.1 ([] : List Nat)) fun v323 =>
                     (.br (!v323) (
                      .leaf false
                     ) (
                      (.call (laws_eqFloat32S_g v318.2.2 ([] : List Nat)) fun v324 =>
                      (.br (!v324) (
                       .leaf false
                      ) (
                       (.br (!(laws_sameFloat_v (wid v318.1) (wid (0 : Nat)))) (
                        .leaf false
                       ) (
                        (.br (!(true == false)) (
                         .leaf false
                        ) (
                         (.call (laws_heldFloat32S_g v305.2 (1 : Int)) fun v325 =>
                         (.br (decide (v325 < (0 : Int))) (
                          .leaf false
                         ) (
                          (.call (laws_heldFloat32S_g v306.2 v325) fun v326 =>
                          (.br (decide (v326 < (0 : Int))) (
                           .leaf false
                          ) (
                           (.br (!decide (v326 = v306.1)) (
                            .leaf false
                           ) (
                            .leaf true
                           ))
                          )))
                         )))
                        ))
                       ))
                      )))
                     )))
                    ))
                   ))))
                  ))
                 )))
                )))))))
               ))
              ))
             )))
            )))
           ))))
          ))))
         ))
        ))
       )))
      )))
     ))
    ))))
   ) (fun v62 =>
    (.call (laws_toFloat32S_g v1) fun v327 =>
    (.call (impl_ReflectionsOf_g v327) fun v328 =>
    (.sum v328 (fun v329 =>
     (.call (laws_eqFloat32S_g ([] : List Nat) v62.2.1) fun v331 =>
     (.br (!v331) (
      .leaf false
     ) (
      (.call (laws_eqFloat32S_g ([] : List Nat) v62.2.2) fun v332 =>
      (.br (!v332) (
       .leaf false
      ) (
       (.br (!(laws_sameFloat_v (wid (0 : Nat)) (wid v62.1))) (
        .leaf false
       ) (
        (.br (!(false == true)) (
         .leaf false
        ) (
         (.call (laws_toFloat32S_g v1) fun v333 =>
         (.call (laws_eqFloat32S_g v327 v333) fun v334 =>
         (.br (!v334) (
          .leaf false
         ) (
          (.call (laws_markFloat32S_g v327 (1 : Int)) fun v335 =>
          (.grd (decide (v335.2.length = v327.length)) <|
          (.br (decide (v335.1 < (0 : Int))) (
           .leaf false
          ) (
           (.call (laws_eqFloat32S_g ([] : List Nat) v62.2.1) fun v336 =>
           (.br (!v336) (
            .leaf false
           ) (
            (.call (laws_eqFloat32S_g ([] : List Nat) v62.2.2) fun v337 =>
            (.br (!v337) (
             .leaf false
            ) (
             (.br (!(laws_sameFloat_v (wid (0 : Nat)) (wid v62.1))) (
              .leaf false
             ) (
              (.br (!(false == true)) (
               .leaf false
              ) (
               (.call (laws_markFloat32S_i1_g (1 : Int)) fun v338 =>
               (.call (laws_markFloat32S_i1_g v338) fun v339 =>
               (.call (laws_heldFloat32S_g ([] : List Nat) (1 : Int)) fun v340 =>
               (.br (decide (v340 < (0 : Int))) (
                .leaf false
               ) (
                (.call (laws_heldFloat32S_g ([] : List Nat) v340) fun v341 =>
                (.br (decide (v341 < (0 : Int))) (
                 .leaf false
                ) (
                 (.br (!decide (v341 = v339)) (
                  .leaf false
                 ) (
                  (.call (laws_toFloat32S_g v1) fun v342 =>
                  (.call (impl_ReflectionsOf_g v342) fun v343 =>
                  (.sum v343 (fun v344 =>
                   (.call (laws_eqFloat32S_g ([] : List Nat) v62.2.1) fun v346 =>
                   (.br (!v346) (
                    .leaf false
                   ) (
                    (.call (laws_eqFloat32S_g ([] : List Nat) v62.2.2) fun v347 =>
                    (.br (!v347) (
                     .leaf false
                    ) (
                     (.br (!(laws_sameFloat_v (wid (0 : Nat)) (wid v62.1))) (
                      .leaf false
                     ) (
                      (.br (!(false == true)) (
                       .leaf false
                      ) (
                       (.call (laws_heldFloat32S_g ([] : List Nat) (1 : Int)) fun v348 =>
                       (.br (decide (v348 < (0 : Int))) (
                        .leaf false
                       ) (
                        (.call (laws_heldFloat32S_g ([] : List Nat) v348) fun v349 =>
                        (.br (decide (v349 < (0 : Int))) (
                         .leaf false
                        ) (
                         (.br (!decide (v349 = v339)) (
                          .leaf false
                         ) (
                          .leaf true
                         ))
                        )))
                       )))
                      ))
                     ))
                    )))
                   )))
                  ) (fun v345 =>
                   (.sum v345 (fun v350 =>
                    (.call (laws_eqFloat32S_g ([] : List Nat) v62.2.1) fun v352 =>
                    (.br (!v352) (
                     .leaf false
                    ) (
                     (.call (laws_eqFloat32S_g ([] : List Nat) v62.2.2) fun v353 =>
                     (.br (!v353) (
                      .leaf false
                     ) (
                      (.br (!(laws_sameFloat_v (wid v350) (wid v62.1))) (
                       .leaf false
                      ) (
                       (.br (!(true == true)) (
                        .leaf false
                       ) (
                        (.call (laws_heldFloat32S_g ([] : List Nat) (1 : Int)) fun v354 =>
                        (.br (decide (v354 < (0 : Int))) (
                         .leaf false
                        ) (
                         (.call (laws_heldFloat32S_g ([] : List Nat) v354) fun v355 =>
                         (.br (decide (v355 < (0 : Int))) (
                          .leaf false
                         ) (
                          (.br (!decide (v355 = v339)) (
                           .leaf false
                          ) (
                           .leaf true
                          ))
                         )))
                        )))
                       ))
                      ))
                     )))
                    )))
                   ) (fun v351 =>
                    (.call (laws_eqFloat32S_g v351.2.1 v62.2.1) fun v356 =>
                    (.br (!v356) (
                     .leaf false
                    ) (
                     (.call (laws_eqFloat32S_g v351.2.2 v62.2.2) fun v357 =>
                     (.br (!v357) (
                      .leaf false
                     ) (
                      (.br (!(laws_sameFloat_v (wid v351.1) (wid v62.1))) (
                       .leaf false
                      ) (
                       (.br (!(true == true)) (
                        .leaf false
                       ) (
                        (.call (laws_heldFloat32S_g ([] : List Nat) (1 : Int)) fun v358 =>
                        (.br (decide (v358 < (0 : Int))) (
                         .leaf false
                        ) (
                         (.call (laws_heldFloat32S_g ([] : List Nat) v358) fun v359 =>
                         (.br (decide (v359 < (0 : Int))) (
                          .leaf false
                         ) (
                          (.br (!decide (v359 = v339)) (
                           .leaf false
                          ) (
                           .leaf true
                          ))
                         )))
                        )))
                       ))
                      ))
                     )))
                    )))
                   ))
                  ))))
                 ))
                )))
               )))))
              ))
             ))
            )))
           )))
          ))))
         ))))
        ))
       ))
      )))
     )))
    ) (fun v330 =>
     (.sum v330 (fun v360 =>
      (.call (laws_eqFloat32S_g ([] : List Nat) v62.2.1) fun v362 =>
      (.br (!v362) (
       .leaf false
      ) (
       (.call (laws_eqFloat32S_g ([] : List Nat) v62.2.2) fun v363 =>
       (.br (!v363) (
        .leaf false
       ) (
        (.br (!(laws_sameFloat_v (wid v360) (wid v62.1))) (
         .leaf false
        ) (
         (.br (!(true == true)) (
          .leaf false
         ) (
          (.call (laws_toFloat32S_g v1) fun v364 =>
          (.call (laws_eqFloat32S_g v327 v364) fun v365 =>
          (.br (!v365) (
           .leaf false
          ) (
           (.call (laws_markFloat32S_g v327 (1 : Int)) fun v366 =>
           (.grd (decide (v366.2.length = v327.length)) <|
           (.br (decide (v366.1 < (0 : Int))) (
            .leaf false
           ) (
            (.call (laws_eqFloat32S_g ([] : List Nat) v62.2.1) fun v367 =>
            (.br (!v367) (
             .leaf false
            ) (
             (.call (laws_eqFloat32S_g ([] : List Nat) v62.2.2) fun v368 =>
             (.br (!v368) (
              .leaf false
             ) (
              (.br (!(laws_sameFloat_v (wid v360) (wid v62.1))) (
               .leaf false
              ) (
               (.br (!(true == true)) (
                .leaf false
               ) (
                (.call (laws_markFloat32S_i1_g (1 : Int)) fun v369 =>
                (.call (laws_markFloat32S_i1_g v369) fun v370 =>
                (.call (laws_heldFloat32S_g ([] : List Nat) (1 : Int)) fun v371 =>
                (.br (decide (v371 < (0 : Int))) (
                 .leaf false
                ) (
                 (.call (laws_heldFloat32S_g ([] : List Nat) v371) fun v372 =>
                 (.br (decide (v372 < (0 : Int))) (
                  .leaf false
                 ) (
                  (.br (!decide (v372 = v370)) (
                   .leaf false
                  ) (
                   (.call (laws_toFloat32S_g v1) fun v373 =>
                   (.call (impl_ReflectionsOf_g v373) fun v374 =>
                   (.sum v374 (fun v375 =>
                    (.call (laws_eqFloat32S_g ([] : List Nat) v62.2.1) fun v377 =>
                    (.br (!v377) (
                     .leaf false
                    ) (
                     (.call (laws_eqFloat32S_g ([] : List Nat) v62.2.2) fun v378 =>
                     (.br (!v378) (
                      .leaf false
                     ) (
                      (.br (!(laws_sameFloat_v (wid (0 : Nat)) (wid v62.1))) (
                       .leaf false
                      ) (
                       (.br (!(false == true)) (
                        .leaf false
                       ) (
                        (.call (laws_heldFloat32S_g ([] : List Nat) (1 : Int)) fun v379 =>
                        (.br (decide (v379 < (0 : Int))) (
                         .leaf false
                        ) (
                         (.call (laws_heldFloat32S_g ([] : List Nat) v379) fun v380 =>
                         (.br (decide (v380 < (0 : Int))) (
                          .leaf false
                         ) (
                          (.br (!decide (v380 = v370)) (
                           .leaf false
                          ) (
                           .leaf true
                          ))
                         )))
                        )))
                       ))
                      ))
                     )))
                    )))
                   ) (fun v376 =>
                    (.sum v376 (fun v381 =>
                     (.call (laws_eqFloat32S_g ([] : List Nat) v62.2.1) fun v383 =>
                     (.br (!v383) (
                      .leaf false
                     ) (
                      (.call (laws_eqFloat32S_g ([] : List Nat) v62.2.2) fun v384 =>
                      (.br (!v384) (
                       .leaf false
                      ) (
                       (.br (!(laws_sameFloat_v (wid v381) (wid v62.1))) (
                        .leaf false
                       ) (
                        (.br (!(true == true)) (
                         .leaf false
                        ) (
                         (.call (laws_heldFloat32S_g ([] : List Nat) (1 : Int)) fun v385 =>
                         (.br (decide (v385 < (0 : Int))) (
                          .leaf false
                         ) (
                          (.call (laws_heldFloat32S_g ([] : List Nat) v385) fun v386 =>
                          (.br (decide (v386 < (0 : Int))) (
                           .leaf false
                          ) (
                           (.br (!decide (v386 = v370)) (
                            .leaf false
                           ) (
                            .leaf true
                           ))
                          )))
                         )))
                        ))
                       ))
                      )))
                     )))
                    ) (fun v382 =>
                     (.call (laws_eqFloat32S_g v382.2.1 v62.2.1) fun v387 =>
                     (.br (!v387) (
                      .leaf false
                     ) (
                      (.call (laws_eqFloat32S_g v382.2.2 v62.2.2) fun v388 =>
                      (.br (!v388) (
                       .leaf false
                      ) (
                       (.br (!(laws_sameFloat_v (wid v382.1) (wid v62.1))) (
                        .leaf false
                       ) (
                        (.br (!(true == true)) (
                         .leaf false
                        ) (
                         (.call (laws_heldFloat32S_g ([] : List Nat) (1 : Int)) fun v389 =>
                         (.br (decide (v389 < (0 : Int))) (
                          .leaf false
                         ) (
                          (.call (laws_heldFloat32S_g ([] : List Nat) v389) fun v390 =>
                          (.br (decide (v390 < (0 : Int))) (
                           .leaf false
                          ) (
                           (.br (!decide (v390 = v370)) (
                            .leaf false
                           ) (
                            .leaf true
                           ))
                          )))
                         )))
                        ))
                       ))
                      )))
                     )))
                    ))
                   ))))
                  ))
                 )))
                )))))
               ))
              ))
             )))
            )))
           ))))
          ))))
         ))
        ))
       )))
      )))
     ) (fun v361 =>
      (.call (laws_eqFloat32S_g v361.2.1 v62.2.1) fun v391 =>
      (.br (!v391) (
       .leaf false
      ) (
       (.call (laws_eqFloat32S_g v361.2.2 v62.2.2) fun v392 =>
       (.br (!v392) (
        .leaf false
       ) (
        (.br (!(laws_sameFloat_v (wid v361.1) (wid v62.1))) (
         .leaf false
        ) (
         (.br (!(true == true)) (
          .leaf false
         ) (
          (.call (laws_toFloat32S_g v1) fun v393 =>
          (.call (laws_eqFloat32S_g v327 v393) fun v394 =>
          (.br (!v394) (
           .leaf false
          ) (
           (.call (laws_markFloat32S_g v327 (1 : Int)) fun v395 =>
           (.grd (decide (v395.2.length = v327.length)) <|
           (.br (decide (v395.1 < (0 : Int))) (
            .leaf false
           ) (
            (.call (laws_eqFloat32S_g v361.2.1 v62.2.1) fun v396 =>
            (.br (!v396) (
             .leaf false
            ) (
             (.call (laws_eqFloat32S_g v361.2.2 v62.2.2) fun v397 =>
             (.br (!v397) (
              .leaf false
             ) (
              (.br (!(laws_sameFloat_v (wid v361.1) (wid v62.1))) (
               .leaf false
              ) (
               (.br (!(true == true)) (
                .leaf false
               ) (
                (.call (laws_markFloat32S_g v361.2.1 (1 : Int)) fun v398 =>
                (.grd (decide (v398.2.length = v361.2.1.length)) <|
                (.call (laws_markFloat32S_g v361.2.2 v398.1) fun v399 =>
                (.grd (decide (v399.2.length = v361.2.2.length)) <|
                (.call (laws_heldFloat32S_g v398.2 (1 : Int)) fun v400 =>
                (.br (decide (v400 < (0 : Int))) (
                 .leaf false
                ) (
                 (.call (laws_heldFloat32S_g v399.2 v400) fun v401 =>
                 (.br (decide (v401 < (0 : Int))) (
                  .leaf false
                 ) (
                  (.br (!decide (v401 = v399.1)) (
                   .leaf false
                  ) (
                   (.call (laws_toFloat32S_g v1) fun v402 =>
                   (.call (impl_ReflectionsOf_g v402) fun v403 =>
                   (.sum v403 (fun v404 =>
                    (.call (laws_eqFloat32S_g ([] : List Nat) v62.2.1) fun v406 =>
                    (.br (!v406) (
                     .leaf false
                    ) (
                     (.call (laws_eqFloat32S_g ([] : List Nat) v62.2.2) fun v407 =>
                     (.br (!v407) (
                      .leaf false
                     ) (
                      (.br (!(laws_sameFloat_v (wid (0 : Nat)) (wid v62.1))) (
                       .leaf false
                      ) (
                       (.br (!(false == true)) (
                        .leaf false
                       ) (
                        (.call (laws_heldFloat32S_g v398.2 (1 : Int)) fun v408 =>
                        (.br (decide (v408 < (0 : Int))) (
                         .leaf false
                        ) (
                         (.call (laws_heldFloat32S_g v399.2 v408) fun v409 =>
                         (.br (decide (v409 < (0 : Int))) (
                          .leaf false
                         ) (
                          (.br (!decide (v409 = v399.1)) (
                           .leaf false
                          ) (
                           .leaf true
                          ))
                         )))
                        )))
                       ))
                      ))
                     )))
                    )))
                   ) (fun v405 =>
                    (.sum v405 (fun v410 =>
                     (.call (laws_eqFloat32S_g ([] : List Nat) v62.2.1) fun v412 =>
                     (.br (!v412) (
                      .leaf false
                     ) (
                      (.call (laws_eqFloat32S_g ([] : List Nat) v62.2.2) fun v413 =>
                      (.br (!v413) (
                       .leaf false
                      ) (
                       (.br (!(laws_sameFloat_v (wid v410) (wid v62.1))) (
                        .leaf false
                       ) (
                        (.br (!(true == true)) (
                         .leaf false
                        ) (
                         (.call (laws_heldFloat32S_g v398.2 (1 : Int)) fun v414 =>
                         (.br (decide (v414 < (0 : Int))) (
                          .leaf false
                         ) (
                          (.call (laws_heldFloat32S_g v399.2 v414) fun v415 =>
                          (.br (decide (v415 < (0 : Int))) (
                           .leaf false
                          ) (
                           (.br (!decide (v415 = v399.1)) (
                            .leaf false
                           ) (
                            .leaf true
                           ))
                          )))
                         )))
                        ))
                       ))
                      )))
                     )))
                    ) (fun v411 =>
                     (.call (laws_eqFloat32S_g v411.2.1 v62.2.1) fun v416 =>
                     (.br (!v416) (
                      .leaf false
                     ) (
                      (.call (laws_eqFloat32S_g v411.2.2 v62.2.2) fun v417 =>
                      (.br (!v417) (
                       .leaf false
                      ) (
                       (.br (!(laws_sameFloat_v (wid v411.1) (wid v62.1))) (
                        .leaf false
                       ) (
                        (.br (!(true == true)) (
                         .leaf false
                        ) (
                         (.call (laws_heldFloat32S_g v398.2 (1 : Int)) fun v418 =>
                         (.br (decide (v418 < (0 : Int))) (
                          .leaf false
                         ) (
                          (.call (laws_heldFloat32S_g v399.2 v418) fun v419 =>
                          (.br (decide (v419 < (0 : Int))) (
                           .leaf false
                          ) (
                           (.br (!decide (v419 = v399.1)) (
                            .leaf false
                           ) (
                            .leaf true
                           ))
                          )))
                         )))
                        ))
                       ))
                      )))
                     )))
                    ))
                   ))))
                  ))
                 )))
                )))))))
               ))
              ))
             )))
            )))
           ))))
          ))))
         ))
        ))
       )))
      )))
     ))
    ))))
   ))))
  ))

noncomputable def laws_FnExactReflectionsOf_g (v1 : List Nat) : Option (Bool) := (laws_FnExactReflectionsOf_T v1).run
def laws_FnExactReflectionsOf_enc (v1 : List Nat) (y : Bool) : Rs := (.bool y, [])
theorem laws_FnExactReflectionsOf_den (v1 : List Nat) : (den TT (tabD laws_FnExactReflectionsOf_tab) (tabM laws_FnExactReflectionsOf_tab) (laws_FnExactReflectionsOf_LO v1) (codeOf Try.f3) ([.bslc (BR.root 0) (.f32 v1)] ++ List.replicate (Try.f3.ntmps - ([.bslc (BR.root 0) (.f32 v1)] : List DV).length) .undef) []).bind (retD TT Try.f3.results.toList 0) = (laws_FnExactReflectionsOf_T v1).bind fun y => .leaf (laws_FnExactReflectionsOf_enc v1 y) := by kernel_rfl
theorem laws_FnExactReflectionsOf_fn (v1 : List Nat) (F : Fr) (hm : F.ids.length = 0) (h0 : St F [] F.H0) (hA : DVs.Ok F [] [.bslc (BR.root 0) (.f32 v1)]) {y : Bool} (hy : laws_FnExactReflectionsOf_g v1 = some y) : ∃ H', FnOk Try.prog 3 (DVs.av F [.bslc (BR.root 0) (.f32 v1)]) F.H0 ((laws_FnExactReflectionsOf_enc v1 y).1.av F) H' ∧ St F (laws_FnExactReflectionsOf_enc v1 y).2 H' ∧ (laws_FnExactReflectionsOf_enc v1 y).1.Ok F (laws_FnExactReflectionsOf_enc v1 y).2 :=
  fn_fin tok laws_FnExactReflectionsOf_hO mixed Try.func3 Try.call3 (by kernel_rfl) (LoopsOk_eq (l := []) (by kernel_rfl) trivial) (laws_FnExactReflectionsOf_den v1) hy hm h0 hA
noncomputable def laws_FnExactReflectionsOf_F : DFn := fun args L =>
  match args with
  | [a1] =>
    optT (rowF32 L a1) fun v1 =>
    .call (laws_FnExactReflectionsOf_g v1) fun y => .leaf (.bool y, L)
  | _ => .fail
theorem laws_FnExactReflectionsOf_Fok : COk Try.prog 3 laws_FnExactReflectionsOf_F true := by
  intro F L H args r L' hs ha hr
  unfold laws_FnExactReflectionsOf_F at hr
  split at hr
  · rename_i a1
    obtain ⟨v1, hv1, hr⟩ := optT_run hr
    simp only [Tree.run] at hr
    obtain ⟨y, hy, hr⟩ := Option.bind_eq_some_iff.1 hr
    simp only [Tree.run, Option.some.injEq, Prod.mk.injEq] at hr
    obtain ⟨rfl, rfl⟩ := hr
    exact call_ok0 hs (fun k => (([a1.av F] : List AV)[k]?).getD .top) [a1] [.bslc (BR.root 0) (.f32 v1)] (fun F' h0 hi hρ => ⟨by simp [DVs.av, DV.av, BR.av, hρ], laws_FnExactReflectionsOf_fn v1 F' (by rw [hi]; rfl) (st_nil hi) ⟨bslc_ok hi (by rw [h0, hρ]; exact rowF32_ok hs (DVs.okAt ha 0 rfl) hv1), trivial⟩ hy⟩) rfl
  · cases hr
/-! laws.FnExactReflectionsOf -/
noncomputable def laws_FnExactReflectionsOf_len_LO (v420 : Nat) : LOr := fun id e L =>
  match id with
  | _ => .fail
noncomputable def laws_FnExactReflectionsOf_len_tab : List (FuncId × DFn × Bool) := []
theorem laws_FnExactReflectionsOf_len_hO : OrcOk Try.prog (tabD laws_FnExactReflectionsOf_len_tab) (tabM laws_FnExactReflectionsOf_len_tab) := tabD_nil _
noncomputable def laws_FnExactReflectionsOf_len_T (v420 : Nat) : Tree (Bool) :=
  (.br (decide ((1048576 : Int) < ((v420 : Nat) : Int))) (
   .leaf true
  ) (
   .fail
  ))

noncomputable def laws_FnExactReflectionsOf_len_g (v420 : Nat) : Option (Bool) := (laws_FnExactReflectionsOf_len_T v420).run
def laws_FnExactReflectionsOf_len_enc (v420 : Nat) (y : Bool) : Rs := (.bool y, [])
theorem laws_FnExactReflectionsOf_len_den (v420 : Nat) : (den TT (tabD laws_FnExactReflectionsOf_len_tab) (tabM laws_FnExactReflectionsOf_len_tab) (laws_FnExactReflectionsOf_len_LO v420) (codeOf Try.f3) ([.hslc (BR.root 0) v420] ++ List.replicate (Try.f3.ntmps - ([.hslc (BR.root 0) v420] : List DV).length) .undef) []).bind (retD TT Try.f3.results.toList 0) = (laws_FnExactReflectionsOf_len_T v420).bind fun y => .leaf (laws_FnExactReflectionsOf_len_enc v420 y) := by kernel_rfl
theorem laws_FnExactReflectionsOf_len_fn (v420 : Nat) (F : Fr) (hm : F.ids.length = 0) (h0 : St F [] F.H0) (hA : DVs.Ok F [] [.hslc (BR.root 0) v420]) {y : Bool} (hy : laws_FnExactReflectionsOf_len_g v420 = some y) : ∃ H', FnOk Try.prog 3 (DVs.av F [.hslc (BR.root 0) v420]) F.H0 ((laws_FnExactReflectionsOf_len_enc v420 y).1.av F) H' ∧ St F (laws_FnExactReflectionsOf_len_enc v420 y).2 H' ∧ (laws_FnExactReflectionsOf_len_enc v420 y).1.Ok F (laws_FnExactReflectionsOf_len_enc v420 y).2 :=
  fn_fin tok laws_FnExactReflectionsOf_len_hO mixed Try.func3 Try.call3 (by kernel_rfl) (LoopsOk_eq (l := []) (by kernel_rfl) trivial) (laws_FnExactReflectionsOf_len_den v420) hy hm h0 hA
noncomputable def laws_FnExactReflectionsOf_len_F : DFn := fun args L =>
  match args with
  | [a1] =>
    optT (lenV L a1) fun v420 =>
    .call (laws_FnExactReflectionsOf_len_g v420) fun y => .leaf (.bool y, L)
  | _ => .fail
theorem laws_FnExactReflectionsOf_len_Fok : COk Try.prog 3 laws_FnExactReflectionsOf_len_F true := by
  intro F L H args r L' hs ha hr
  unfold laws_FnExactReflectionsOf_len_F at hr
  split at hr
  · rename_i a1
    obtain ⟨v420, hv420, hr⟩ := optT_run hr
    simp only [Tree.run] at hr
    obtain ⟨y, hy, hr⟩ := Option.bind_eq_some_iff.1 hr
    simp only [Tree.run, Option.some.injEq, Prod.mk.injEq] at hr
    obtain ⟨rfl, rfl⟩ := hr
    exact call_ok0 hs (fun k => (([a1.av F] : List AV)[k]?).getD .top) [a1] [.hslc (BR.root 0) v420] (fun F' h0 hi hρ => ⟨by simp [DVs.av, DV.av, BR.av, hρ], laws_FnExactReflectionsOf_len_fn v420 F' (by rw [hi]; rfl) (st_nil hi) ⟨hslc_ok hi (by rw [h0, hρ]; exact lenV_ok hs (DVs.okAt ha 0 rfl) hv420), trivial⟩ hy⟩) rfl
  · cases hr
end Go.Proofs.Ytflodniglbgkhaa.AM
