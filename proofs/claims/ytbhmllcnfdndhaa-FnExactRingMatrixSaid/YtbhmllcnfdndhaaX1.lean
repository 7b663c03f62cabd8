/- Functions: what they come to. -/
import Derived.Test.YtbhmllcnfdndhaaBase
set_option maxRecDepth 100000
set_option maxHeartbeats 4000000
set_option linter.unusedSimpArgs false
set_option linter.unusedVariables false
namespace Go.Proofs.Ytbhmllcnfdndhaa.AM
open Go.Proofs
/-! laws.toFloat32S -/
noncomputable def laws_toFloat32S_l0_T (v2 : List Nat) (s : Int × (List Nat)) : Tree ((Int × (List Nat)) ⊕ ((List Nat))) :=
  (.br (decide (s.1 < ((v2.length : Nat) : Int))) (
   (.grd (inb s.1 v2.length) <|
   (.grd (inb s.1 ((s.2).length)) <|
   .leaf (.inl (IntKind.i64.wrap (s.1 + (1 : Int)), List.set s.2 (Int.toNat s.1) (nth v2 (Int.toNat s.1))))))
  ) (
   .leaf (.inr s.2)
  ))

noncomputable def laws_toFloat32S_l0_g (v2 : List Nat) (s0 : Int × (List Nat)) : Option ((List Nat)) := whileM (fun s => (laws_toFloat32S_l0_T v2 s).run) s0
def laws_toFloat32S_l0_E (v2 : List Nat) (s : Int × (List Nat)) : Sd := ([.bslc (BR.root 0) (.f32 v2), .top, .top, .own 0 0 ((s.2).length), .int .i64 s.1, .top, .top, .top, .top, .top, .top, .top, .top, .top, .top, .top, .top, .top, .top, .top, .top, .top], [.row (.f32 s.2) 0])
def laws_toFloat32S_l0_X (v2 : List Nat) (x : (List Nat)) : Out := (.normal, [.top, .top, .top, .own 0 0 ((x).length), .top, .top, .top, .top, .top, .top, .top, .top, .top, .top, .top, .top, .top, .top, .top, .top, .top, .top], [.row (.f32 x) 0])
def laws_toFloat32S_l0_kill : List Nat := [0, 1, 1, 0, 0, 1, 1, 1, 1, 1, 1, 1, 1, 1, 1, 1, 1, 1, 1, 1, 1, 1]
def laws_toFloat32S_l0_nx : Exit → List Nat
  | .exit 0 => [1, 1, 1, 0, 1, 1, 1, 1, 1, 1, 1, 1, 1, 1, 1, 1, 1, 1, 1, 1, 1, 1]
  | .ret => [1, 1, 0, 1, 1, 1, 1, 1, 1, 1, 1, 1, 1, 1, 1, 1, 1, 1, 1, 1, 1, 1]
  | _ => []
noncomputable def laws_toFloat32S_LO (v2 : List Nat) : LOr := fun id e L =>
  match id with
  | 0 => .need (normA 0 laws_toFloat32S_l0_kill e L = some (laws_toFloat32S_l0_E v2 ((gI (vAt e 4)), (gRF L (vAt e 3))))) (.call (laws_toFloat32S_l0_g v2 ((gI (vAt e 4)), (gRF L (vAt e 3)))) fun x => .leaf (laws_toFloat32S_l0_X v2 x))
  | _ => .fail
noncomputable def laws_toFloat32S_tab : List (FuncId × DFn × Bool) := []
theorem laws_toFloat32S_hO : OrcOk Try.prog (tabD laws_toFloat32S_tab) (tabM laws_toFloat32S_tab) := tabD_nil _
theorem laws_toFloat32S_l0_be (v2 : List Nat) (s : Int × (List Nat)) : bodyT TT (tabD laws_toFloat32S_tab) (tabM laws_toFloat32S_tab) (laws_toFloat32S_LO v2) 0 laws_toFloat32S_l0_kill laws_toFloat32S_l0_nx (bodyOf Try.f10 0) 0 (laws_toFloat32S_l0_E v2 s) = (laws_toFloat32S_l0_T v2 s).bind fun y => .leaf (outS (laws_toFloat32S_l0_E v2) (laws_toFloat32S_l0_X v2) y) := by kernel_rfl
theorem laws_toFloat32S_l0_ok (v2 : List Nat) : LSound Try.prog 0 (laws_toFloat32S_LO v2) 0 (bodyOf Try.f10 0) := by
  intro e L out h
  exact lo_ok (E := laws_toFloat32S_l0_E v2) (gT := laws_toFloat32S_l0_T v2) (X := laws_toFloat32S_l0_X v2) (s0 := ((gI (vAt e 4)), (gRF L (vAt e 3)))) tok laws_toFloat32S_hO mixed (LoopsOk_eq (l := []) (by kernel_rfl) trivial) (laws_toFloat32S_l0_be v2) rfl (by intro x; rfl) h
noncomputable def laws_toFloat32S_T (v2 : List Nat) : Tree ((List Nat)) :=
  (.need (((v2.length : Nat) : Int) = ((v2.length : Nat) : Int)) <|
  (.grd (inb ((v2.length : Nat) : Int) (maxN + 1)) <|
  (.need (some (laws_toFloat32S_l0_E v2 ((0 : Int), List.replicate (Int.toNat ((v2.length : Nat) : Int)) (0 : Nat))) = some (laws_toFloat32S_l0_E v2 ((0 : Int), List.replicate (Int.toNat ((v2.length : Nat) : Int)) (0 : Nat)))) <|
  (.call (laws_toFloat32S_l0_g v2 ((0 : Int), List.replicate (Int.toNat ((v2.length : Nat) : Int)) (0 : Nat))) fun v8 =>
  .leaf v8))))

noncomputable def laws_toFloat32S_g (v2 : List Nat) : Option ((List Nat)) := (laws_toFloat32S_T v2).run
def laws_toFloat32S_enc (v2 : List Nat) (y : (List Nat)) : Rs := (.own 0 0 ((y).length), [.row (.f32 y) 0])
theorem laws_toFloat32S_den (v2 : List Nat) : (den TT (tabD laws_toFloat32S_tab) (tabM laws_toFloat32S_tab) (laws_toFloat32S_LO v2) (codeOf Try.f10) ([.bslc (BR.root 0) (.f32 v2)] ++ List.replicate (Try.f10.ntmps - ([.bslc (BR.root 0) (.f32 v2)] : List DV).length) .undef) []).bind (retD TT Try.f10.results.toList 0) = (laws_toFloat32S_T v2).bind fun y => .leaf (laws_toFloat32S_enc v2 y) := by kernel_rfl
theorem laws_toFloat32S_fn (v2 : List Nat) (F : Fr) (hm : F.ids.length = 0) (h0 : St F [] F.H0) (hA : DVs.Ok F [] [.bslc (BR.root 0) (.f32 v2)]) {y : (List Nat)} (hy : laws_toFloat32S_g v2 = some y) : ∃ H', FnOk Try.prog 10 (DVs.av F [.bslc (BR.root 0) (.f32 v2)]) F.H0 ((laws_toFloat32S_enc v2 y).1.av F) H' ∧ St F (laws_toFloat32S_enc v2 y).2 H' ∧ (laws_toFloat32S_enc v2 y).1.Ok F (laws_toFloat32S_enc v2 y).2 :=
  fn_fin tok laws_toFloat32S_hO mixed Try.func10 Try.call10 (by kernel_rfl) (LoopsOk_eq (l := [(0, bodyOf Try.f10 0)]) (by kernel_rfl) ⟨laws_toFloat32S_l0_ok v2, trivial⟩) (laws_toFloat32S_den v2) hy hm h0 hA
noncomputable def laws_toFloat32S_F : DFn := fun args L =>
  match args with
  | [a1] =>
    optT (rowF32 L a1) fun v2 =>
    .call (laws_toFloat32S_g v2) fun y => .leaf (.own (L.length + 0) 0 ((y).length), L ++ [.row (.f32 y) 0])
  | _ => .fail
theorem laws_toFloat32S_Fok : COk Try.prog 10 laws_toFloat32S_F true := by
  intro F L H args r L' hs ha hr
  unfold laws_toFloat32S_F at hr
  split at hr
  · rename_i a1
    obtain ⟨v2, hv2, hr⟩ := optT_run hr
    simp only [Tree.run] at hr
    obtain ⟨y, hy, hr⟩ := Option.bind_eq_some_iff.1 hr
    simp only [Tree.run, Option.some.injEq, Prod.mk.injEq] at hr
    obtain ⟨rfl, rfl⟩ := hr
    exact call_ok1 hs (fun k => (([a1.av F] : List AV)[k]?).getD .top) [a1] [.bslc (BR.root 0) (.f32 v2)] (fun F' h0 hi hρ => ⟨by simp [DVs.av, DV.av, BR.av, hρ], laws_toFloat32S_fn v2 F' (by rw [hi]; rfl) (st_nil hi) ⟨bslc_ok hi (by rw [h0, hρ]; exact rowF32_ok hs (DVs.okAt ha 0 rfl) hv2), trivial⟩ hy⟩) rfl rfl
  · cases hr
/-! spec.l01Finite -/
noncomputable def spec_l01Finite_LO (v14 : Nat) : LOr := fun id e L =>
  match id with
  | _ => .fail
noncomputable def spec_l01Finite_tab : List (FuncId × DFn × Bool) := []
theorem spec_l01Finite_hO : OrcOk Try.prog (tabD spec_l01Finite_tab) (tabM spec_l01Finite_tab) := tabD_nil _
noncomputable def spec_l01Finite_T (v14 : Nat) : Tree (Bool) :=
  .leaf (feq .f32 (fsub .f32 v14 v14) (0 : Nat))

noncomputable def spec_l01Finite_g (v14 : Nat) : Option (Bool) := (spec_l01Finite_T v14).run
def spec_l01Finite_enc (v14 : Nat) (y : Bool) : Rs := (.bool y, [])
theorem spec_l01Finite_den (v14 : Nat) : (den TT (tabD spec_l01Finite_tab) (tabM spec_l01Finite_tab) (spec_l01Finite_LO v14) (codeOf Try.f36) ([.flt .f32 v14] ++ List.replicate (Try.f36.ntmps - ([.flt .f32 v14] : List DV).length) .undef) []).bind (retD TT Try.f36.results.toList 0) = (spec_l01Finite_T v14).bind fun y => .leaf (spec_l01Finite_enc v14 y) := by kernel_rfl
theorem spec_l01Finite_fn (v14 : Nat) (F : Fr) (hm : F.ids.length = 0) (h0 : St F [] F.H0) (hA : DVs.Ok F [] [.flt .f32 v14]) {y : Bool} (hy : spec_l01Finite_g v14 = some y) : ∃ H', FnOk Try.prog 36 (DVs.av F [.flt .f32 v14]) F.H0 ((spec_l01Finite_enc v14 y).1.av F) H' ∧ St F (spec_l01Finite_enc v14 y).2 H' ∧ (spec_l01Finite_enc v14 y).1.Ok F (spec_l01Finite_enc v14 y).2 :=
  fn_fin tok spec_l01Finite_hO mixed Try.func36 Try.call36 (by kernel_rfl) (LoopsOk_eq (l := []) (by kernel_rfl) trivial) (spec_l01Finite_den v14) hy hm h0 hA
def spec_l01Finite_v (v14 : Nat) : Bool :=
  feq .f32 (fsub .f32 v14 v14) (0 : Nat)
theorem spec_l01Finite_tot (v14 : Nat) : spec_l01Finite_g v14 = some (spec_l01Finite_v v14) := by
  unfold spec_l01Finite_g spec_l01Finite_T spec_l01Finite_v
  simp only [Tree.run]
  repeat' (first | rfl | split)
noncomputable def spec_l01Finite_F : DFn := fun args L =>
  match args with
  | [.flt .f32 v14] =>
    .leaf (.bool (spec_l01Finite_v v14), L)
  | _ => .fail
theorem spec_l01Finite_Fok : COk Try.prog 36 spec_l01Finite_F true := by
  intro F L H args r L' hs ha hr
  unfold spec_l01Finite_F at hr
  split at hr
  · rename_i v14
    have hy := spec_l01Finite_tot v14
    generalize spec_l01Finite_v v14 = y at hy hr
    simp only [Tree.run, Option.some.injEq, Prod.mk.injEq] at hr
    obtain ⟨rfl, rfl⟩ := hr
    exact call_ok0 hs (fun k => (([] : List AV)[k]?).getD .top) [.flt .f32 v14] [.flt .f32 v14] (fun F' h0 hi hρ => ⟨by simp [DVs.av, DV.av, BR.av, hρ], spec_l01Finite_fn v14 F' (by rw [hi]; rfl) (st_nil hi) ⟨trivial, trivial⟩ hy⟩) rfl
  · cases hr
/-! spec.l02Finite -/
noncomputable def spec_l02Finite_l0_T (v12 : List Nat) (s : Int) : Tree ((Int) ⊕ ((Unit) ⊕ (Unit))) :=
  (.br (decide (s < ((v12.length : Nat) : Int))) (
   (.grd (inb s v12.length) <|
   (.br (!(spec_l01Finite_v (nth v12 (Int.toNat s)))) (
    .leaf (.inr (.inl ()))
   ) (
    .leaf (.inl (IntKind.i64.wrap (s + (1 : Int))))
   )))
  ) (
   .leaf (.inr (.inr ()))
  ))

noncomputable def spec_l02Finite_l0_g (v12 : List Nat) (s0 : Int) : Option ((Unit) ⊕ (Unit)) := whileM (fun s => (spec_l02Finite_l0_T v12 s).run) s0
def spec_l02Finite_l0_E (v12 : List Nat) (s : Int) : Sd := ([.bslc (BR.root 0) (.f32 v12), .top, .top, .int .i64 s, .top, .top, .top, .top, .top, .top, .top, .top, .top, .top, .top, .top], [])
def spec_l02Finite_l0_X (v12 : List Nat) (x : (Unit) ⊕ (Unit)) : Out := (match x with | .inl x => (.ret, [.top, .top, .lit false, .top, .top, .top, .top, .top, .top, .top, .top, .top, .top, .top, .top, .top], []) | .inr x => (.normal, [.top, .top, .top, .top, .top, .top, .top, .top, .top, .top, .top, .top, .top, .top, .top, .top], []))
def spec_l02Finite_l0_kill : List Nat := [0, 1, 1, 0, 1, 1, 1, 1, 1, 1, 1, 1, 1, 1, 1, 1]
def spec_l02Finite_l0_nx : Exit → List Nat
  | .exit 0 => [1, 1, 1, 1, 1, 1, 1, 1, 1, 1, 1, 1, 1, 1, 1, 1]
  | .ret => [1, 1, 0, 1, 1, 1, 1, 1, 1, 1, 1, 1, 1, 1, 1, 1]
  | _ => []
noncomputable def spec_l02Finite_LO (v12 : List Nat) : LOr := fun id e L =>
  match id with
  | 0 => .need (normA 0 spec_l02Finite_l0_kill e L = some (spec_l02Finite_l0_E v12 (gI (vAt e 3)))) (.call (spec_l02Finite_l0_g v12 (gI (vAt e 3))) fun x => .sum x (fun b0 => .leaf (spec_l02Finite_l0_X v12 (.inl b0))) (fun c0 => .leaf (spec_l02Finite_l0_X v12 (.inr c0))))
  | _ => .fail
noncomputable def spec_l02Finite_tab : List (FuncId × DFn × Bool) := [(36, spec_l01Finite_F, true)]
theorem spec_l02Finite_hO : OrcOk Try.prog (tabD spec_l02Finite_tab) (tabM spec_l02Finite_tab) := tabD_cons spec_l01Finite_Fok (tabD_nil _)
theorem spec_l02Finite_l0_be (v12 : List Nat) (s : Int) : bodyT TT (tabD spec_l02Finite_tab) (tabM spec_l02Finite_tab) (spec_l02Finite_LO v12) 0 spec_l02Finite_l0_kill spec_l02Finite_l0_nx (bodyOf Try.f35 0) 0 (spec_l02Finite_l0_E v12 s) = (spec_l02Finite_l0_T v12 s).bind fun y => .leaf (outS (spec_l02Finite_l0_E v12) (spec_l02Finite_l0_X v12) y) := by kernel_rfl
theorem spec_l02Finite_l0_ok (v12 : List Nat) : LSound Try.prog 0 (spec_l02Finite_LO v12) 0 (bodyOf Try.f35 0) := by
  intro e L out h
  exact lo_ok (E := spec_l02Finite_l0_E v12) (gT := spec_l02Finite_l0_T v12) (X := spec_l02Finite_l0_X v12) (s0 := (gI (vAt e 3))) tok spec_l02Finite_hO mixed (LoopsOk_eq (l := []) (by kernel_rfl) trivial) (spec_l02Finite_l0_be v12) rfl (by intro x; (cases x with | inl b => rfl | inr x => exact rfl)) h
noncomputable def spec_l02Finite_T (v12 : List Nat) : Tree (Bool) :=
  (.need (some (spec_l02Finite_l0_E v12 (0 : Int)) = some (spec_l02Finite_l0_E v12 (0 : Int))) <|
  (.call (spec_l02Finite_l0_g v12 (0 : Int)) fun v17 =>
  (.sum v17 (fun v18 =>
   .leaf false
  ) (fun v19 =>
   .leaf true
  ))))

noncomputable def spec_l02Finite_g (v12 : List Nat) : Option (Bool) := (spec_l02Finite_T v12).run
def spec_l02Finite_enc (v12 : List Nat) (y : Bool) : Rs := (.bool y, [])
theorem spec_l02Finite_den (v12 : List Nat) : (den TT (tabD spec_l02Finite_tab) (tabM spec_l02Finite_tab) (spec_l02Finite_LO v12) (codeOf Try.f35) ([.bslc (BR.root 0) (.f32 v12)] ++ List.replicate (Try.f35.ntmps - ([.bslc (BR.root 0) (.f32 v12)] : List DV).length) .undef) []).bind (retD TT Try.f35.results.toList 0) = (spec_l02Finite_T v12).bind fun y => .leaf (spec_l02Finite_enc v12 y) := by kernel_rfl
theorem spec_l02Finite_fn (v12 : List Nat) (F : Fr) (hm : F.ids.length = 0) (h0 : St F [] F.H0) (hA : DVs.Ok F [] [.bslc (BR.root 0) (.f32 v12)]) {y : Bool} (hy : spec_l02Finite_g v12 = some y) : ∃ H', FnOk Try.prog 35 (DVs.av F [.bslc (BR.root 0) (.f32 v12)]) F.H0 ((spec_l02Finite_enc v12 y).1.av F) H' ∧ St F (spec_l02Finite_enc v12 y).2 H' ∧ (spec_l02Finite_enc v12 y).1.Ok F (spec_l02Finite_enc v12 y).2 :=
  fn_fin tok spec_l02Finite_hO mixed Try.func35 Try.call35 (by kernel_rfl) (LoopsOk_eq (l := [(0, bodyOf Try.f35 0)]) (by kernel_rfl) ⟨spec_l02Finite_l0_ok v12, trivial⟩) (spec_l02Finite_den v12) hy hm h0 hA
noncomputable def spec_l02Finite_F : DFn := fun args L =>
  match args with
  | [a1] =>
    optT (rowF32 L a1) fun v12 =>
    .call (spec_l02Finite_g v12) fun y => .leaf (.bool y, L)
  | _ => .fail
theorem spec_l02Finite_Fok : COk Try.prog 35 spec_l02Finite_F true := by
  intro F L H args r L' hs ha hr
  unfold spec_l02Finite_F at hr
  split at hr
  · rename_i a1
    obtain ⟨v12, hv12, hr⟩ := optT_run hr
    simp only [Tree.run] at hr
    obtain ⟨y, hy, hr⟩ := Option.bind_eq_some_iff.1 hr
    simp only [Tree.run, Option.some.injEq, Prod.mk.injEq] at hr
    obtain ⟨rfl, rfl⟩ := hr
    exact call_ok0 hs (fun k => (([a1.av F] : List AV)[k]?).getD .top) [a1] [.bslc (BR.root 0) (.f32 v12)] (fun F' h0 hi hρ => ⟨by simp [DVs.av, DV.av, BR.av, hρ], spec_l02Finite_fn v12 F' (by rw [hi]; rfl) (st_nil hi) ⟨bslc_ok hi (by rw [h0, hρ]; exact rowF32_ok hs (DVs.okAt ha 0 rfl) hv12), trivial⟩ hy⟩) rfl
  · cases hr
/-! spec.l07Short -/
noncomputable def spec_l07Short_LO (v11 : List Nat) : LOr := fun id e L =>
  match id with
  | _ => .fail
noncomputable def spec_l07Short_tab : List (FuncId × DFn × Bool) := [(35, spec_l02Finite_F, true)]
theorem spec_l07Short_hO : OrcOk Try.prog (tabD spec_l07Short_tab) (tabM spec_l07Short_tab) := tabD_cons spec_l02Finite_Fok (tabD_nil _)
noncomputable def spec_l07Short_T (v11 : List Nat) : Tree (Bool) :=
  (.br (decide ((1 : Int) ≤ ((v11.length : Nat) : Int))) (
   (.br (decide (((v11.length : Nat) : Int) ≤ (12 : Int))) (
    (.call (spec_l02Finite_g v11) fun v20 =>
    .leaf v20)
   ) (
    .leaf false
   ))
  ) (
   .leaf false
  ))

noncomputable def spec_l07Short_g (v11 : List Nat) : Option (Bool) := (spec_l07Short_T v11).run
def spec_l07Short_enc (v11 : List Nat) (y : Bool) : Rs := (.bool y, [])
theorem spec_l07Short_den (v11 : List Nat) : (den TT (tabD spec_l07Short_tab) (tabM spec_l07Short_tab) (spec_l07Short_LO v11) (codeOf Try.f54) ([.bslc (BR.root 0) (.f32 v11)] ++ List.replicate (Try.f54.ntmps - ([.bslc (BR.root 0) (.f32 v11)] : List DV).length) .undef) []).bind (retD TT Try.f54.results.toList 0) = (spec_l07Short_T v11).bind fun y => .leaf (spec_l07Short_enc v11 y) := by kernel_rfl
theorem spec_l07Short_fn (v11 : List Nat) (F : Fr) (hm : F.ids.length = 0) (h0 : St F [] F.H0) (hA : DVs.Ok F [] [.bslc (BR.root 0) (.f32 v11)]) {y : Bool} (hy : spec_l07Short_g v11 = some y) : ∃ H', FnOk Try.prog 54 (DVs.av F [.bslc (BR.root 0) (.f32 v11)]) F.H0 ((spec_l07Short_enc v11 y).1.av F) H' ∧ St F (spec_l07Short_enc v11 y).2 H' ∧ (spec_l07Short_enc v11 y).1.Ok F (spec_l07Short_enc v11 y).2 :=
  fn_fin tok spec_l07Short_hO mixed Try.func54 Try.call54 (by kernel_rfl) (LoopsOk_eq (l := []) (by kernel_rfl) trivial) (spec_l07Short_den v11) hy hm h0 hA
noncomputable def spec_l07Short_F : DFn := fun args L =>
  match args with
  | [a1] =>
    optT (rowF32 L a1) fun v11 =>
    .call (spec_l07Short_g v11) fun y => .leaf (.bool y, L)
  | _ => .fail
theorem spec_l07Short_Fok : COk Try.prog 54 spec_l07Short_F true := by
  intro F L H args r L' hs ha hr
  unfold spec_l07Short_F at hr
  split at hr
  · rename_i a1
    obtain ⟨v11, hv11, hr⟩ := optT_run hr
    simp only [Tree.run] at hr
    obtain ⟨y, hy, hr⟩ := Option.bind_eq_some_iff.1 hr
    simp only [Tree.run, Option.some.injEq, Prod.mk.injEq] at hr
    obtain ⟨rfl, rfl⟩ := hr
    exact call_ok0 hs (fun k => (([a1.av F] : List AV)[k]?).getD .top) [a1] [.bslc (BR.root 0) (.f32 v11)] (fun F' h0 hi hρ => ⟨by simp [DVs.av, DV.av, BR.av, hρ], spec_l07Short_fn v11 F' (by rw [hi]; rfl) (st_nil hi) ⟨bslc_ok hi (by rw [h0, hρ]; exact rowF32_ok hs (DVs.okAt ha 0 rfl) hv11), trivial⟩ hy⟩) rfl
  · cases hr
/-! spec.l02Blank -/
noncomputable def spec_l02Blank_LO (v22 : Int) (v23 : Int) : LOr := fun id e L =>
  match id with
  | _ => .fail
noncomputable def spec_l02Blank_tab : List (FuncId × DFn × Bool) := []
theorem spec_l02Blank_hO : OrcOk Try.prog (tabD spec_l02Blank_tab) (tabM spec_l02Blank_tab) := tabD_nil _
noncomputable def spec_l02Blank_T (v22 : Int) (v23 : Int) : Tree (Int × Int) :=
  .leaf (v22, v23)

noncomputable def spec_l02Blank_g (v22 : Int) (v23 : Int) : Option (Int × Int) := (spec_l02Blank_T v22 v23).run
def spec_l02Blank_enc (v22 : Int) (v23 : Int) (y : Int × Int) : Rs := (.agg [.int .i64 y.1, .int .i64 y.2, .own 0 0 ((([] : List Nat)).length)], [.row (.f32 ([] : List Nat)) 0])
theorem spec_l02Blank_den (v22 : Int) (v23 : Int) : (den TT (tabD spec_l02Blank_tab) (tabM spec_l02Blank_tab) (spec_l02Blank_LO v22 v23) (codeOf Try.f55) ([.int .i64 v22, .int .i64 v23] ++ List.replicate (Try.f55.ntmps - ([.int .i64 v22, .int .i64 v23] : List DV).length) .undef) []).bind (retD TT Try.f55.results.toList 0) = (spec_l02Blank_T v22 v23).bind fun y => .leaf (spec_l02Blank_enc v22 v23 y) := by kernel_rfl
theorem spec_l02Blank_fn (v22 : Int) (v23 : Int) (F : Fr) (hm : F.ids.length = 0) (h0 : St F [] F.H0) (hA : DVs.Ok F [] [.int .i64 v22, .int .i64 v23]) {y : Int × Int} (hy : spec_l02Blank_g v22 v23 = some y) : ∃ H', FnOk Try.prog 55 (DVs.av F [.int .i64 v22, .int .i64 v23]) F.H0 ((spec_l02Blank_enc v22 v23 y).1.av F) H' ∧ St F (spec_l02Blank_enc v22 v23 y).2 H' ∧ (spec_l02Blank_enc v22 v23 y).1.Ok F (spec_l02Blank_enc v22 v23 y).2 :=
  fn_fin tok spec_l02Blank_hO mixed Try.func55 Try.call55 (by kernel_rfl) (LoopsOk_eq (l := []) (by kernel_rfl) trivial) (spec_l02Blank_den v22 v23) hy hm h0 hA
def spec_l02Blank_v (v22 : Int) (v23 : Int) : Int × Int :=
  (v22, v23)
theorem spec_l02Blank_tot (v22 : Int) (v23 : Int) : spec_l02Blank_g v22 v23 = some (spec_l02Blank_v v22 v23) := by
  unfold spec_l02Blank_g spec_l02Blank_T spec_l02Blank_v
  simp only [Tree.run]
  repeat' (first | rfl | split)
noncomputable def spec_l02Blank_F : DFn := fun args L =>
  match args with
  | [.int .i64 v22, .int .i64 v23] =>
    .leaf (.agg [.int .i64 ((spec_l02Blank_v v22 v23).1), .int .i64 ((spec_l02Blank_v v22 v23).2), .own (L.length + 0) 0 ((([] : List Nat)).length)], L ++ [.row (.f32 ([] : List Nat)) 0])
  | _ => .fail
theorem spec_l02Blank_Fok : COk Try.prog 55 spec_l02Blank_F true := by
  intro F L H args r L' hs ha hr
  unfold spec_l02Blank_F at hr
  split at hr
  · rename_i v22 v23
    have hy := spec_l02Blank_tot v22 v23
    generalize spec_l02Blank_v v22 v23 = y at hy hr
    simp only [Tree.run, Option.some.injEq, Prod.mk.injEq] at hr
    obtain ⟨rfl, rfl⟩ := hr
    exact call_ok1 hs (fun k => (([] : List AV)[k]?).getD .top) [.int .i64 v22, .int .i64 v23] [.int .i64 v22, .int .i64 v23] (fun F' h0 hi hρ => ⟨by simp [DVs.av, DV.av, BR.av, hρ], spec_l02Blank_fn v22 v23 F' (by rw [hi]; rfl) (st_nil hi) ⟨trivial, trivial, trivial⟩ hy⟩) rfl rfl
  · cases hr
/-! spec.l00In -/
noncomputable def spec_l00In_LO (v67 : Int) (v68 : Int) (v69 : Int) : LOr := fun id e L =>
  match id with
  | _ => .fail
noncomputable def spec_l00In_tab : List (FuncId × DFn × Bool) := []
theorem spec_l00In_hO : OrcOk Try.prog (tabD spec_l00In_tab) (tabM spec_l00In_tab) := tabD_nil _
noncomputable def spec_l00In_T (v67 : Int) (v68 : Int) (v69 : Int) : Tree (Bool) :=
  (.br (decide (v68 ≤ v67)) (
   .leaf (decide (v67 ≤ v69))
  ) (
   .leaf false
  ))

noncomputable def spec_l00In_g (v67 : Int) (v68 : Int) (v69 : Int) : Option (Bool) := (spec_l00In_T v67 v68 v69).run
def spec_l00In_enc (v67 : Int) (v68 : Int) (v69 : Int) (y : Bool) : Rs := (.bool y, [])
theorem spec_l00In_den (v67 : Int) (v68 : Int) (v69 : Int) : (den TT (tabD spec_l00In_tab) (tabM spec_l00In_tab) (spec_l00In_LO v67 v68 v69) (codeOf Try.f78) ([.int .i64 v67, .int .i64 v68, .int .i64 v69] ++ List.replicate (Try.f78.ntmps - ([.int .i64 v67, .int .i64 v68, .int .i64 v69] : List DV).length) .undef) []).bind (retD TT Try.f78.results.toList 0) = (spec_l00In_T v67 v68 v69).bind fun y => .leaf (spec_l00In_enc v67 v68 v69 y) := by kernel_rfl
theorem spec_l00In_fn (v67 : Int) (v68 : Int) (v69 : Int) (F : Fr) (hm : F.ids.length = 0) (h0 : St F [] F.H0) (hA : DVs.Ok F [] [.int .i64 v67, .int .i64 v68, .int .i64 v69]) {y : Bool} (hy : spec_l00In_g v67 v68 v69 = some y) : ∃ H', FnOk Try.prog 78 (DVs.av F [.int .i64 v67, .int .i64 v68, .int .i64 v69]) F.H0 ((spec_l00In_enc v67 v68 v69 y).1.av F) H' ∧ St F (spec_l00In_enc v67 v68 v69 y).2 H' ∧ (spec_l00In_enc v67 v68 v69 y).1.Ok F (spec_l00In_enc v67 v68 v69 y).2 :=
  fn_fin tok spec_l00In_hO mixed Try.func78 Try.call78 (by kernel_rfl) (LoopsOk_eq (l := []) (by kernel_rfl) trivial) (spec_l00In_den v67 v68 v69) hy hm h0 hA
def spec_l00In_v (v67 : Int) (v68 : Int) (v69 : Int) : Bool :=
  if (decide (v68 ≤ v67)) = true then (
   decide (v67 ≤ v69)
  ) else (
   false
  )
theorem spec_l00In_tot (v67 : Int) (v68 : Int) (v69 : Int) : spec_l00In_g v67 v68 v69 = some (spec_l00In_v v67 v68 v69) := by
  unfold spec_l00In_g spec_l00In_T spec_l00In_v
  simp only [Tree.run]
  repeat' (first | rfl | split)
noncomputable def spec_l00In_F : DFn := fun args L =>
  match args with
  | [.int .i64 v67, .int .i64 v68, .int .i64 v69] =>
    .leaf (.bool (spec_l00In_v v67 v68 v69), L)
  | _ => .fail
theorem spec_l00In_Fok : COk Try.prog 78 spec_l00In_F true := by
  intro F L H args r L' hs ha hr
  unfold spec_l00In_F at hr
  split at hr
  · rename_i v67 v68 v69
    have hy := spec_l00In_tot v67 v68 v69
    generalize spec_l00In_v v67 v68 v69 = y at hy hr
    simp only [Tree.run, Option.some.injEq, Prod.mk.injEq] at hr
    obtain ⟨rfl, rfl⟩ := hr
    exact call_ok0 hs (fun k => (([] : List AV)[k]?).getD .top) [.int .i64 v67, .int .i64 v68, .int .i64 v69] [.int .i64 v67, .int .i64 v68, .int .i64 v69] (fun F' h0 hi hρ => ⟨by simp [DVs.av, DV.av, BR.av, hρ], spec_l00In_fn v67 v68 v69 F' (by rw [hi]; rfl) (st_nil hi) ⟨trivial, trivial, trivial, trivial⟩ hy⟩) rfl
  · cases hr
/-! spec.l02Sides -/
noncomputable def spec_l02Sides_LO (v65 : Int) (v66 : Int) : LOr := fun id e L =>
  match id with
  | _ => .fail
noncomputable def spec_l02Sides_tab : List (FuncId × DFn × Bool) := [(78, spec_l00In_F, true)]
theorem spec_l02Sides_hO : OrcOk Try.prog (tabD spec_l02Sides_tab) (tabM spec_l02Sides_tab) := tabD_cons spec_l00In_Fok (tabD_nil _)
noncomputable def spec_l02Sides_T (v65 : Int) (v66 : Int) : Tree (Bool) :=
  (.br (spec_l00In_v v65 (1 : Int) (12 : Int)) (
   .leaf (spec_l00In_v v66 (1 : Int) (12 : Int))
  ) (
   .leaf false
  ))

noncomputable def spec_l02Sides_g (v65 : Int) (v66 : Int) : Option (Bool) := (spec_l02Sides_T v65 v66).run
def spec_l02Sides_enc (v65 : Int) (v66 : Int) (y : Bool) : Rs := (.bool y, [])
theorem spec_l02Sides_den (v65 : Int) (v66 : Int) : (den TT (tabD spec_l02Sides_tab) (tabM spec_l02Sides_tab) (spec_l02Sides_LO v65 v66) (codeOf Try.f76) ([.int .i64 v65, .int .i64 v66] ++ List.replicate (Try.f76.ntmps - ([.int .i64 v65, .int .i64 v66] : List DV).length) .undef) []).bind (retD TT Try.f76.results.toList 0) = (spec_l02Sides_T v65 v66).bind fun y => .leaf (spec_l02Sides_enc v65 v66 y) := by kernel_rfl
theorem spec_l02Sides_fn (v65 : Int) (v66 : Int) (F : Fr) (hm : F.ids.length = 0) (h0 : St F [] F.H0) (hA : DVs.Ok F [] [.int .i64 v65, .int .i64 v66]) {y : Bool} (hy : spec_l02Sides_g v65 v66 = some y) : ∃ H', FnOk Try.prog 76 (DVs.av F [.int .i64 v65, .int .i64 v66]) F.H0 ((spec_l02Sides_enc v65 v66 y).1.av F) H' ∧ St F (spec_l02Sides_enc v65 v66 y).2 H' ∧ (spec_l02Sides_enc v65 v66 y).1.Ok F (spec_l02Sides_enc v65 v66 y).2 :=
  fn_fin tok spec_l02Sides_hO mixed Try.func76 Try.call76 (by kernel_rfl) (LoopsOk_eq (l := []) (by kernel_rfl) trivial) (spec_l02Sides_den v65 v66) hy hm h0 hA
def spec_l02Sides_v (v65 : Int) (v66 : Int) : Bool :=
  if (spec_l00In_v v65 (1 : Int) (12 : Int)) = true then (
   (spec_l00In_v v66 (1 : Int) (12 : Int))
  ) else (
   false
  )
theorem spec_l02Sides_tot (v65 : Int) (v66 : Int) : spec_l02Sides_g v65 v66 = some (spec_l02Sides_v v65 v66) := by
  unfold spec_l02Sides_g spec_l02Sides_T spec_l02Sides_v
  simp only [Tree.run]
  repeat' (first | rfl | split)
noncomputable def spec_l02Sides_F : DFn := fun args L =>
  match args with
  | [.int .i64 v65, .int .i64 v66] =>
    .leaf (.bool (spec_l02Sides_v v65 v66), L)
  | _ => .fail
theorem spec_l02Sides_Fok : COk Try.prog 76 spec_l02Sides_F true := by
  intro F L H args r L' hs ha hr
  unfold spec_l02Sides_F at hr
  split at hr
  · rename_i v65 v66
    have hy := spec_l02Sides_tot v65 v66
    generalize spec_l02Sides_v v65 v66 = y at hy hr
    simp only [Tree.run, Option.some.injEq, Prod.mk.injEq] at hr
    obtain ⟨rfl, rfl⟩ := hr
    exact call_ok0 hs (fun k => (([] : List AV)[k]?).getD .top) [.int .i64 v65, .int .i64 v66] [.int .i64 v65, .int .i64 v66] (fun F' h0 hi hρ => ⟨by simp [DVs.av, DV.av, BR.av, hρ], spec_l02Sides_fn v65 v66 F' (by rw [hi]; rfl) (st_nil hi) ⟨trivial, trivial, trivial⟩ hy⟩) rfl
  · cases hr
/-! spec.l02Is -/
noncomputable def spec_l02Is_LO (v62 : Int) (v63 : Int) (v64 : List Nat) : LOr := fun id e L =>
  match id with
  | _ => .fail
noncomputable def spec_l02Is_tab : List (FuncId × DFn × Bool) := [(76, spec_l02Sides_F, true), (35, spec_l02Finite_F, true)]
theorem spec_l02Is_hO : OrcOk Try.prog (tabD spec_l02Is_tab) (tabM spec_l02Is_tab) := tabD_cons spec_l02Sides_Fok (tabD_cons spec_l02Finite_Fok (tabD_nil _))
noncomputable def spec_l02Is_T (v62 : Int) (v63 : Int) (v64 : List Nat) : Tree (Bool) :=
  (.br (spec_l02Sides_v v62 v63) (
   (.br (decide (((v64.length : Nat) : Int) = IntKind.i64.wrap (v62 * v63))) (
    (.call (spec_l02Finite_g v64) fun v70 =>
    .leaf v70)
   ) (
    .leaf false
   ))
  ) (
   .leaf false
  ))

noncomputable def spec_l02Is_g (v62 : Int) (v63 : Int) (v64 : List Nat) : Option (Bool) := (spec_l02Is_T v62 v63 v64).run
def spec_l02Is_enc (v62 : Int) (v63 : Int) (v64 : List Nat) (y : Bool) : Rs := (.bool y, [])
theorem spec_l02Is_den (v62 : Int) (v63 : Int) (v64 : List Nat) : (den TT (tabD spec_l02Is_tab) (tabM spec_l02Is_tab) (spec_l02Is_LO v62 v63 v64) (codeOf Try.f69) ([.bptr (BR.root 0) [.int .i64 v62, .int .i64 v63, .bslc (BR.root 1) (.f32 v64)]] ++ List.replicate (Try.f69.ntmps - ([.bptr (BR.root 0) [.int .i64 v62, .int .i64 v63, .bslc (BR.root 1) (.f32 v64)]] : List DV).length) .undef) []).bind (retD TT Try.f69.results.toList 0) = (spec_l02Is_T v62 v63 v64).bind fun y => .leaf (spec_l02Is_enc v62 v63 v64 y) := by kernel_rfl
theorem spec_l02Is_fn (v62 : Int) (v63 : Int) (v64 : List Nat) (F : Fr) (hm : F.ids.length = 0) (h0 : St F [] F.H0) (hA : DVs.Ok F [] [.bptr (BR.root 0) [.int .i64 v62, .int .i64 v63, .bslc (BR.root 1) (.f32 v64)]]) {y : Bool} (hy : spec_l02Is_g v62 v63 v64 = some y) : ∃ H', FnOk Try.prog 69 (DVs.av F [.bptr (BR.root 0) [.int .i64 v62, .int .i64 v63, .bslc (BR.root 1) (.f32 v64)]]) F.H0 ((spec_l02Is_enc v62 v63 v64 y).1.av F) H' ∧ St F (spec_l02Is_enc v62 v63 v64 y).2 H' ∧ (spec_l02Is_enc v62 v63 v64 y).1.Ok F (spec_l02Is_enc v62 v63 v64 y).2 :=
  fn_fin tok spec_l02Is_hO mixed Try.func69 Try.call69 (by kernel_rfl) (LoopsOk_eq (l := []) (by kernel_rfl) trivial) (spec_l02Is_den v62 v63 v64) hy hm h0 hA
noncomputable def spec_l02Is_F : DFn := fun args L =>
  match args with
  | [a1] =>
    optT (cellsOf L 3 a1) fun cs0 =>
    (match cs0 with
    | [.int .i64 v62, .int .i64 v63, a2] =>
    optT (rowF32 L a2) fun v64 =>
    .call (spec_l02Is_g v62 v63 v64) fun y => .leaf (.bool y, L)
    | _ => .fail)
  | _ => .fail
theorem spec_l02Is_Fok : COk Try.prog 69 spec_l02Is_F true := by
  intro F L H args r L' hs ha hr
  unfold spec_l02Is_F at hr
  split at hr
  · rename_i a1
    obtain ⟨cs0, hcp0, hr⟩ := optT_run hr
    split at hr
    · rename_i v62 v63 a2
      obtain ⟨v64, hv64, hr⟩ := optT_run hr
      simp only [Tree.run] at hr
      obtain ⟨y, hy, hr⟩ := Option.bind_eq_some_iff.1 hr
      simp only [Tree.run, Option.some.injEq, Prod.mk.injEq] at hr
      obtain ⟨rfl, rfl⟩ := hr
      exact call_ok0 hs (fun k => (([a1.av F, a2.av F] : List AV)[k]?).getD .top) [a1] [.bptr (BR.root 0) [.int .i64 v62, .int .i64 v63, .bslc (BR.root 1) (.f32 v64)]] (fun F' h0 hi hρ => ⟨by simp [DVs.av, DV.av, BR.av, hρ], spec_l02Is_fn v62 v63 v64 F' (by rw [hi]; rfl) (st_nil hi) ⟨bptr_ok hi (by rw [h0]; simpa [DVs.av, DV.av, BR.av, hρ] using (cellsOf_ok hs (DVs.okAt ha 0 rfl) hcp0).1) ⟨trivial, trivial, bslc_ok hi (by rw [h0, hρ]; exact rowF32_ok hs (DVs.okAt (cellsOf_ok hs (DVs.okAt ha 0 rfl) hcp0).2 2 rfl) hv64), trivial⟩, trivial⟩ hy⟩) rfl
    · cases hr
  · cases hr
/-! spec.l02Give -/
noncomputable def spec_l02Give_LO (v59 : Int) (v60 : Int) (v61 : List Nat) : LOr := fun id e L =>
  match id with
  | _ => .fail
noncomputable def spec_l02Give_tab : List (FuncId × DFn × Bool) := [(69, spec_l02Is_F, true)]
theorem spec_l02Give_hO : OrcOk Try.prog (tabD spec_l02Give_tab) (tabM spec_l02Give_tab) := tabD_cons spec_l02Is_Fok (tabD_nil _)
noncomputable def spec_l02Give_T (v59 : Int) (v60 : Int) (v61 : List Nat) : Tree ((Unit) ⊕ (Int × Int)) :=
  (.call (spec_l02Is_g v59 v60 v61) fun v71 =>
  (.br (!v71) (
   .leaf (.inl ())
  ) (
   .leaf (.inr (v59, v60))
  )))

noncomputable def spec_l02Give_g (v59 : Int) (v60 : Int) (v61 : List Nat) : Option ((Unit) ⊕ (Int × Int)) := (spec_l02Give_T v59 v60 v61).run
def spec_l02Give_enc (v59 : Int) (v60 : Int) (v61 : List Nat) (y : (Unit) ⊕ (Int × Int)) : Rs := (match y with | .inl y => (.tup [.agg [.int .i64 (0 : Int), .int .i64 (0 : Int), .nilslc], .lit false], []) | .inr y => (.tup [.agg [.int .i64 y.1, .int .i64 y.2, .bslc (BR.root 0) (.f32 v61)], .lit true], []))
theorem spec_l02Give_den (v59 : Int) (v60 : Int) (v61 : List Nat) : (den TT (tabD spec_l02Give_tab) (tabM spec_l02Give_tab) (spec_l02Give_LO v59 v60 v61) (codeOf Try.f56) ([.agg [.int .i64 v59, .int .i64 v60, .bslc (BR.root 0) (.f32 v61)]] ++ List.replicate (Try.f56.ntmps - ([.agg [.int .i64 v59, .int .i64 v60, .bslc (BR.root 0) (.f32 v61)]] : List DV).length) .undef) []).bind (retD TT Try.f56.results.toList 0) = (spec_l02Give_T v59 v60 v61).bind fun y => .leaf (spec_l02Give_enc v59 v60 v61 y) := by kernel_rfl
theorem spec_l02Give_fn (v59 : Int) (v60 : Int) (v61 : List Nat) (F : Fr) (hm : F.ids.length = 0) (h0 : St F [] F.H0) (hA : DVs.Ok F [] [.agg [.int .i64 v59, .int .i64 v60, .bslc (BR.root 0) (.f32 v61)]]) {y : (Unit) ⊕ (Int × Int)} (hy : spec_l02Give_g v59 v60 v61 = some y) : ∃ H', FnOk Try.prog 56 (DVs.av F [.agg [.int .i64 v59, .int .i64 v60, .bslc (BR.root 0) (.f32 v61)]]) F.H0 ((spec_l02Give_enc v59 v60 v61 y).1.av F) H' ∧ St F (spec_l02Give_enc v59 v60 v61 y).2 H' ∧ (spec_l02Give_enc v59 v60 v61 y).1.Ok F (spec_l02Give_enc v59 v60 v61 y).2 :=
  fn_fin tok spec_l02Give_hO mixed Try.func56 Try.call56 (by kernel_rfl) (LoopsOk_eq (l := []) (by kernel_rfl) trivial) (spec_l02Give_den v59 v60 v61) hy hm h0 hA
noncomputable def spec_l02Give_F : DFn := fun args L =>
  match args with
  | [.agg [.int .i64 v59, .int .i64 v60, a1]] =>
    optT (rowF32 L a1) fun v61 =>
    .call (spec_l02Give_g v59 v60 v61) fun y => .sum y (fun y0 => .leaf (.tup [.agg [.int .i64 (0 : Int), .int .i64 (0 : Int), .nilslc], .lit false], L)) (fun z0 => .leaf (.tup [.agg [.int .i64 z0.1, .int .i64 z0.2, a1], .lit true], L))
  | _ => .fail
theorem spec_l02Give_Fok : COk Try.prog 56 spec_l02Give_F true := by
  intro F L H args r L' hs ha hr
  unfold spec_l02Give_F at hr
  split at hr
  · rename_i v59 v60 a1
    obtain ⟨v61, hv61, hr⟩ := optT_run hr
    simp only [Tree.run] at hr
    obtain ⟨y, hy, hr⟩ := Option.bind_eq_some_iff.1 hr
    cases y with
    | inl y =>
      simp only [Tree.run, Option.some.injEq, Prod.mk.injEq] at hr
      obtain ⟨rfl, rfl⟩ := hr
      exact call_ok0 hs (fun k => (([a1.av F] : List AV)[k]?).getD .top) [.agg [.int .i64 v59, .int .i64 v60, a1]] [.agg [.int .i64 v59, .int .i64 v60, .bslc (BR.root 0) (.f32 v61)]] (fun F' h0 hi hρ => ⟨by simp [DVs.av, DV.av, BR.av, hρ], spec_l02Give_fn v59 v60 v61 F' (by rw [hi]; rfl) (st_nil hi) ⟨⟨trivial, trivial, bslc_ok hi (by rw [h0, hρ]; exact rowF32_ok hs (DVs.okAt (DVs.okAt ha 0 rfl) 2 rfl) hv61), trivial⟩, trivial⟩ hy⟩) rfl
    | inr y =>
      simp only [Tree.run, Option.some.injEq, Prod.mk.injEq] at hr
      obtain ⟨rfl, rfl⟩ := hr
      exact call_al0 hs (fun k => (([a1.av F] : List AV)[k]?).getD .top) [.agg [.int .i64 v59, .int .i64 v60, a1]] [.agg [.int .i64 v59, .int .i64 v60, .bslc (BR.root 0) (.f32 v61)]] (fun F' h0 hi hρ => ⟨by simp [DVs.av, DV.av, BR.av, hρ], spec_l02Give_fn v59 v60 v61 F' (by rw [hi]; rfl) (st_nil hi) ⟨⟨trivial, trivial, bslc_ok hi (by rw [h0, hρ]; exact rowF32_ok hs (DVs.okAt (DVs.okAt ha 0 rfl) 2 rfl) hv61), trivial⟩, trivial⟩ hy⟩) (fun F' h0 hi hρ => by simp [spec_l02Give_enc, DVs.av, DV.av, BR.av, hρ]) ⟨⟨trivial, trivial, (DVs.okAt (DVs.okAt ha 0 rfl) 2 rfl), trivial⟩, trivial, trivial⟩
  · cases hr
/-! spec.RingMatrix -/
noncomputable def spec_RingMatrix_l2_T (v10 : List Nat) (v54 : Int) (s : Int × (List Nat)) : Tree ((Int × (List Nat)) ⊕ ((List Nat))) :=
  (.br (decide (s.1 < ((v10.length : Nat) : Int))) (
   (.grd (!decide (((v10.length : Nat) : Int) = 0)) <|
   (.grd (inb (Int.tmod (IntKind.i64.wrap ((IntKind.i64.wrap (v54 - s.1)) + ((v10.length : Nat) : Int))) ((v10.length : Nat) : Int)) v10.length) <|
   (.grd (fits (s.2 ++ ([nth v10 (Int.toNat (Int.tmod (IntKind.i64.wrap ((IntKind.i64.wrap (v54 - s.1)) + ((v10.length : Nat) : Int))) ((v10.length : Nat) : Int)))] : List Nat)).length) <|
   .leaf (.inl (IntKind.i64.wrap (s.1 + (1 : Int)), s.2 ++ ([nth v10 (Int.toNat (Int.tmod (IntKind.i64.wrap ((IntKind.i64.wrap (v54 - s.1)) + ((v10.length : Nat) : Int))) ((v10.length : Nat) : Int)))] : List Nat))))))
  ) (
   .leaf (.inr s.2)
  ))

noncomputable def spec_RingMatrix_l2_g (v10 : List Nat) (v54 : Int) (s0 : Int × (List Nat)) : Option ((List Nat)) := whileM (fun s => (spec_RingMatrix_l2_T v10 v54 s).run) s0
def spec_RingMatrix_l2_E (v10 : List Nat) (v54 : Int) (s : Int × (List Nat)) : Sd := ([.bslc (BR.root 0) (.f32 v10), .top, .ptr 0 (0 : Nat) 0 (3 : Nat), .top, .int .i64 ((v10.length : Nat) : Int), .ptr 1 (0 : Nat) 0 (3 : Nat), .int .i64 v54, .int .i64 s.1, .top, .top, .top, .top, .top, .top, .top, .top, .top, .top, .top, .top, .top, .top, .top, .top, .top, .top, .top, .top, .top, .top, .top, .top, .top, .top, .top, .top, .top, .top, .top, .top, .top, .top, .top, .top, .top, .top], [.gen [.int .i64 (0 : Int), .int .i64 (0 : Int), .nilslc] false 0, .gen [.int .i64 ((spec_l02Blank_v ((v10.length : Nat) : Int) ((v10.length : Nat) : Int)).1), .int .i64 ((spec_l02Blank_v ((v10.length : Nat) : Int) ((v10.length : Nat) : Int)).2), .own 2 0 ((s.2).length)] false 0, .row (.f32 s.2) 0])
def spec_RingMatrix_l2_X (v10 : List Nat) (v54 : Int) (x : (List Nat)) : Out := (.normal, [.bslc (BR.root 0) (.f32 v10), .top, .ptr 0 (0 : Nat) 0 (3 : Nat), .top, .int .i64 ((v10.length : Nat) : Int), .ptr 1 (0 : Nat) 0 (3 : Nat), .int .i64 v54, .top, .top, .top, .top, .top, .top, .top, .top, .top, .top, .top, .top, .top, .top, .top, .top, .top, .top, .top, .top, .top, .top, .top, .top, .top, .top, .top, .top, .top, .top, .top, .top, .top, .top, .top, .top, .top, .top, .top], [.gen [.int .i64 (0 : Int), .int .i64 (0 : Int), .nilslc] false 0, .gen [.int .i64 ((spec_l02Blank_v ((v10.length : Nat) : Int) ((v10.length : Nat) : Int)).1), .int .i64 ((spec_l02Blank_v ((v10.length : Nat) : Int) ((v10.length : Nat) : Int)).2), .own 2 0 ((x).length)] false 0, .row (.f32 x) 0])
def spec_RingMatrix_l2_kill : List Nat := [0, 1, 0, 1, 0, 0, 0, 0, 1, 1, 1, 1, 1, 1, 1, 1, 1, 1, 1, 1, 1, 1, 1, 1, 1, 1, 1, 1, 1, 1, 1, 1, 1, 1, 1, 1, 1, 1, 1, 1, 1, 1, 1, 1, 1, 1]
def spec_RingMatrix_l2_nx : Exit → List Nat
  | .exit 0 => [1, 1, 0, 1, 1, 0, 1, 1, 1, 1, 1, 1, 1, 1, 1, 1, 1, 1, 1, 1, 1, 1, 1, 1, 1, 1, 1, 1, 1, 1, 1, 1, 1, 1, 1, 1, 1, 1, 1, 1, 1, 1, 1, 1, 1, 1]
  | .exit 1 => [0, 1, 0, 1, 0, 0, 0, 1, 1, 1, 1, 1, 1, 1, 1, 1, 1, 1, 1, 1, 1, 1, 1, 1, 1, 1, 1, 1, 1, 1, 1, 1, 1, 1, 1, 1, 1, 1, 1, 1, 1, 1, 1, 1, 1, 1]
  | .exit 2 => [0, 1, 0, 1, 0, 0, 0, 1, 1, 1, 1, 1, 1, 1, 1, 1, 1, 1, 1, 1, 1, 1, 1, 1, 1, 1, 1, 1, 1, 1, 1, 1, 1, 1, 1, 1, 1, 1, 1, 1, 1, 1, 1, 1, 1, 1]
  | .ret => [1, 1, 0, 0, 1, 1, 1, 1, 1, 1, 1, 1, 1, 1, 1, 1, 1, 1, 1, 1, 1, 1, 1, 1, 1, 1, 1, 1, 1, 1, 1, 1, 1, 1, 1, 1, 1, 1, 1, 1, 1, 1, 1, 1, 1, 1]
  | _ => []
noncomputable def spec_RingMatrix_l0_T (v10 : List Nat) (s : Int × (List Nat)) : Tree ((Int × (List Nat)) ⊕ ((List Nat))) :=
  (.br (decide (s.1 < ((v10.length : Nat) : Int))) (
   (.need (some (spec_RingMatrix_l2_E v10 s.1 ((0 : Int), s.2)) = some (spec_RingMatrix_l2_E v10 s.1 ((0 : Int), s.2))) <|
   (.call (spec_RingMatrix_l2_g v10 s.1 ((0 : Int), s.2)) fun v57 =>
   .leaf (.inl (IntKind.i64.wrap (s.1 + (1 : Int)), v57))))
  ) (
   .leaf (.inr s.2)
  ))

noncomputable def spec_RingMatrix_l0_g (v10 : List Nat) (s0 : Int × (List Nat)) : Option ((List Nat)) := whileM (fun s => (spec_RingMatrix_l0_T v10 s).run) s0
def spec_RingMatrix_l0_E (v10 : List Nat) (s : Int × (List Nat)) : Sd := ([.bslc (BR.root 0) (.f32 v10), .top, .ptr 0 (0 : Nat) 0 (3 : Nat), .top, .int .i64 ((v10.length : Nat) : Int), .ptr 1 (0 : Nat) 0 (3 : Nat), .int .i64 s.1, .top, .top, .top, .top, .top, .top, .top, .top, .top, .top, .top, .top, .top, .top, .top, .top, .top, .top, .top, .top, .top, .top, .top, .top, .top, .top, .top, .top, .top, .top, .top, .top, .top, .top, .top, .top, .top, .top, .top], [.gen [.int .i64 (0 : Int), .int .i64 (0 : Int), .nilslc] false 0, .gen [.int .i64 ((spec_l02Blank_v ((v10.length : Nat) : Int) ((v10.length : Nat) : Int)).1), .int .i64 ((spec_l02Blank_v ((v10.length : Nat) : Int) ((v10.length : Nat) : Int)).2), .own 2 0 ((s.2).length)] false 0, .row (.f32 s.2) 0])
def spec_RingMatrix_l0_X (v10 : List Nat) (x : (List Nat)) : Out := (.normal, [.top, .top, .ptr 0 (0 : Nat) 0 (3 : Nat), .top, .top, .ptr 1 (0 : Nat) 0 (3 : Nat), .top, .top, .top, .top, .top, .top, .top, .top, .top, .top, .top, .top, .top, .top, .top, .top, .top, .top, .top, .top, .top, .top, .top, .top, .top, .top, .top, .top, .top, .top, .top, .top, .top, .top, .top, .top, .top, .top, .top, .top], [.gen [.int .i64 (0 : Int), .int .i64 (0 : Int), .nilslc] false 0, .gen [.int .i64 ((spec_l02Blank_v ((v10.length : Nat) : Int) ((v10.length : Nat) : Int)).1), .int .i64 ((spec_l02Blank_v ((v10.length : Nat) : Int) ((v10.length : Nat) : Int)).2), .own 2 0 ((x).length)] false 0, .row (.f32 x) 0])
def spec_RingMatrix_l0_kill : List Nat := [0, 1, 0, 1, 0, 0, 0, 1, 1, 1, 1, 1, 1, 1, 1, 1, 1, 1, 1, 1, 1, 1, 1, 1, 1, 1, 1, 1, 1, 1, 1, 1, 1, 1, 1, 1, 1, 1, 1, 1, 1, 1, 1, 1, 1, 1]
def spec_RingMatrix_l0_nx : Exit → List Nat
  | .exit 0 => [1, 1, 0, 1, 1, 0, 1, 1, 1, 1, 1, 1, 1, 1, 1, 1, 1, 1, 1, 1, 1, 1, 1, 1, 1, 1, 1, 1, 1, 1, 1, 1, 1, 1, 1, 1, 1, 1, 1, 1, 1, 1, 1, 1, 1, 1]
  | .ret => [1, 1, 0, 0, 1, 1, 1, 1, 1, 1, 1, 1, 1, 1, 1, 1, 1, 1, 1, 1, 1, 1, 1, 1, 1, 1, 1, 1, 1, 1, 1, 1, 1, 1, 1, 1, 1, 1, 1, 1, 1, 1, 1, 1, 1, 1]
  | _ => []
noncomputable def spec_RingMatrix_LO (v10 : List Nat) : LOr := fun id e L =>
  match id with
  | 2 => .need (normA 0 spec_RingMatrix_l2_kill e L = some (spec_RingMatrix_l2_E v10 (gI (vAt e 6)) ((gI (vAt e 7)), (gRF L (cAt L (vAt e 5) 2))))) (.call (spec_RingMatrix_l2_g v10 (gI (vAt e 6)) ((gI (vAt e 7)), (gRF L (cAt L (vAt e 5) 2)))) fun x => .leaf (spec_RingMatrix_l2_X v10 (gI (vAt e 6)) x))
  | 0 => .need (normA 0 spec_RingMatrix_l0_kill e L = some (spec_RingMatrix_l0_E v10 ((gI (vAt e 6)), (gRF L (cAt L (vAt e 5) 2))))) (.call (spec_RingMatrix_l0_g v10 ((gI (vAt e 6)), (gRF L (cAt L (vAt e 5) 2)))) fun x => .leaf (spec_RingMatrix_l0_X v10 x))
  | _ => .fail
noncomputable def spec_RingMatrix_tab : List (FuncId × DFn × Bool) := [(54, spec_l07Short_F, true), (55, spec_l02Blank_F, true), (56, spec_l02Give_F, true)]
theorem spec_RingMatrix_hO : OrcOk Try.prog (tabD spec_RingMatrix_tab) (tabM spec_RingMatrix_tab) := tabD_cons spec_l07Short_Fok (tabD_cons spec_l02Blank_Fok (tabD_cons spec_l02Give_Fok (tabD_nil _)))
theorem spec_RingMatrix_l2_be (v10 : List Nat) (v54 : Int) (s : Int × (List Nat)) : bodyT TT (tabD spec_RingMatrix_tab) (tabM spec_RingMatrix_tab) (spec_RingMatrix_LO v10) 0 spec_RingMatrix_l2_kill spec_RingMatrix_l2_nx (bodyOf Try.f28 2) 2 (spec_RingMatrix_l2_E v10 v54 s) = (spec_RingMatrix_l2_T v10 v54 s).bind fun y => .leaf (outS (spec_RingMatrix_l2_E v10 v54) (spec_RingMatrix_l2_X v10 v54) y) := by kernel_rfl
theorem spec_RingMatrix_l2_ok (v10 : List Nat) : LSound Try.prog 0 (spec_RingMatrix_LO v10) 2 (bodyOf Try.f28 2) := by
  intro e L out h
  exact lo_ok (E := spec_RingMatrix_l2_E v10 (gI (vAt e 6))) (gT := spec_RingMatrix_l2_T v10 (gI (vAt e 6))) (X := spec_RingMatrix_l2_X v10 (gI (vAt e 6))) (s0 := ((gI (vAt e 7)), (gRF L (cAt L (vAt e 5) 2)))) tok spec_RingMatrix_hO mixed (LoopsOk_eq (l := []) (by kernel_rfl) trivial) (spec_RingMatrix_l2_be v10 (gI (vAt e 6))) rfl (by intro x; rfl) h
theorem spec_RingMatrix_l0_be (v10 : List Nat) (s : Int × (List Nat)) : bodyT TT (tabD spec_RingMatrix_tab) (tabM spec_RingMatrix_tab) (spec_RingMatrix_LO v10) 0 spec_RingMatrix_l0_kill spec_RingMatrix_l0_nx (bodyOf Try.f28 0) 0 (spec_RingMatrix_l0_E v10 s) = (spec_RingMatrix_l0_T v10 s).bind fun y => .leaf (outS (spec_RingMatrix_l0_E v10) (spec_RingMatrix_l0_X v10) y) := by kernel_rfl
theorem spec_RingMatrix_l0_ok (v10 : List Nat) : LSound Try.prog 0 (spec_RingMatrix_LO v10) 0 (bodyOf Try.f28 0) := by
  intro e L out h
  exact lo_ok (E := spec_RingMatrix_l0_E v10) (gT := spec_RingMatrix_l0_T v10) (X := spec_RingMatrix_l0_X v10) (s0 := ((gI (vAt e 6)), (gRF L (cAt L (vAt e 5) 2)))) tok spec_RingMatrix_hO mixed (LoopsOk_eq (l := [(2, bodyOf Try.f28 2)]) (by kernel_rfl) ⟨spec_RingMatrix_l2_ok v10, trivial⟩) (spec_RingMatrix_l0_be v10) rfl (by intro x; rfl) h
noncomputable def spec_RingMatrix_T (v10 : List Nat) : Tree ((Unit) ⊕ (Int × Int × (List Nat))) :=
  (.call (spec_l07Short_g v10) fun v21 =>
  (.br (!v21) (
   .leaf (.inl ())
  ) (
   (.need (some (spec_RingMatrix_l0_E v10 ((0 : Int), ([] : List Nat))) = some (spec_RingMatrix_l0_E v10 ((0 : Int), ([] : List Nat)))) <|
   (.call (spec_RingMatrix_l0_g v10 ((0 : Int), ([] : List Nat))) fun v58 =>
   (.call (spec_l02Give_g ((spec_l02Blank_v ((v10.length : Nat) : Int) ((v10.length : Nat) : Int)).1) ((spec_l02Blank_v ((v10.length : Nat) : Int) ((v10.length : Nat) : Int)).2) v58) fun v72 =>
   (.sum v72 (fun v73 =>
    .leaf (.inl ())
   ) (fun v74 =>
    .leaf (.inr (v74.1, v74.2, v58))
   )))))
  )))

noncomputable def spec_RingMatrix_g (v10 : List Nat) : Option ((Unit) ⊕ (Int × Int × (List Nat))) := (spec_RingMatrix_T v10).run
def spec_RingMatrix_enc (v10 : List Nat) (y : (Unit) ⊕ (Int × Int × (List Nat))) : Rs := (match y with | .inl y => (.tup [.agg [.int .i64 (0 : Int), .int .i64 (0 : Int), .nilslc], .lit false], []) | .inr y => (.tup [.agg [.int .i64 y.1, .int .i64 y.2.1, .own 0 0 ((y.2.2).length)], .lit true], [.row (.f32 y.2.2) 0]))
theorem spec_RingMatrix_den (v10 : List Nat) : (den TT (tabD spec_RingMatrix_tab) (tabM spec_RingMatrix_tab) (spec_RingMatrix_LO v10) (codeOf Try.f28) ([.bslc (BR.root 0) (.f32 v10)] ++ List.replicate (Try.f28.ntmps - ([.bslc (BR.root 0) (.f32 v10)] : List DV).length) .undef) []).bind (retD TT Try.f28.results.toList 0) = (spec_RingMatrix_T v10).bind fun y => .leaf (spec_RingMatrix_enc v10 y) := by kernel_rfl
theorem spec_RingMatrix_fn (v10 : List Nat) (F : Fr) (hm : F.ids.length = 0) (h0 : St F [] F.H0) (hA : DVs.Ok F [] [.bslc (BR.root 0) (.f32 v10)]) {y : (Unit) ⊕ (Int × Int × (List Nat))} (hy : spec_RingMatrix_g v10 = some y) : ∃ H', FnOk Try.prog 28 (DVs.av F [.bslc (BR.root 0) (.f32 v10)]) F.H0 ((spec_RingMatrix_enc v10 y).1.av F) H' ∧ St F (spec_RingMatrix_enc v10 y).2 H' ∧ (spec_RingMatrix_enc v10 y).1.Ok F (spec_RingMatrix_enc v10 y).2 :=
  fn_fin tok spec_RingMatrix_hO mixed Try.func28 Try.call28 (by kernel_rfl) (LoopsOk_eq (l := [(0, bodyOf Try.f28 0)]) (by kernel_rfl) ⟨spec_RingMatrix_l0_ok v10, trivial⟩) (spec_RingMatrix_den v10) hy hm h0 hA
noncomputable def spec_RingMatrix_F : DFn := fun args L =>
  match args with
  | [a1] =>
    optT (rowF32 L a1) fun v10 =>
    .call (spec_RingMatrix_g v10) fun y => .sum y (fun y0 => .leaf (.tup [.agg [.int .i64 (0 : Int), .int .i64 (0 : Int), .nilslc], .lit false], L)) (fun z0 => .leaf (.tup [.agg [.int .i64 z0.1, .int .i64 z0.2.1, .own (L.length + 0) 0 ((z0.2.2).length)], .lit true], L ++ [.row (.f32 z0.2.2) 0]))
  | _ => .fail
theorem spec_RingMatrix_Fok : COk Try.prog 28 spec_RingMatrix_F true := by
  intro F L H args r L' hs ha hr
  unfold spec_RingMatrix_F at hr
  split at hr
  · rename_i a1
    obtain ⟨v10, hv10, hr⟩ := optT_run hr
    simp only [Tree.run] at hr
    obtain ⟨y, hy, hr⟩ := Option.bind_eq_some_iff.1 hr
    cases y with
    | inl y =>
      simp only [Tree.run, Option.some.injEq, Prod.mk.injEq] at hr
      obtain ⟨rfl, rfl⟩ := hr
      exact call_ok0 hs (fun k => (([a1.av F] : List AV)[k]?).getD .top) [a1] [.bslc (BR.root 0) (.f32 v10)] (fun F' h0 hi hρ => ⟨by simp [DVs.av, DV.av, BR.av, hρ], spec_RingMatrix_fn v10 F' (by rw [hi]; rfl) (st_nil hi) ⟨bslc_ok hi (by rw [h0, hρ]; exact rowF32_ok hs (DVs.okAt ha 0 rfl) hv10), trivial⟩ hy⟩) rfl
    | inr y =>
      simp only [Tree.run, Option.some.injEq, Prod.mk.injEq] at hr
      obtain ⟨rfl, rfl⟩ := hr
      exact call_ok1 hs (fun k => (([a1.av F] : List AV)[k]?).getD .top) [a1] [.bslc (BR.root 0) (.f32 v10)] (fun F' h0 hi hρ => ⟨by simp [DVs.av, DV.av, BR.av, hρ], spec_RingMatrix_fn v10 F' (by rw [hi]; rfl) (st_nil hi) ⟨bslc_ok hi (by rw [h0, hρ]; exact rowF32_ok hs (DVs.okAt ha 0 rfl) hv10), trivial⟩ hy⟩) rfl rfl
  · cases hr
/-! impl.length[float32] -/
noncomputable def impl_lengthF_LO (v80 : List Nat) : LOr := fun id e L =>
  match id with
  | _ => .fail
noncomputable def impl_lengthF_tab : List (FuncId × DFn × Bool) := []
theorem impl_lengthF_hO : OrcOk Try.prog (tabD impl_lengthF_tab) (tabM impl_lengthF_tab) := tabD_nil _
noncomputable def impl_lengthF_T (v80 : List Nat) : Tree (Int) :=
  .leaf ((v80.length : Nat) : Int)

noncomputable def impl_lengthF_g (v80 : List Nat) : Option (Int) := (impl_lengthF_T v80).run
def impl_lengthF_enc (v80 : List Nat) (y : Int) : Rs := (.int .i64 y, [])
theorem impl_lengthF_den (v80 : List Nat) : (den TT (tabD impl_lengthF_tab) (tabM impl_lengthF_tab) (impl_lengthF_LO v80) (codeOf Try.f57) ([.bslc (BR.root 0) (.f32 v80)] ++ List.replicate (Try.f57.ntmps - ([.bslc (BR.root 0) (.f32 v80)] : List DV).length) .undef) []).bind (retD TT Try.f57.results.toList 0) = (impl_lengthF_T v80).bind fun y => .leaf (impl_lengthF_enc v80 y) := by kernel_rfl
theorem impl_lengthF_fn (v80 : List Nat) (F : Fr) (hm : F.ids.length = 0) (h0 : St F [] F.H0) (hA : DVs.Ok F [] [.bslc (BR.root 0) (.f32 v80)]) {y : Int} (hy : impl_lengthF_g v80 = some y) : ∃ H', FnOk Try.prog 57 (DVs.av F [.bslc (BR.root 0) (.f32 v80)]) F.H0 ((impl_lengthF_enc v80 y).1.av F) H' ∧ St F (impl_lengthF_enc v80 y).2 H' ∧ (impl_lengthF_enc v80 y).1.Ok F (impl_lengthF_enc v80 y).2 :=
  fn_fin tok impl_lengthF_hO mixed Try.func57 Try.call57 (by kernel_rfl) (LoopsOk_eq (l := []) (by kernel_rfl) trivial) (impl_lengthF_den v80) hy hm h0 hA
def impl_lengthF_v (v80 : List Nat) : Int :=
  ((v80.length : Nat) : Int)
theorem impl_lengthF_tot (v80 : List Nat) : impl_lengthF_g v80 = some (impl_lengthF_v v80) := by
  unfold impl_lengthF_g impl_lengthF_T impl_lengthF_v
  simp only [Tree.run]
  repeat' (first | rfl | split)
noncomputable def impl_lengthF_F : DFn := fun args L =>
  match args with
  | [a1] =>
    optT (rowF32 L a1) fun v80 =>
    .leaf (.int .i64 (impl_lengthF_v v80), L)
  | _ => .fail
theorem impl_lengthF_Fok : COk Try.prog 57 impl_lengthF_F true := by
  intro F L H args r L' hs ha hr
  unfold impl_lengthF_F at hr
  split at hr
  · rename_i a1
    obtain ⟨v80, hv80, hr⟩ := optT_run hr
    have hy := impl_lengthF_tot v80
    generalize impl_lengthF_v v80 = y at hy hr
    simp only [Tree.run, Option.some.injEq, Prod.mk.injEq] at hr
    obtain ⟨rfl, rfl⟩ := hr
    exact call_ok0 hs (fun k => (([a1.av F] : List AV)[k]?).getD .top) [a1] [.bslc (BR.root 0) (.f32 v80)] (fun F' h0 hi hρ => ⟨by simp [DVs.av, DV.av, BR.av, hρ], impl_lengthF_fn v80 F' (by rw [hi]; rfl) (st_nil hi) ⟨bslc_ok hi (by rw [h0, hρ]; exact rowF32_ok hs (DVs.okAt ha 0 rfl) hv80), trivial⟩ hy⟩) rfl
  · cases hr
/-! impl.inRange -/
noncomputable def impl_inRange_LO (v83 : Int) (v84 : Int) (v85 : Int) : LOr := fun id e L =>
  match id with
  | _ => .fail
noncomputable def impl_inRange_tab : List (FuncId × DFn × Bool) := []
theorem impl_inRange_hO : OrcOk Try.prog (tabD impl_inRange_tab) (tabM impl_inRange_tab) := tabD_nil _
noncomputable def impl_inRange_T (v83 : Int) (v84 : Int) (v85 : Int) : Tree (Bool) :=
  (.br (decide (v84 ≤ v83)) (
   .leaf (decide (v83 ≤ v85))
  ) (
   .leaf false
  ))

noncomputable def impl_inRange_g (v83 : Int) (v84 : Int) (v85 : Int) : Option (Bool) := (impl_inRange_T v83 v84 v85).run
def impl_inRange_enc (v83 : Int) (v84 : Int) (v85 : Int) (y : Bool) : Rs := (.bool y, [])
theorem impl_inRange_den (v83 : Int) (v84 : Int) (v85 : Int) : (den TT (tabD impl_inRange_tab) (tabM impl_inRange_tab) (impl_inRange_LO v83 v84 v85) (codeOf Try.f63) ([.int .i64 v83, .int .i64 v84, .int .i64 v85] ++ List.replicate (Try.f63.ntmps - ([.int .i64 v83, .int .i64 v84, .int .i64 v85] : List DV).length) .undef) []).bind (retD TT Try.f63.results.toList 0) = (impl_inRange_T v83 v84 v85).bind fun y => .leaf (impl_inRange_enc v83 v84 v85 y) := by kernel_rfl
theorem impl_inRange_fn (v83 : Int) (v84 : Int) (v85 : Int) (F : Fr) (hm : F.ids.length = 0) (h0 : St F [] F.H0) (hA : DVs.Ok F [] [.int .i64 v83, .int .i64 v84, .int .i64 v85]) {y : Bool} (hy : impl_inRange_g v83 v84 v85 = some y) : ∃ H', FnOk Try.prog 63 (DVs.av F [.int .i64 v83, .int .i64 v84, .int .i64 v85]) F.H0 ((impl_inRange_enc v83 v84 v85 y).1.av F) H' ∧ St F (impl_inRange_enc v83 v84 v85 y).2 H' ∧ (impl_inRange_enc v83 v84 v85 y).1.Ok F (impl_inRange_enc v83 v84 v85 y).2 :=
  fn_fin tok impl_inRange_hO mixed Try.func63 Try.call63 (by kernel_rfl) (LoopsOk_eq (l := []) (by kernel_rfl) trivial) (impl_inRange_den v83 v84 v85) hy hm h0 hA
def impl_inRange_v (v83 : Int) (v84 : Int) (v85 : Int) : Bool :=
  if (decide (v84 ≤ v83)) = true then (
   decide (v83 ≤ v85)
  ) else (
   false
  )
theorem impl_inRange_tot (v83 : Int) (v84 : Int) (v85 : Int) : impl_inRange_g v83 v84 v85 = some (impl_inRange_v v83 v84 v85) := by
  unfold impl_inRange_g impl_inRange_T impl_inRange_v
  simp only [Tree.run]
  repeat' (first | rfl | split)
noncomputable def impl_inRange_F : DFn := fun args L =>
  match args with
  | [.int .i64 v83, .int .i64 v84, .int .i64 v85] =>
    .leaf (.bool (impl_inRange_v v83 v84 v85), L)
  | _ => .fail
theorem impl_inRange_Fok : COk Try.prog 63 impl_inRange_F true := by
  intro F L H args r L' hs ha hr
  unfold impl_inRange_F at hr
  split at hr
  · rename_i v83 v84 v85
    have hy := impl_inRange_tot v83 v84 v85
    generalize impl_inRange_v v83 v84 v85 = y at hy hr
    simp only [Tree.run, Option.some.injEq, Prod.mk.injEq] at hr
    obtain ⟨rfl, rfl⟩ := hr
    exact call_ok0 hs (fun k => (([] : List AV)[k]?).getD .top) [.int .i64 v83, .int .i64 v84, .int .i64 v85] [.int .i64 v83, .int .i64 v84, .int .i64 v85] (fun F' h0 hi hρ => ⟨by simp [DVs.av, DV.av, BR.av, hρ], impl_inRange_fn v83 v84 v85 F' (by rw [hi]; rfl) (st_nil hi) ⟨trivial, trivial, trivial, trivial⟩ hy⟩) rfl
  · cases hr
/-! math.IsNaN -/
noncomputable def math_IsNaN_LO (v93 : Nat) : LOr := fun id e L =>
  match id with
  | _ => .fail
noncomputable def math_IsNaN_tab : List (FuncId × DFn × Bool) := []
theorem math_IsNaN_hO : OrcOk Try.prog (tabD math_IsNaN_tab) (tabM math_IsNaN_tab) := tabD_nil _
noncomputable def math_IsNaN_T (v93 : Nat) : Tree (Bool) :=
  .leaf (!feq .f64 v93 v93)

noncomputable def math_IsNaN_g (v93 : Nat) : Option (Bool) := (math_IsNaN_T v93).run
def math_IsNaN_enc (v93 : Nat) (y : Bool) : Rs := (.bool y, [])
theorem math_IsNaN_den (v93 : Nat) : (den TT (tabD math_IsNaN_tab) (tabM math_IsNaN_tab) (math_IsNaN_LO v93) (codeOf Try.f73) ([.flt .f64 v93] ++ List.replicate (Try.f73.ntmps - ([.flt .f64 v93] : List DV).length) .undef) []).bind (retD TT Try.f73.results.toList 0) = (math_IsNaN_T v93).bind fun y => .leaf (math_IsNaN_enc v93 y) := by kernel_rfl
theorem math_IsNaN_fn (v93 : Nat) (F : Fr) (hm : F.ids.length = 0) (h0 : St F [] F.H0) (hA : DVs.Ok F [] [.flt .f64 v93]) {y : Bool} (hy : math_IsNaN_g v93 = some y) : ∃ H', FnOk Try.prog 73 (DVs.av F [.flt .f64 v93]) F.H0 ((math_IsNaN_enc v93 y).1.av F) H' ∧ St F (math_IsNaN_enc v93 y).2 H' ∧ (math_IsNaN_enc v93 y).1.Ok F (math_IsNaN_enc v93 y).2 :=
  fn_fin tok math_IsNaN_hO mixed Try.func73 Try.call73 (by kernel_rfl) (LoopsOk_eq (l := []) (by kernel_rfl) trivial) (math_IsNaN_den v93) hy hm h0 hA
def math_IsNaN_v (v93 : Nat) : Bool :=
  !feq .f64 v93 v93
theorem math_IsNaN_tot (v93 : Nat) : math_IsNaN_g v93 = some (math_IsNaN_v v93) := by
  unfold math_IsNaN_g math_IsNaN_T math_IsNaN_v
  simp only [Tree.run]
  repeat' (first | rfl | split)
noncomputable def math_IsNaN_F : DFn := fun args L =>
  match args with
  | [.flt .f64 v93] =>
    .leaf (.bool (math_IsNaN_v v93), L)
  | _ => .fail
theorem math_IsNaN_Fok : COk Try.prog 73 math_IsNaN_F true := by
  intro F L H args r L' hs ha hr
  unfold math_IsNaN_F at hr
  split at hr
  · rename_i v93
    have hy := math_IsNaN_tot v93
    generalize math_IsNaN_v v93 = y at hy hr
    simp only [Tree.run, Option.some.injEq, Prod.mk.injEq] at hr
    obtain ⟨rfl, rfl⟩ := hr
    exact call_ok0 hs (fun k => (([] : List AV)[k]?).getD .top) [.flt .f64 v93] [.flt .f64 v93] (fun F' h0 hi hρ => ⟨by simp [DVs.av, DV.av, BR.av, hρ], math_IsNaN_fn v93 F' (by rw [hi]; rfl) (st_nil hi) ⟨trivial, trivial⟩ hy⟩) rfl
  · cases hr
/-! math.IsInf -/
noncomputable def math_IsInf_LO (v94 : Nat) (v95 : Int) : LOr := fun id e L =>
  match id with
  | _ => .fail
noncomputable def math_IsInf_tab : List (FuncId × DFn × Bool) := [(77, Abs_F, true)]
theorem math_IsInf_hO : OrcOk Try.prog (tabD math_IsInf_tab) (tabM math_IsInf_tab) := tabD_cons Abs_Fok (tabD_nil _)
noncomputable def math_IsInf_T (v94 : Nat) (v95 : Int) : Tree (Bool) :=
  (.br (decide (v95 = (0 : Int))) (
   .leaf (fgrt .f64 (fabs v94) (9218868437227405311 : Nat))
  ) (
   (.br (decide (v95 < (0 : Int))) (
    .leaf (fgrt .f64 (fneg .f64 v94) (9218868437227405311 : Nat))
   ) (
    .leaf (fgrt .f64 v94 (9218868437227405311 : Nat))
   ))
  ))

noncomputable def math_IsInf_g (v94 : Nat) (v95 : Int) : Option (Bool) := (math_IsInf_T v94 v95).run
def math_IsInf_enc (v94 : Nat) (v95 : Int) (y : Bool) : Rs := (.bool y, [])
theorem math_IsInf_den (v94 : Nat) (v95 : Int) : (den TT (tabD math_IsInf_tab) (tabM math_IsInf_tab) (math_IsInf_LO v94 v95) (codeOf Try.f74) ([.flt .f64 v94, .int .i64 v95] ++ List.replicate (Try.f74.ntmps - ([.flt .f64 v94, .int .i64 v95] : List DV).length) .undef) []).bind (retD TT Try.f74.results.toList 0) = (math_IsInf_T v94 v95).bind fun y => .leaf (math_IsInf_enc v94 v95 y) := by kernel_rfl
theorem math_IsInf_fn (v94 : Nat) (v95 : Int) (F : Fr) (hm : F.ids.length = 0) (h0 : St F [] F.H0) (hA : DVs.Ok F [] [.flt .f64 v94, .int .i64 v95]) {y : Bool} (hy : math_IsInf_g v94 v95 = some y) : ∃ H', FnOk Try.prog 74 (DVs.av F [.flt .f64 v94, .int .i64 v95]) F.H0 ((math_IsInf_enc v94 v95 y).1.av F) H' ∧ St F (math_IsInf_enc v94 v95 y).2 H' ∧ (math_IsInf_enc v94 v95 y).1.Ok F (math_IsInf_enc v94 v95 y).2 :=
  fn_fin tok math_IsInf_hO mixed Try.func74 Try.call74 (by kernel_rfl) (LoopsOk_eq (l := []) (by kernel_rfl) trivial) (math_IsInf_den v94 v95) hy hm h0 hA
def math_IsInf_v (v94 : Nat) (v95 : Int) : Bool :=
  if (decide (v95 = (0 : Int))) = true then (
   fgrt .f64 (fabs v94) (9218868437227405311 : Nat)
  ) else (
   if (decide (v95 < (0 : Int))) = true then (
    fgrt .f64 (fneg .f64 v94) (9218868437227405311 : Nat)
   ) else (
    fgrt .f64 v94 (9218868437227405311 : Nat)
   )
  )
theorem math_IsInf_tot (v94 : Nat) (v95 : Int) : math_IsInf_g v94 v95 = some (math_IsInf_v v94 v95) := by
  unfold math_IsInf_g math_IsInf_T math_IsInf_v
  simp only [Tree.run]
  repeat' (first | rfl | split)
noncomputable def math_IsInf_F : DFn := fun args L =>
  match args with
  | [.flt .f64 v94, .int .i64 v95] =>
    .leaf (.bool (math_IsInf_v v94 v95), L)
  | _ => .fail
theorem math_IsInf_Fok : COk Try.prog 74 math_IsInf_F true := by
  intro F L H args r L' hs ha hr
  unfold math_IsInf_F at hr
  split at hr
  · rename_i v94 v95
    have hy := math_IsInf_tot v94 v95
    generalize math_IsInf_v v94 v95 = y at hy hr
    simp only [Tree.run, Option.some.injEq, Prod.mk.injEq] at hr
    obtain ⟨rfl, rfl⟩ := hr
    exact call_ok0 hs (fun k => (([] : List AV)[k]?).getD .top) [.flt .f64 v94, .int .i64 v95] [.flt .f64 v94, .int .i64 v95] (fun F' h0 hi hρ => ⟨by simp [DVs.av, DV.av, BR.av, hρ], math_IsInf_fn v94 v95 F' (by rw [hi]; rfl) (st_nil hi) ⟨trivial, trivial, trivial⟩ hy⟩) rfl
  · cases hr
/-! impl.isFinite64 -/
noncomputable def impl_isFinite64_LO (v92 : Nat) : LOr := fun id e L =>
  match id with
  | _ => .fail
noncomputable def impl_isFinite64_tab : List (FuncId × DFn × Bool) := [(73, math_IsNaN_F, true), (74, math_IsInf_F, true)]
theorem impl_isFinite64_hO : OrcOk Try.prog (tabD impl_isFinite64_tab) (tabM impl_isFinite64_tab) := tabD_cons math_IsNaN_Fok (tabD_cons math_IsInf_Fok (tabD_nil _))
noncomputable def impl_isFinite64_T (v92 : Nat) : Tree (Bool) :=
  (.br (!(math_IsNaN_v v92)) (
   .leaf (!(math_IsInf_v v92 (0 : Int)))
  ) (
   .leaf false
  ))

noncomputable def impl_isFinite64_g (v92 : Nat) : Option (Bool) := (impl_isFinite64_T v92).run
def impl_isFinite64_enc (v92 : Nat) (y : Bool) : Rs := (.bool y, [])
theorem impl_isFinite64_den (v92 : Nat) : (den TT (tabD impl_isFinite64_tab) (tabM impl_isFinite64_tab) (impl_isFinite64_LO v92) (codeOf Try.f64) ([.flt .f64 v92] ++ List.replicate (Try.f64.ntmps - ([.flt .f64 v92] : List DV).length) .undef) []).bind (retD TT Try.f64.results.toList 0) = (impl_isFinite64_T v92).bind fun y => .leaf (impl_isFinite64_enc v92 y) := by kernel_rfl
theorem impl_isFinite64_fn (v92 : Nat) (F : Fr) (hm : F.ids.length = 0) (h0 : St F [] F.H0) (hA : DVs.Ok F [] [.flt .f64 v92]) {y : Bool} (hy : impl_isFinite64_g v92 = some y) : ∃ H', FnOk Try.prog 64 (DVs.av F [.flt .f64 v92]) F.H0 ((impl_isFinite64_enc v92 y).1.av F) H' ∧ St F (impl_isFinite64_enc v92 y).2 H' ∧ (impl_isFinite64_enc v92 y).1.Ok F (impl_isFinite64_enc v92 y).2 :=
  fn_fin tok impl_isFinite64_hO mixed Try.func64 Try.call64 (by kernel_rfl) (LoopsOk_eq (l := []) (by kernel_rfl) trivial) (impl_isFinite64_den v92) hy hm h0 hA
def impl_isFinite64_v (v92 : Nat) : Bool :=
  if (!(math_IsNaN_v v92)) = true then (
   !(math_IsInf_v v92 (0 : Int))
  ) else (
   false
  )
theorem impl_isFinite64_tot (v92 : Nat) : impl_isFinite64_g v92 = some (impl_isFinite64_v v92) := by
  unfold impl_isFinite64_g impl_isFinite64_T impl_isFinite64_v
  simp only [Tree.run]
  repeat' (first | rfl | split)
noncomputable def impl_isFinite64_F : DFn := fun args L =>
  match args with
  | [.flt .f64 v92] =>
    .leaf (.bool (impl_isFinite64_v v92), L)
  | _ => .fail
theorem impl_isFinite64_Fok : COk Try.prog 64 impl_isFinite64_F true := by
  intro F L H args r L' hs ha hr
  unfold impl_isFinite64_F at hr
  split at hr
  · rename_i v92
    have hy := impl_isFinite64_tot v92
    generalize impl_isFinite64_v v92 = y at hy hr
    simp only [Tree.run, Option.some.injEq, Prod.mk.injEq] at hr
    obtain ⟨rfl, rfl⟩ := hr
    exact call_ok0 hs (fun k => (([] : List AV)[k]?).getD .top) [.flt .f64 v92] [.flt .f64 v92] (fun F' h0 hi hρ => ⟨by simp [DVs.av, DV.av, BR.av, hρ], impl_isFinite64_fn v92 F' (by rw [hi]; rfl) (st_nil hi) ⟨trivial, trivial⟩ hy⟩) rfl
  · cases hr
/-! impl.IsFinite -/
noncomputable def impl_IsFinite_LO (v91 : Nat) : LOr := fun id e L =>
  match id with
  | _ => .fail
noncomputable def impl_IsFinite_tab : List (FuncId × DFn × Bool) := [(64, impl_isFinite64_F, true)]
theorem impl_IsFinite_hO : OrcOk Try.prog (tabD impl_IsFinite_tab) (tabM impl_IsFinite_tab) := tabD_cons impl_isFinite64_Fok (tabD_nil _)
noncomputable def impl_IsFinite_T (v91 : Nat) : Tree (Bool) :=
  .leaf (impl_isFinite64_v (wid v91))

noncomputable def impl_IsFinite_g (v91 : Nat) : Option (Bool) := (impl_IsFinite_T v91).run
def impl_IsFinite_enc (v91 : Nat) (y : Bool) : Rs := (.bool y, [])
theorem impl_IsFinite_den (v91 : Nat) : (den TT (tabD impl_IsFinite_tab) (tabM impl_IsFinite_tab) (impl_IsFinite_LO v91) (codeOf Try.f39) ([.flt .f32 v91] ++ List.replicate (Try.f39.ntmps - ([.flt .f32 v91] : List DV).length) .undef) []).bind (retD TT Try.f39.results.toList 0) = (impl_IsFinite_T v91).bind fun y => .leaf (impl_IsFinite_enc v91 y) := by kernel_rfl
theorem impl_IsFinite_fn (v91 : Nat) (F : Fr) (hm : F.ids.length = 0) (h0 : St F [] F.H0) (hA : DVs.Ok F [] [.flt .f32 v91]) {y : Bool} (hy : impl_IsFinite_g v91 = some y) : ∃ H', FnOk Try.prog 39 (DVs.av F [.flt .f32 v91]) F.H0 ((impl_IsFinite_enc v91 y).1.av F) H' ∧ St F (impl_IsFinite_enc v91 y).2 H' ∧ (impl_IsFinite_enc v91 y).1.Ok F (impl_IsFinite_enc v91 y).2 :=
  fn_fin tok impl_IsFinite_hO mixed Try.func39 Try.call39 (by kernel_rfl) (LoopsOk_eq (l := []) (by kernel_rfl) trivial) (impl_IsFinite_den v91) hy hm h0 hA
def impl_IsFinite_v (v91 : Nat) : Bool :=
  (impl_isFinite64_v (wid v91))
theorem impl_IsFinite_tot (v91 : Nat) : impl_IsFinite_g v91 = some (impl_IsFinite_v v91) := by
  unfold impl_IsFinite_g impl_IsFinite_T impl_IsFinite_v
  simp only [Tree.run]
  repeat' (first | rfl | split)
noncomputable def impl_IsFinite_F : DFn := fun args L =>
  match args with
  | [.flt .f32 v91] =>
    .leaf (.bool (impl_IsFinite_v v91), L)
  | _ => .fail
theorem impl_IsFinite_Fok : COk Try.prog 39 impl_IsFinite_F true := by
  intro F L H args r L' hs ha hr
  unfold impl_IsFinite_F at hr
  split at hr
  · rename_i v91
    have hy := impl_IsFinite_tot v91
    generalize impl_IsFinite_v v91 = y at hy hr
    simp only [Tree.run, Option.some.injEq, Prod.mk.injEq] at hr
    obtain ⟨rfl, rfl⟩ := hr
    exact call_ok0 hs (fun k => (([] : List AV)[k]?).getD .top) [.flt .f32 v91] [.flt .f32 v91] (fun F' h0 hi hρ => ⟨by simp [DVs.av, DV.av, BR.av, hρ], impl_IsFinite_fn v91 F' (by rw [hi]; rfl) (st_nil hi) ⟨trivial, trivial⟩ hy⟩) rfl
  · cases hr
/-! impl.areFinite$1 -/
noncomputable def impl_areFinite_1_LO (v90 : Nat) : LOr := fun id e L =>
  match id with
  | _ => .fail
noncomputable def impl_areFinite_1_tab : List (FuncId × DFn × Bool) := [(39, impl_IsFinite_F, true)]
theorem impl_areFinite_1_hO : OrcOk Try.prog (tabD impl_areFinite_1_tab) (tabM impl_areFinite_1_tab) := tabD_cons impl_IsFinite_Fok (tabD_nil _)
noncomputable def impl_areFinite_1_T (v90 : Nat) : Tree (Bool) :=
  .leaf (!(impl_IsFinite_v v90))

noncomputable def impl_areFinite_1_g (v90 : Nat) : Option (Bool) := (impl_areFinite_1_T v90).run
def impl_areFinite_1_enc (v90 : Nat) (y : Bool) : Rs := (.bool y, [])
theorem impl_areFinite_1_den (v90 : Nat) : (den TT (tabD impl_areFinite_1_tab) (tabM impl_areFinite_1_tab) (impl_areFinite_1_LO v90) (codeOf Try.f66) ([.flt .f32 v90] ++ List.replicate (Try.f66.ntmps - ([.flt .f32 v90] : List DV).length) .undef) []).bind (retD TT Try.f66.results.toList 0) = (impl_areFinite_1_T v90).bind fun y => .leaf (impl_areFinite_1_enc v90 y) := by kernel_rfl
theorem impl_areFinite_1_fn (v90 : Nat) (F : Fr) (hm : F.ids.length = 0) (h0 : St F [] F.H0) (hA : DVs.Ok F [] [.flt .f32 v90]) {y : Bool} (hy : impl_areFinite_1_g v90 = some y) : ∃ H', FnOk Try.prog 66 (DVs.av F [.flt .f32 v90]) F.H0 ((impl_areFinite_1_enc v90 y).1.av F) H' ∧ St F (impl_areFinite_1_enc v90 y).2 H' ∧ (impl_areFinite_1_enc v90 y).1.Ok F (impl_areFinite_1_enc v90 y).2 :=
  fn_fin tok impl_areFinite_1_hO mixed Try.func66 Try.call66 (by kernel_rfl) (LoopsOk_eq (l := []) (by kernel_rfl) trivial) (impl_areFinite_1_den v90) hy hm h0 hA
def impl_areFinite_1_v (v90 : Nat) : Bool :=
  !(impl_IsFinite_v v90)
theorem impl_areFinite_1_tot (v90 : Nat) : impl_areFinite_1_g v90 = some (impl_areFinite_1_v v90) := by
  unfold impl_areFinite_1_g impl_areFinite_1_T impl_areFinite_1_v
  simp only [Tree.run]
  repeat' (first | rfl | split)
noncomputable def impl_areFinite_1_F : DFn := fun args L =>
  match args with
  | [.flt .f32 v90] =>
    .leaf (.bool (impl_areFinite_1_v v90), L)
  | _ => .fail
theorem impl_areFinite_1_Fok : COk Try.prog 66 impl_areFinite_1_F true := by
  intro F L H args r L' hs ha hr
  unfold impl_areFinite_1_F at hr
  split at hr
  · rename_i v90
    have hy := impl_areFinite_1_tot v90
    generalize impl_areFinite_1_v v90 = y at hy hr
    simp only [Tree.run, Option.some.injEq, Prod.mk.injEq] at hr
    obtain ⟨rfl, rfl⟩ := hr
    exact call_ok0 hs (fun k => (([] : List AV)[k]?).getD .top) [.flt .f32 v90] [.flt .f32 v90] (fun F' h0 hi hρ => ⟨by simp [DVs.av, DV.av, BR.av, hρ], impl_areFinite_1_fn v90 F' (by rw [hi]; rfl) (st_nil hi) ⟨trivial, trivial⟩ hy⟩) rfl
  · cases hr
/-! slices.IndexFunc[list of float32,float32] -/
noncomputable def slices_IndexFuncF_l0_T (v88 : List Nat) (s : Int) : Tree ((Int) ⊕ ((Int) ⊕ (Unit))) :=
  (.br (decide (s < ((v88.length : Nat) : Int))) (
   (.grd (inb s v88.length) <|
   (.br (impl_areFinite_1_v (nth v88 (Int.toNat s))) (
    .leaf (.inr (.inl s))
   ) (
    .leaf (.inl (IntKind.i64.wrap (s + (1 : Int))))
   )))
  ) (
   .leaf (.inr (.inr ()))
  ))

noncomputable def slices_IndexFuncF_l0_g (v88 : List Nat) (s0 : Int) : Option ((Int) ⊕ (Unit)) := whileM (fun s => (slices_IndexFuncF_l0_T v88 s).run) s0
def slices_IndexFuncF_l0_E (v88 : List Nat) (s : Int) : Sd := ([.bslc (BR.root 0) (.f32 v88), .fn 66 [], .top, .top, .top, .top, .top, .int .i64 ((v88.length : Nat) : Int), .int .i64 s, .top, .top, .top, .top, .top, .top, .top, .top, .top, .top], [])
def slices_IndexFuncF_l0_X (v88 : List Nat) (x : (Int) ⊕ (Unit)) : Out := (match x with | .inl x => (.ret, [.top, .top, .top, .top, .int .i64 x, .top, .top, .top, .top, .top, .top, .top, .top, .top, .top, .top, .top, .top, .top], []) | .inr x => (.normal, [.top, .top, .top, .top, .top, .top, .top, .top, .top, .top, .top, .top, .top, .top, .top, .top, .top, .top, .top], []))
def slices_IndexFuncF_l0_kill : List Nat := [0, 0, 1, 1, 1, 1, 1, 0, 0, 1, 1, 1, 1, 1, 1, 1, 1, 1, 1]
def slices_IndexFuncF_l0_nx : Exit → List Nat
  | .exit 0 => [1, 1, 1, 1, 1, 1, 1, 1, 1, 1, 1, 1, 1, 1, 1, 1, 1, 1, 1]
  | .ret => [1, 1, 1, 1, 0, 1, 1, 1, 1, 1, 1, 1, 1, 1, 1, 1, 1, 1, 1]
  | _ => []
noncomputable def slices_IndexFuncF_LO (v88 : List Nat) : LOr := fun id e L =>
  match id with
  | 0 => .need (normA 0 slices_IndexFuncF_l0_kill e L = some (slices_IndexFuncF_l0_E v88 (gI (vAt e 8)))) (.call (slices_IndexFuncF_l0_g v88 (gI (vAt e 8))) fun x => .sum x (fun b0 => .leaf (slices_IndexFuncF_l0_X v88 (.inl b0))) (fun c0 => .leaf (slices_IndexFuncF_l0_X v88 (.inr c0))))
  | _ => .fail
noncomputable def slices_IndexFuncF_tab : List (FuncId × DFn × Bool) := [(66, impl_areFinite_1_F, true)]
theorem slices_IndexFuncF_hO : OrcOk Try.prog (tabD slices_IndexFuncF_tab) (tabM slices_IndexFuncF_tab) := tabD_cons impl_areFinite_1_Fok (tabD_nil _)
theorem slices_IndexFuncF_l0_be (v88 : List Nat) (s : Int) : bodyT TT (tabD slices_IndexFuncF_tab) (tabM slices_IndexFuncF_tab) (slices_IndexFuncF_LO v88) 0 slices_IndexFuncF_l0_kill slices_IndexFuncF_l0_nx (bodyOf Try.f75 0) 0 (slices_IndexFuncF_l0_E v88 s) = (slices_IndexFuncF_l0_T v88 s).bind fun y => .leaf (outS (slices_IndexFuncF_l0_E v88) (slices_IndexFuncF_l0_X v88) y) := by kernel_rfl
theorem slices_IndexFuncF_l0_ok (v88 : List Nat) : LSound Try.prog 0 (slices_IndexFuncF_LO v88) 0 (bodyOf Try.f75 0) := by
  intro e L out h
  exact lo_ok (E := slices_IndexFuncF_l0_E v88) (gT := slices_IndexFuncF_l0_T v88) (X := slices_IndexFuncF_l0_X v88) (s0 := (gI (vAt e 8))) tok slices_IndexFuncF_hO mixed (LoopsOk_eq (l := []) (by kernel_rfl) trivial) (slices_IndexFuncF_l0_be v88) rfl (by intro x; (cases x with | inl b => rfl | inr x => exact rfl)) h
noncomputable def slices_IndexFuncF_T (v88 : List Nat) : Tree (Int) :=
  (.need (some (slices_IndexFuncF_l0_E v88 (0 : Int)) = some (slices_IndexFuncF_l0_E v88 (0 : Int))) <|
  (.call (slices_IndexFuncF_l0_g v88 (0 : Int)) fun v98 =>
  (.sum v98 (fun v99 =>
   .leaf v99
  ) (fun v100 =>
   .leaf (-1 : Int)
  ))))

noncomputable def slices_IndexFuncF_g (v88 : List Nat) : Option (Int) := (slices_IndexFuncF_T v88).run
def slices_IndexFuncF_enc (v88 : List Nat) (y : Int) : Rs := (.int .i64 y, [])
theorem slices_IndexFuncF_den (v88 : List Nat) : (den TT (tabD slices_IndexFuncF_tab) (tabM slices_IndexFuncF_tab) (slices_IndexFuncF_LO v88) (codeOf Try.f75) ([.bslc (BR.root 0) (.f32 v88), .fn 66 []] ++ List.replicate (Try.f75.ntmps - ([.bslc (BR.root 0) (.f32 v88), .fn 66 []] : List DV).length) .undef) []).bind (retD TT Try.f75.results.toList 0) = (slices_IndexFuncF_T v88).bind fun y => .leaf (slices_IndexFuncF_enc v88 y) := by kernel_rfl
theorem slices_IndexFuncF_fn (v88 : List Nat) (F : Fr) (hm : F.ids.length = 0) (h0 : St F [] F.H0) (hA : DVs.Ok F [] [.bslc (BR.root 0) (.f32 v88), .fn 66 []]) {y : Int} (hy : slices_IndexFuncF_g v88 = some y) : ∃ H', FnOk Try.prog 75 (DVs.av F [.bslc (BR.root 0) (.f32 v88), .fn 66 []]) F.H0 ((slices_IndexFuncF_enc v88 y).1.av F) H' ∧ St F (slices_IndexFuncF_enc v88 y).2 H' ∧ (slices_IndexFuncF_enc v88 y).1.Ok F (slices_IndexFuncF_enc v88 y).2 :=
  fn_fin tok slices_IndexFuncF_hO mixed Try.func75 Try.call75 (by kernel_rfl) (LoopsOk_eq (l := [(0, bodyOf Try.f75 0)]) (by kernel_rfl) ⟨slices_IndexFuncF_l0_ok v88, trivial⟩) (slices_IndexFuncF_den v88) hy hm h0 hA
noncomputable def slices_IndexFuncF_F : DFn := fun args L =>
  match args with
  | [a1, .fn 66 []] =>
    optT (rowF32 L a1) fun v88 =>
    .call (slices_IndexFuncF_g v88) fun y => .leaf (.int .i64 y, L)
  | _ => .fail
theorem slices_IndexFuncF_Fok : COk Try.prog 75 slices_IndexFuncF_F true := by
  intro F L H args r L' hs ha hr
  unfold slices_IndexFuncF_F at hr
  split at hr
  · rename_i a1
    obtain ⟨v88, hv88, hr⟩ := optT_run hr
    simp only [Tree.run] at hr
    obtain ⟨y, hy, hr⟩ := Option.bind_eq_some_iff.1 hr
    simp only [Tree.run, Option.some.injEq, Prod.mk.injEq] at hr
    obtain ⟨rfl, rfl⟩ := hr
    exact call_ok0 hs (fun k => (([a1.av F] : List AV)[k]?).getD .top) [a1, .fn 66 []] [.bslc (BR.root 0) (.f32 v88), .fn 66 []] (fun F' h0 hi hρ => ⟨by simp [DVs.av, DV.av, BR.av, hρ], slices_IndexFuncF_fn v88 F' (by rw [hi]; rfl) (st_nil hi) ⟨bslc_ok hi (by rw [h0, hρ]; exact rowF32_ok hs (DVs.okAt ha 0 rfl) hv88), trivial, trivial⟩ hy⟩) rfl
  · cases hr
/-! slices.ContainsFunc[list of float32,float32] -/
noncomputable def slices_ContainsFuncF_LO (v87 : List Nat) : LOr := fun id e L =>
  match id with
  | _ => .fail
noncomputable def slices_ContainsFuncF_tab : List (FuncId × DFn × Bool) := [(75, slices_IndexFuncF_F, true)]
theorem slices_ContainsFuncF_hO : OrcOk Try.prog (tabD slices_ContainsFuncF_tab) (tabM slices_ContainsFuncF_tab) := tabD_cons slices_IndexFuncF_Fok (tabD_nil _)
noncomputable def slices_ContainsFuncF_T (v87 : List Nat) : Tree (Bool) :=
  (.call (slices_IndexFuncF_g v87) fun v101 =>
  .leaf (decide ((0 : Int) ≤ v101)))

noncomputable def slices_ContainsFuncF_g (v87 : List Nat) : Option (Bool) := (slices_ContainsFuncF_T v87).run
def slices_ContainsFuncF_enc (v87 : List Nat) (y : Bool) : Rs := (.bool y, [])
theorem slices_ContainsFuncF_den (v87 : List Nat) : (den TT (tabD slices_ContainsFuncF_tab) (tabM slices_ContainsFuncF_tab) (slices_ContainsFuncF_LO v87) (codeOf Try.f65) ([.bslc (BR.root 0) (.f32 v87), .fn 66 []] ++ List.replicate (Try.f65.ntmps - ([.bslc (BR.root 0) (.f32 v87), .fn 66 []] : List DV).length) .undef) []).bind (retD TT Try.f65.results.toList 0) = (slices_ContainsFuncF_T v87).bind fun y => .leaf (slices_ContainsFuncF_enc v87 y) := by kernel_rfl
theorem slices_ContainsFuncF_fn (v87 : List Nat) (F : Fr) (hm : F.ids.length = 0) (h0 : St F [] F.H0) (hA : DVs.Ok F [] [.bslc (BR.root 0) (.f32 v87), .fn 66 []]) {y : Bool} (hy : slices_ContainsFuncF_g v87 = some y) : ∃ H', FnOk Try.prog 65 (DVs.av F [.bslc (BR.root 0) (.f32 v87), .fn 66 []]) F.H0 ((slices_ContainsFuncF_enc v87 y).1.av F) H' ∧ St F (slices_ContainsFuncF_enc v87 y).2 H' ∧ (slices_ContainsFuncF_enc v87 y).1.Ok F (slices_ContainsFuncF_enc v87 y).2 :=
  fn_fin tok slices_ContainsFuncF_hO mixed Try.func65 Try.call65 (by kernel_rfl) (LoopsOk_eq (l := []) (by kernel_rfl) trivial) (slices_ContainsFuncF_den v87) hy hm h0 hA
noncomputable def slices_ContainsFuncF_F : DFn := fun args L =>
  match args with
  | [a1, .fn 66 []] =>
    optT (rowF32 L a1) fun v87 =>
    .call (slices_ContainsFuncF_g v87) fun y => .leaf (.bool y, L)
  | _ => .fail
theorem slices_ContainsFuncF_Fok : COk Try.prog 65 slices_ContainsFuncF_F true := by
  intro F L H args r L' hs ha hr
  unfold slices_ContainsFuncF_F at hr
  split at hr
  · rename_i a1
    obtain ⟨v87, hv87, hr⟩ := optT_run hr
    simp only [Tree.run] at hr
    obtain ⟨y, hy, hr⟩ := Option.bind_eq_some_iff.1 hr
    simp only [Tree.run, Option.some.injEq, Prod.mk.injEq] at hr
    obtain ⟨rfl, rfl⟩ := hr
    exact call_ok0 hs (fun k => (([a1.av F] : List AV)[k]?).getD .top) [a1, .fn 66 []] [.bslc (BR.root 0) (.f32 v87), .fn 66 []] (fun F' h0 hi hρ => ⟨by simp [DVs.av, DV.av, BR.av, hρ], slices_ContainsFuncF_fn v87 F' (by rw [hi]; rfl) (st_nil hi) ⟨bslc_ok hi (by rw [h0, hρ]; exact rowF32_ok hs (DVs.okAt ha 0 rfl) hv87), trivial, trivial⟩ hy⟩) rfl
  · cases hr
/-! impl.areFinite -/
noncomputable def impl_areFinite_LO (v86 : List Nat) : LOr := fun id e L =>
  match id with
  | _ => .fail
noncomputable def impl_areFinite_tab : List (FuncId × DFn × Bool) := [(65, slices_ContainsFuncF_F, true)]
theorem impl_areFinite_hO : OrcOk Try.prog (tabD impl_areFinite_tab) (tabM impl_areFinite_tab) := tabD_cons slices_ContainsFuncF_Fok (tabD_nil _)
noncomputable def impl_areFinite_T (v86 : List Nat) : Tree (Bool) :=
  (.call (slices_ContainsFuncF_g v86) fun v102 =>
  .leaf (!v102))

noncomputable def impl_areFinite_g (v86 : List Nat) : Option (Bool) := (impl_areFinite_T v86).run
def impl_areFinite_enc (v86 : List Nat) (y : Bool) : Rs := (.bool y, [])
theorem impl_areFinite_den (v86 : List Nat) : (den TT (tabD impl_areFinite_tab) (tabM impl_areFinite_tab) (impl_areFinite_LO v86) (codeOf Try.f44) ([.bslc (BR.root 0) (.f32 v86)] ++ List.replicate (Try.f44.ntmps - ([.bslc (BR.root 0) (.f32 v86)] : List DV).length) .undef) []).bind (retD TT Try.f44.results.toList 0) = (impl_areFinite_T v86).bind fun y => .leaf (impl_areFinite_enc v86 y) := by kernel_rfl
theorem impl_areFinite_fn (v86 : List Nat) (F : Fr) (hm : F.ids.length = 0) (h0 : St F [] F.H0) (hA : DVs.Ok F [] [.bslc (BR.root 0) (.f32 v86)]) {y : Bool} (hy : impl_areFinite_g v86 = some y) : ∃ H', FnOk Try.prog 44 (DVs.av F [.bslc (BR.root 0) (.f32 v86)]) F.H0 ((impl_areFinite_enc v86 y).1.av F) H' ∧ St F (impl_areFinite_enc v86 y).2 H' ∧ (impl_areFinite_enc v86 y).1.Ok F (impl_areFinite_enc v86 y).2 :=
  fn_fin tok impl_areFinite_hO mixed Try.func44 Try.call44 (by kernel_rfl) (LoopsOk_eq (l := []) (by kernel_rfl) trivial) (impl_areFinite_den v86) hy hm h0 hA
noncomputable def impl_areFinite_F : DFn := fun args L =>
  match args with
  | [a1] =>
    optT (rowF32 L a1) fun v86 =>
    .call (impl_areFinite_g v86) fun y => .leaf (.bool y, L)
  | _ => .fail
theorem impl_areFinite_Fok : COk Try.prog 44 impl_areFinite_F true := by
  intro F L H args r L' hs ha hr
  unfold impl_areFinite_F at hr
  split at hr
  · rename_i a1
    obtain ⟨v86, hv86, hr⟩ := optT_run hr
    simp only [Tree.run] at hr
    obtain ⟨y, hy, hr⟩ := Option.bind_eq_some_iff.1 hr
    simp only [Tree.run, Option.some.injEq, Prod.mk.injEq] at hr
    obtain ⟨rfl, rfl⟩ := hr
    exact call_ok0 hs (fun k => (([a1.av F] : List AV)[k]?).getD .top) [a1] [.bslc (BR.root 0) (.f32 v86)] (fun F' h0 hi hρ => ⟨by simp [DVs.av, DV.av, BR.av, hρ], impl_areFinite_fn v86 F' (by rw [hi]; rfl) (st_nil hi) ⟨bslc_ok hi (by rw [h0, hρ]; exact rowF32_ok hs (DVs.okAt ha 0 rfl) hv86), trivial⟩ hy⟩) rfl
  · cases hr
/-! impl.isList -/
noncomputable def impl_isList_LO (v81 : List Nat) (v82 : Int) : LOr := fun id e L =>
  match id with
  | _ => .fail
noncomputable def impl_isList_tab : List (FuncId × DFn × Bool) := [(57, impl_lengthF_F, true), (63, impl_inRange_F, true), (44, impl_areFinite_F, true)]
theorem impl_isList_hO : OrcOk Try.prog (tabD impl_isList_tab) (tabM impl_isList_tab) := tabD_cons impl_lengthF_Fok (tabD_cons impl_inRange_Fok (tabD_cons impl_areFinite_Fok (tabD_nil _)))
noncomputable def impl_isList_T (v81 : List Nat) (v82 : Int) : Tree (Bool) :=
  (.br (impl_inRange_v (impl_lengthF_v v81) (1 : Int) v82) (
   (.call (impl_areFinite_g v81) fun v103 =>
   .leaf v103)
  ) (
   .leaf false
  ))

noncomputable def impl_isList_g (v81 : List Nat) (v82 : Int) : Option (Bool) := (impl_isList_T v81 v82).run
def impl_isList_enc (v81 : List Nat) (v82 : Int) (y : Bool) : Rs := (.bool y, [])
theorem impl_isList_den (v81 : List Nat) (v82 : Int) : (den TT (tabD impl_isList_tab) (tabM impl_isList_tab) (impl_isList_LO v81 v82) (codeOf Try.f38) ([.bslc (BR.root 0) (.f32 v81), .int .i64 v82] ++ List.replicate (Try.f38.ntmps - ([.bslc (BR.root 0) (.f32 v81), .int .i64 v82] : List DV).length) .undef) []).bind (retD TT Try.f38.results.toList 0) = (impl_isList_T v81 v82).bind fun y => .leaf (impl_isList_enc v81 v82 y) := by kernel_rfl
theorem impl_isList_fn (v81 : List Nat) (v82 : Int) (F : Fr) (hm : F.ids.length = 0) (h0 : St F [] F.H0) (hA : DVs.Ok F [] [.bslc (BR.root 0) (.f32 v81), .int .i64 v82]) {y : Bool} (hy : impl_isList_g v81 v82 = some y) : ∃ H', FnOk Try.prog 38 (DVs.av F [.bslc (BR.root 0) (.f32 v81), .int .i64 v82]) F.H0 ((impl_isList_enc v81 v82 y).1.av F) H' ∧ St F (impl_isList_enc v81 v82 y).2 H' ∧ (impl_isList_enc v81 v82 y).1.Ok F (impl_isList_enc v81 v82 y).2 :=
  fn_fin tok impl_isList_hO mixed Try.func38 Try.call38 (by kernel_rfl) (LoopsOk_eq (l := []) (by kernel_rfl) trivial) (impl_isList_den v81 v82) hy hm h0 hA
noncomputable def impl_isList_F : DFn := fun args L =>
  match args with
  | [a1, .int .i64 v82] =>
    optT (rowF32 L a1) fun v81 =>
    .call (impl_isList_g v81 v82) fun y => .leaf (.bool y, L)
  | _ => .fail
theorem impl_isList_Fok : COk Try.prog 38 impl_isList_F true := by
  intro F L H args r L' hs ha hr
  unfold impl_isList_F at hr
  split at hr
  · rename_i a1 v82
    obtain ⟨v81, hv81, hr⟩ := optT_run hr
    simp only [Tree.run] at hr
    obtain ⟨y, hy, hr⟩ := Option.bind_eq_some_iff.1 hr
    simp only [Tree.run, Option.some.injEq, Prod.mk.injEq] at hr
    obtain ⟨rfl, rfl⟩ := hr
    exact call_ok0 hs (fun k => (([a1.av F] : List AV)[k]?).getD .top) [a1, .int .i64 v82] [.bslc (BR.root 0) (.f32 v81), .int .i64 v82] (fun F' h0 hi hρ => ⟨by simp [DVs.av, DV.av, BR.av, hρ], impl_isList_fn v81 v82 F' (by rw [hi]; rfl) (st_nil hi) ⟨bslc_ok hi (by rw [h0, hρ]; exact rowF32_ok hs (DVs.okAt ha 0 rfl) hv81), trivial, trivial⟩ hy⟩) rfl
  · cases hr
/-! impl.newMatrix -/
noncomputable def impl_newMatrix_LO (v109 : Int) (v110 : Int) : LOr := fun id e L =>
  match id with
  | _ => .fail
noncomputable def impl_newMatrix_tab : List (FuncId × DFn × Bool) := []
theorem impl_newMatrix_hO : OrcOk Try.prog (tabD impl_newMatrix_tab) (tabM impl_newMatrix_tab) := tabD_nil _
noncomputable def impl_newMatrix_T (v109 : Int) (v110 : Int) : Tree (Int × Int) :=
  (.need (IntKind.i64.wrap (v109 * v110) = IntKind.i64.wrap (v109 * v110)) <|
  (.grd (inb (IntKind.i64.wrap (v109 * v110)) (maxN + 1)) <|
  .leaf (v109, v110)))

noncomputable def impl_newMatrix_g (v109 : Int) (v110 : Int) : Option (Int × Int) := (impl_newMatrix_T v109 v110).run
def impl_newMatrix_enc (v109 : Int) (v110 : Int) (y : Int × Int) : Rs := (.agg [.int .i64 y.1, .int .i64 y.2, .own 0 0 ((List.replicate (Int.toNat (IntKind.i64.wrap (v109 * v110))) (0 : Nat)).length)], [.row (.f32 (List.replicate (Int.toNat (IntKind.i64.wrap (v109 * v110))) (0 : Nat))) 0])
theorem impl_newMatrix_den (v109 : Int) (v110 : Int) : (den TT (tabD impl_newMatrix_tab) (tabM impl_newMatrix_tab) (impl_newMatrix_LO v109 v110) (codeOf Try.f71) ([.int .i64 v109, .int .i64 v110] ++ List.replicate (Try.f71.ntmps - ([.int .i64 v109, .int .i64 v110] : List DV).length) .undef) []).bind (retD TT Try.f71.results.toList 0) = (impl_newMatrix_T v109 v110).bind fun y => .leaf (impl_newMatrix_enc v109 v110 y) := by kernel_rfl
theorem impl_newMatrix_fn (v109 : Int) (v110 : Int) (F : Fr) (hm : F.ids.length = 0) (h0 : St F [] F.H0) (hA : DVs.Ok F [] [.int .i64 v109, .int .i64 v110]) {y : Int × Int} (hy : impl_newMatrix_g v109 v110 = some y) : ∃ H', FnOk Try.prog 71 (DVs.av F [.int .i64 v109, .int .i64 v110]) F.H0 ((impl_newMatrix_enc v109 v110 y).1.av F) H' ∧ St F (impl_newMatrix_enc v109 v110 y).2 H' ∧ (impl_newMatrix_enc v109 v110 y).1.Ok F (impl_newMatrix_enc v109 v110 y).2 :=
  fn_fin tok impl_newMatrix_hO mixed Try.func71 Try.call71 (by kernel_rfl) (LoopsOk_eq (l := []) (by kernel_rfl) trivial) (impl_newMatrix_den v109 v110) hy hm h0 hA
noncomputable def impl_newMatrix_F : DFn := fun args L =>
  match args with
  | [.int .i64 v109, .int .i64 v110] =>
    .call (impl_newMatrix_g v109 v110) fun y => .leaf (.agg [.int .i64 y.1, .int .i64 y.2, .own (L.length + 0) 0 ((List.replicate (Int.toNat (IntKind.i64.wrap (v109 * v110))) (0 : Nat)).length)], L ++ [.row (.f32 (List.replicate (Int.toNat (IntKind.i64.wrap (v109 * v110))) (0 : Nat))) 0])
  | _ => .fail
theorem impl_newMatrix_Fok : COk Try.prog 71 impl_newMatrix_F true := by
  intro F L H args r L' hs ha hr
  unfold impl_newMatrix_F at hr
  split at hr
  · rename_i v109 v110
    simp only [Tree.run] at hr
    obtain ⟨y, hy, hr⟩ := Option.bind_eq_some_iff.1 hr
    simp only [Tree.run, Option.some.injEq, Prod.mk.injEq] at hr
    obtain ⟨rfl, rfl⟩ := hr
    exact call_ok1 hs (fun k => (([] : List AV)[k]?).getD .top) [.int .i64 v109, .int .i64 v110] [.int .i64 v109, .int .i64 v110] (fun F' h0 hi hρ => ⟨by simp [DVs.av, DV.av, BR.av, hρ], impl_newMatrix_fn v109 v110 F' (by rw [hi]; rfl) (st_nil hi) ⟨trivial, trivial, trivial⟩ hy⟩) rfl rfl
  · cases hr
/-! impl.RingMatrix$1 -/
noncomputable def impl_RingMatrix_1_LO (v119 : Int) (v120 : Int) (v121 : List Nat) (v122 : Int) : LOr := fun id e L =>
  match id with
  | _ => .fail
noncomputable def impl_RingMatrix_1_tab : List (FuncId × DFn × Bool) := []
theorem impl_RingMatrix_1_hO : OrcOk Try.prog (tabD impl_RingMatrix_1_tab) (tabM impl_RingMatrix_1_tab) := tabD_nil _
noncomputable def impl_RingMatrix_1_T (v119 : Int) (v120 : Int) (v121 : List Nat) (v122 : Int) : Tree (Nat) :=
  (.grd (!decide (v122 = 0)) <|
  (.grd (inb (Int.tmod (IntKind.i64.wrap ((IntKind.i64.wrap (v119 - v120)) + v122)) v122) v121.length) <|
  .leaf (nth v121 (Int.toNat (Int.tmod (IntKind.i64.wrap ((IntKind.i64.wrap (v119 - v120)) + v122)) v122)))))

noncomputable def impl_RingMatrix_1_g (v119 : Int) (v120 : Int) (v121 : List Nat) (v122 : Int) : Option (Nat) := (impl_RingMatrix_1_T v119 v120 v121 v122).run
def impl_RingMatrix_1_enc (v119 : Int) (v120 : Int) (v121 : List Nat) (v122 : Int) (y : Nat) : Rs := (.flt .f32 y, [])
theorem impl_RingMatrix_1_den (v119 : Int) (v120 : Int) (v121 : List Nat) (v122 : Int) : (den TT (tabD impl_RingMatrix_1_tab) (tabM impl_RingMatrix_1_tab) (impl_RingMatrix_1_LO v119 v120 v121 v122) (codeOf Try.f59) ([.int .i64 v119, .int .i64 v120, .bptr (BR.root 0) [.bslc (BR.root 1) (.f32 v121)], .bptr (BR.root 2) [.int .i64 v122]] ++ List.replicate (Try.f59.ntmps - ([.int .i64 v119, .int .i64 v120, .bptr (BR.root 0) [.bslc (BR.root 1) (.f32 v121)], .bptr (BR.root 2) [.int .i64 v122]] : List DV).length) .undef) []).bind (retD TT Try.f59.results.toList 0) = (impl_RingMatrix_1_T v119 v120 v121 v122).bind fun y => .leaf (impl_RingMatrix_1_enc v119 v120 v121 v122 y) := by kernel_rfl
theorem impl_RingMatrix_1_fn (v119 : Int) (v120 : Int) (v121 : List Nat) (v122 : Int) (F : Fr) (hm : F.ids.length = 0) (h0 : St F [] F.H0) (hA : DVs.Ok F [] [.int .i64 v119, .int .i64 v120, .bptr (BR.root 0) [.bslc (BR.root 1) (.f32 v121)], .bptr (BR.root 2) [.int .i64 v122]]) {y : Nat} (hy : impl_RingMatrix_1_g v119 v120 v121 v122 = some y) : ∃ H', FnOk Try.prog 59 (DVs.av F [.int .i64 v119, .int .i64 v120, .bptr (BR.root 0) [.bslc (BR.root 1) (.f32 v121)], .bptr (BR.root 2) [.int .i64 v122]]) F.H0 ((impl_RingMatrix_1_enc v119 v120 v121 v122 y).1.av F) H' ∧ St F (impl_RingMatrix_1_enc v119 v120 v121 v122 y).2 H' ∧ (impl_RingMatrix_1_enc v119 v120 v121 v122 y).1.Ok F (impl_RingMatrix_1_enc v119 v120 v121 v122 y).2 :=
  fn_fin tok impl_RingMatrix_1_hO mixed Try.func59 Try.call59 (by kernel_rfl) (LoopsOk_eq (l := []) (by kernel_rfl) trivial) (impl_RingMatrix_1_den v119 v120 v121 v122) hy hm h0 hA
noncomputable def impl_RingMatrix_1_F : DFn := fun args L =>
  match args with
  | [.int .i64 v119, .int .i64 v120, a1, a3] =>
    optT (cellsOf L 1 a1) fun cs0 =>
    (match cs0 with
    | [a2] =>
    optT (rowF32 L a2) fun v121 =>
    optT (cellsOf L 1 a3) fun cs2 =>
    (match cs2 with
    | [.int .i64 v122] =>
    .call (impl_RingMatrix_1_g v119 v120 v121 v122) fun y => .leaf (.flt .f32 y, L)
    | _ => .fail)
    | _ => .fail)
  | _ => .fail
theorem impl_RingMatrix_1_Fok : COk Try.prog 59 impl_RingMatrix_1_F true := by
  intro F L H args r L' hs ha hr
  unfold impl_RingMatrix_1_F at hr
  split at hr
  · rename_i v119 v120 a1 a3
    obtain ⟨cs0, hcp0, hr⟩ := optT_run hr
    split at hr
    · rename_i a2
      obtain ⟨v121, hv121, hr⟩ := optT_run hr
      obtain ⟨cs2, hcp2, hr⟩ := optT_run hr
      split at hr
      · rename_i v122
        simp only [Tree.run] at hr
        obtain ⟨y, hy, hr⟩ := Option.bind_eq_some_iff.1 hr
        simp only [Tree.run, Option.some.injEq, Prod.mk.injEq] at hr
        obtain ⟨rfl, rfl⟩ := hr
        exact call_ok0 hs (fun k => (([a1.av F, a2.av F, a3.av F] : List AV)[k]?).getD .top) [.int .i64 v119, .int .i64 v120, a1, a3] [.int .i64 v119, .int .i64 v120, .bptr (BR.root 0) [.bslc (BR.root 1) (.f32 v121)], .bptr (BR.root 2) [.int .i64 v122]] (fun F' h0 hi hρ => ⟨by simp [DVs.av, DV.av, BR.av, hρ], impl_RingMatrix_1_fn v119 v120 v121 v122 F' (by rw [hi]; rfl) (st_nil hi) ⟨trivial, trivial, bptr_ok hi (by rw [h0]; simpa [DVs.av, DV.av, BR.av, hρ] using (cellsOf_ok hs (DVs.okAt ha 2 rfl) hcp0).1) ⟨bslc_ok hi (by rw [h0, hρ]; exact rowF32_ok hs (DVs.okAt (cellsOf_ok hs (DVs.okAt ha 2 rfl) hcp0).2 0 rfl) hv121), trivial⟩, bptr_ok hi (by rw [h0]; simpa [DVs.av, DV.av, BR.av, hρ] using (cellsOf_ok hs (DVs.okAt ha 3 rfl) hcp2).1) ⟨trivial, trivial⟩, trivial⟩ hy⟩) rfl
      · cases hr
    · cases hr
  · cases hr
/-! (impl.Matrix).set -/
noncomputable def impl_Matrix_set_LO (v130 : Int) (v131 : Int) (v132 : List Nat) (v133 : Int) (v134 : Int) (v135 : Nat) : LOr := fun id e L =>
  match id with
  | _ => .fail
noncomputable def impl_Matrix_set_tab : List (FuncId × DFn × Bool) := []
theorem impl_Matrix_set_hO : OrcOk Try.prog (tabD impl_Matrix_set_tab) (tabM impl_Matrix_set_tab) := tabD_nil _
noncomputable def impl_Matrix_set_T (v131 : Int) (v132 : List Nat) (v133 : Int) (v134 : Int) : Tree (Unit) :=
  (.grd (inb (IntKind.i64.wrap ((IntKind.i64.wrap (v133 * v131)) + v134)) v132.length) <|
  .leaf ())

noncomputable def impl_Matrix_set_g (v131 : Int) (v132 : List Nat) (v133 : Int) (v134 : Int) : Option (Unit) := (impl_Matrix_set_T v131 v132 v133 v134).run
def impl_Matrix_set_enc (v130 : Int) (v131 : Int) (v132 : List Nat) (v133 : Int) (v134 : Int) (v135 : Nat) (y : Unit) : Rs := (.tup [], [.row (.f32 (List.set v132 (Int.toNat (IntKind.i64.wrap ((IntKind.i64.wrap (v133 * v131)) + v134))) v135)) 0])
theorem impl_Matrix_set_den (v130 : Int) (v131 : Int) (v132 : List Nat) (v133 : Int) (v134 : Int) (v135 : Nat) : (den TT (tabD impl_Matrix_set_tab) (tabM impl_Matrix_set_tab) (impl_Matrix_set_LO v130 v131 v132 v133 v134 v135) (codeOf Try.f72) ([.agg [.int .i64 v130, .int .i64 v131, .own 0 0 v132.length], .int .i64 v133, .int .i64 v134, .flt .f32 v135] ++ List.replicate (Try.f72.ntmps - ([.agg [.int .i64 v130, .int .i64 v131, .own 0 0 v132.length], .int .i64 v133, .int .i64 v134, .flt .f32 v135] : List DV).length) .undef) [.row (.f32 v132) 0]).bind (retD TT Try.f72.results.toList 1) = (impl_Matrix_set_T v131 v132 v133 v134).bind fun y => .leaf (impl_Matrix_set_enc v130 v131 v132 v133 v134 v135 y) := by kernel_rfl
theorem impl_Matrix_set_fn (v130 : Int) (v131 : Int) (v132 : List Nat) (v133 : Int) (v134 : Int) (v135 : Nat) (F : Fr) (hm : F.ids.length = 1) (h0 : St F [.row (.f32 v132) 0] F.H0) (hA : DVs.Ok F [.row (.f32 v132) 0] [.agg [.int .i64 v130, .int .i64 v131, .own 0 0 v132.length], .int .i64 v133, .int .i64 v134, .flt .f32 v135]) {y : Unit} (hy : impl_Matrix_set_g v131 v132 v133 v134 = some y) : ∃ H', FnOk Try.prog 72 (DVs.av F [.agg [.int .i64 v130, .int .i64 v131, .own 0 0 v132.length], .int .i64 v133, .int .i64 v134, .flt .f32 v135]) F.H0 ((impl_Matrix_set_enc v130 v131 v132 v133 v134 v135 y).1.av F) H' ∧ St F (impl_Matrix_set_enc v130 v131 v132 v133 v134 v135 y).2 H' ∧ (impl_Matrix_set_enc v130 v131 v132 v133 v134 v135 y).1.Ok F (impl_Matrix_set_enc v130 v131 v132 v133 v134 v135 y).2 :=
  fn_fin tok impl_Matrix_set_hO mixed Try.func72 Try.call72 (by kernel_rfl) (LoopsOk_eq (l := []) (by kernel_rfl) trivial) (impl_Matrix_set_den v130 v131 v132 v133 v134 v135) hy hm h0 hA
noncomputable def impl_Matrix_set_F : DFn := fun args L =>
  match args with
  | [.agg [.int .i64 v130, .int .i64 v131, a1], .int .i64 v133, .int .i64 v134, .flt .f32 v135] =>
    optT (ownF32 L a1) fun qv132 =>
    (match sepB [qv132.1] [] with
    | true =>
    .call (impl_Matrix_set_g v131 qv132.2 v133 v134) fun y => .grd (decide ((List.set qv132.2 (Int.toNat (IntKind.i64.wrap ((IntKind.i64.wrap (v133 * v131)) + v134))) v135).length = qv132.2.length)) (.leaf (.tup [], setRows L ([qv132.1].zip [.f32 (List.set qv132.2 (Int.toNat (IntKind.i64.wrap ((IntKind.i64.wrap (v133 * v131)) + v134))) v135)])))
    | false => .fail)
  | _ => .fail
theorem impl_Matrix_set_Fok : COk Try.prog 72 impl_Matrix_set_F false := by
  intro F L H args r L' hs ha hr
  unfold impl_Matrix_set_F at hr
  split at hr
  · rename_i v130 v131 a1 v133 v134 v135
    obtain ⟨⟨jv132, v132⟩, hqv132, hr⟩ := optT_run hr
    simp only at hr
    split at hr
    · rename_i hsep
      obtain ⟨hnd, hsepv⟩ := sepB_spec hsep
      simp only [Tree.run] at hr
      obtain ⟨y, hy, hr⟩ := Option.bind_eq_some_iff.1 hr
      try simp only [Tree.run] at hr
      obtain ⟨hl0, hr⟩ := ite_run hr
      simp only [Option.some.injEq, Prod.mk.injEq] at hr
      obtain ⟨rfl, rfl⟩ := hr
      obtain ⟨hr0, hu0, ha0, hb0⟩ := (ownR_spec (DVs.okAt (DVs.okAt ha 0 rfl) 2 rfl) (ownF32_or hqv132))
      exact mut_ok hs (fun k => (([a1.av F] : List AV)[k]?).getD .top) [.agg [.int .i64 v130, .int .i64 v131, a1], .int .i64 v133, .int .i64 v134, .flt .f32 v135] [.agg [.int .i64 v130, .int .i64 v131, .own 0 0 v132.length], .int .i64 v133, .int .i64 v134, .flt .f32 v135] [jv132] [.f32 v132] [.f32 (List.set v132 (Int.toNat (IntKind.i64.wrap ((IntKind.i64.wrap (v133 * v131)) + v134))) v135)] hnd rfl rfl (fun i j q h1 h2 => by
          rcases i with _ | i
          · simp at h1 h2; subst h1; subst h2; exact hr0
          · simp at h1) (fun i q q' h1 h2 => by
          rcases i with _ | i
          · simp at h1 h2; subst h1; subst h2; exact of_decide_eq_true hl0
          · simp at h1) (fun j hj => by simp at hj; subst hj; simp [DVs.refs, DV.refs, hu0]) (fun F' h0 hi hρ hst hS => ⟨by (have ab0 : F'.abs 0 = F.abs jv132 := (by simp [Fr.abs, hi]); simp [DVs.av, DV.av, BR.av, hρ, Row.len, ha0, ab0]), by
          obtain ⟨H1, k1, k2, _⟩ := impl_Matrix_set_fn v130 v131 v132 v133 v134 v135 F' (by rw [hi]; rfl) hst ⟨⟨trivial, trivial, ⟨_, rfl, Nat.le_refl _, Nat.le_refl _, fun _ => rfl, (ownR_spec (DVs.okAt (DVs.okAt ha 0 rfl) 2 rfl) (ownF32_or hqv132)).2.2.2⟩, trivial⟩, trivial, trivial, trivial, trivial⟩ hy
          exact ⟨H1, k1, k2⟩⟩) (fun F' => rfl) (fun L' => trivial)
    · cases hr
  · cases hr
/-! impl.made -/
noncomputable def impl_made_l2_T (v106 : Int) (v107 : List Nat) (v108 : Int) (v196 : Int) (v198 : Int) (v199 : Int) (s : Int × (List Nat)) : Tree ((Int × (List Nat)) ⊕ ((List Nat))) :=
  (.br (decide (s.1 < v106)) (
   (.call (impl_RingMatrix_1_g v196 s.1 v107 v108) fun v201 =>
   (.call (impl_Matrix_set_g v199 s.2 v196 s.1) fun v202 =>
   (.grd (decide ((List.set s.2 (Int.toNat (IntKind.i64.wrap ((IntKind.i64.wrap (v196 * v199)) + s.1))) v201).length = s.2.length)) <|
   .leaf (.inl (IntKind.i64.wrap (s.1 + (1 : Int)), List.set s.2 (Int.toNat (IntKind.i64.wrap ((IntKind.i64.wrap (v196 * v199)) + s.1))) v201)))))
  ) (
   .leaf (.inr s.2)
  ))

noncomputable def impl_made_l2_g (v106 : Int) (v107 : List Nat) (v108 : Int) (v196 : Int) (v198 : Int) (v199 : Int) (s0 : Int × (List Nat)) : Option ((List Nat)) := whileM (fun s => (impl_made_l2_T v106 v107 v108 v196 v198 v199 s).run) s0
def impl_made_l2_E (v105 : Int) (v106 : Int) (v107 : List Nat) (v108 : Int) (v196 : Int) (v198 : Int) (v199 : Int) (s : Int × (List Nat)) : Sd := ([.top, .int .i64 v106, .fn 59 [.bptr (BR.root 0) [.bslc (BR.root 1) (.f32 v107)], .bptr (BR.root 2) [.int .i64 v108]], .top, .top, .top, .ptr 0 (0 : Nat) 0 (3 : Nat), .ptr 1 (0 : Nat) 0 (3 : Nat), .int .i64 v196, .top, .top, .top, .top, .int .i64 v105, .int .i64 v196, .top, .top, .int .i64 v106, .int .i64 s.1, .top, .top, .top, .top, .top, .top, .top, .top, .top, .top, .top, .top, .top], [.gen [.int .i64 (0 : Int), .int .i64 (0 : Int), .nilslc] false 0, .gen [.int .i64 v198, .int .i64 v199, .own 2 0 ((s.2).length)] false 0, .row (.f32 s.2) 0])
def impl_made_l2_X (v105 : Int) (v106 : Int) (v107 : List Nat) (v108 : Int) (v196 : Int) (v198 : Int) (v199 : Int) (x : (List Nat)) : Out := (.normal, [.top, .int .i64 v106, .fn 59 [.bptr (BR.root 0) [.bslc (BR.root 1) (.f32 v107)], .bptr (BR.root 2) [.int .i64 v108]], .top, .top, .top, .ptr 0 (0 : Nat) 0 (3 : Nat), .ptr 1 (0 : Nat) 0 (3 : Nat), .top, .top, .top, .top, .top, .int .i64 v105, .int .i64 v196, .top, .top, .top, .top, .top, .top, .top, .top, .top, .top, .top, .top, .top, .top, .top, .top, .top], [.gen [.int .i64 (0 : Int), .int .i64 (0 : Int), .nilslc] false 0, .gen [.int .i64 v198, .int .i64 v199, .own 2 0 ((x).length)] false 0, .row (.f32 x) 0])
def impl_made_l2_kill : List Nat := [1, 0, 0, 1, 1, 1, 0, 0, 0, 1, 1, 1, 1, 0, 0, 1, 1, 0, 0, 1, 1, 1, 1, 1, 1, 1, 1, 1, 1, 1, 1, 1]
def impl_made_l2_nx : Exit → List Nat
  | .exit 0 => [1, 1, 1, 1, 1, 1, 0, 0, 1, 1, 1, 1, 1, 1, 1, 1, 1, 1, 1, 1, 1, 1, 1, 1, 1, 1, 1, 1, 1, 1, 1, 1]
  | .exit 1 => [1, 0, 0, 1, 1, 1, 0, 0, 1, 1, 1, 1, 1, 0, 0, 1, 1, 1, 1, 1, 1, 1, 1, 1, 1, 1, 1, 1, 1, 1, 1, 1]
  | .exit 2 => [1, 0, 0, 1, 1, 1, 0, 0, 1, 1, 1, 1, 1, 0, 0, 1, 1, 1, 1, 1, 1, 1, 1, 1, 1, 1, 1, 1, 1, 1, 1, 1]
  | .ret => [1, 1, 1, 1, 1, 1, 0, 1, 1, 1, 1, 1, 1, 1, 1, 1, 1, 1, 1, 1, 1, 1, 1, 1, 1, 1, 1, 1, 1, 1, 1, 1]
  | _ => []
noncomputable def impl_made_l0_T (v105 : Int) (v106 : Int) (v107 : List Nat) (v108 : Int) (v179 : Int) (v180 : Int) (s : Int × (List Nat)) : Tree ((Int × (List Nat)) ⊕ ((List Nat))) :=
  (.br (decide (s.1 < v105)) (
   (.need (some (impl_made_l2_E v105 v106 v107 v108 s.1 v179 v180 ((0 : Int), s.2)) = some (impl_made_l2_E v105 v106 v107 v108 s.1 v179 v180 ((0 : Int), s.2))) <|
   (.call (impl_made_l2_g v106 v107 v108 s.1 v179 v180 ((0 : Int), s.2)) fun v203 =>
   .leaf (.inl (IntKind.i64.wrap (s.1 + (1 : Int)), v203))))
  ) (
   .leaf (.inr s.2)
  ))

noncomputable def impl_made_l0_g (v105 : Int) (v106 : Int) (v107 : List Nat) (v108 : Int) (v179 : Int) (v180 : Int) (s0 : Int × (List Nat)) : Option ((List Nat)) := whileM (fun s => (impl_made_l0_T v105 v106 v107 v108 v179 v180 s).run) s0
def impl_made_l0_E (v105 : Int) (v106 : Int) (v107 : List Nat) (v108 : Int) (v179 : Int) (v180 : Int) (s : Int × (List Nat)) : Sd := ([.top, .int .i64 v106, .fn 59 [.bptr (BR.root 0) [.bslc (BR.root 1) (.f32 v107)], .bptr (BR.root 2) [.int .i64 v108]], .top, .top, .top, .ptr 0 (0 : Nat) 0 (3 : Nat), .ptr 1 (0 : Nat) 0 (3 : Nat), .top, .top, .top, .top, .top, .int .i64 v105, .int .i64 s.1, .top, .top, .top, .top, .top, .top, .top, .top, .top, .top, .top, .top, .top, .top, .top, .top, .top], [.gen [.int .i64 (0 : Int), .int .i64 (0 : Int), .nilslc] false 0, .gen [.int .i64 v179, .int .i64 v180, .own 2 0 ((s.2).length)] false 0, .row (.f32 s.2) 0])
def impl_made_l0_X (v105 : Int) (v106 : Int) (v107 : List Nat) (v108 : Int) (v179 : Int) (v180 : Int) (x : (List Nat)) : Out := (.normal, [.top, .top, .top, .top, .top, .top, .ptr 0 (0 : Nat) 0 (3 : Nat), .ptr 1 (0 : Nat) 0 (3 : Nat), .top, .top, .top, .top, .top, .top, .top, .top, .top, .top, .top, .top, .top, .top, .top, .top, .top, .top, .top, .top, .top, .top, .top, .top], [.gen [.int .i64 (0 : Int), .int .i64 (0 : Int), .nilslc] false 0, .gen [.int .i64 v179, .int .i64 v180, .own 2 0 ((x).length)] false 0, .row (.f32 x) 0])
def impl_made_l0_kill : List Nat := [1, 0, 0, 1, 1, 1, 0, 0, 1, 1, 1, 1, 1, 0, 0, 1, 1, 1, 1, 1, 1, 1, 1, 1, 1, 1, 1, 1, 1, 1, 1, 1]
def impl_made_l0_nx : Exit → List Nat
  | .exit 0 => [1, 1, 1, 1, 1, 1, 0, 0, 1, 1, 1, 1, 1, 1, 1, 1, 1, 1, 1, 1, 1, 1, 1, 1, 1, 1, 1, 1, 1, 1, 1, 1]
  | .ret => [1, 1, 1, 1, 1, 1, 0, 1, 1, 1, 1, 1, 1, 1, 1, 1, 1, 1, 1, 1, 1, 1, 1, 1, 1, 1, 1, 1, 1, 1, 1, 1]
  | _ => []
noncomputable def impl_made_LO (v105 : Int) (v106 : Int) (v107 : List Nat) (v108 : Int) : LOr := fun id e L =>
  match id with
  | 2 => .need (normA 0 impl_made_l2_kill e L = some (impl_made_l2_E v105 v106 v107 v108 (gI (vAt e 8)) (gI (cAt L (vAt e 7) 0)) (gI (cAt L (vAt e 7) 1)) ((gI (vAt e 18)), (gRF L (cAt L (vAt e 7) 2))))) (.call (impl_made_l2_g v106 v107 v108 (gI (vAt e 8)) (gI (cAt L (vAt e 7) 0)) (gI (cAt L (vAt e 7) 1)) ((gI (vAt e 18)), (gRF L (cAt L (vAt e 7) 2)))) fun x => .leaf (impl_made_l2_X v105 v106 v107 v108 (gI (vAt e 8)) (gI (cAt L (vAt e 7) 0)) (gI (cAt L (vAt e 7) 1)) x))
  | 0 => .need (normA 0 impl_made_l0_kill e L = some (impl_made_l0_E v105 v106 v107 v108 (gI (cAt L (vAt e 7) 0)) (gI (cAt L (vAt e 7) 1)) ((gI (vAt e 14)), (gRF L (cAt L (vAt e 7) 2))))) (.call (impl_made_l0_g v105 v106 v107 v108 (gI (cAt L (vAt e 7) 0)) (gI (cAt L (vAt e 7) 1)) ((gI (vAt e 14)), (gRF L (cAt L (vAt e 7) 2)))) fun x => .leaf (impl_made_l0_X v105 v106 v107 v108 (gI (cAt L (vAt e 7) 0)) (gI (cAt L (vAt e 7) 1)) x))
  | _ => .fail
noncomputable def impl_made_tab : List (FuncId × DFn × Bool) := [(71, impl_newMatrix_F, true), (59, impl_RingMatrix_1_F, true), (72, impl_Matrix_set_F, false)]
theorem impl_made_hO : OrcOk Try.prog (tabD impl_made_tab) (tabM impl_made_tab) := tabD_cons impl_newMatrix_Fok (tabD_cons impl_RingMatrix_1_Fok (tabD_cons impl_Matrix_set_Fok (tabD_nil _)))
theorem impl_made_l2_be (v105 : Int) (v106 : Int) (v107 : List Nat) (v108 : Int) (v196 : Int) (v198 : Int) (v199 : Int) (s : Int × (List Nat)) : bodyT TT (tabD impl_made_tab) (tabM impl_made_tab) (impl_made_LO v105 v106 v107 v108) 0 impl_made_l2_kill impl_made_l2_nx (bodyOf Try.f58 2) 2 (impl_made_l2_E v105 v106 v107 v108 v196 v198 v199 s) = (impl_made_l2_T v106 v107 v108 v196 v198 v199 s).bind fun y => .leaf (outS (impl_made_l2_E v105 v106 v107 v108 v196 v198 v199) (impl_made_l2_X v105 v106 v107 v108 v196 v198 v199) y) := by kernel_rfl
theorem impl_made_l2_ok (v105 : Int) (v106 : Int) (v107 : List Nat) (v108 : Int) : LSound Try.prog 0 (impl_made_LO v105 v106 v107 v108) 2 (bodyOf Try.f58 2) := by
  intro e L out h
  exact lo_ok (E := impl_made_l2_E v105 v106 v107 v108 (gI (vAt e 8)) (gI (cAt L (vAt e 7) 0)) (gI (cAt L (vAt e 7) 1))) (gT := impl_made_l2_T v106 v107 v108 (gI (vAt e 8)) (gI (cAt L (vAt e 7) 0)) (gI (cAt L (vAt e 7) 1))) (X := impl_made_l2_X v105 v106 v107 v108 (gI (vAt e 8)) (gI (cAt L (vAt e 7) 0)) (gI (cAt L (vAt e 7) 1))) (s0 := ((gI (vAt e 18)), (gRF L (cAt L (vAt e 7) 2)))) tok impl_made_hO mixed (LoopsOk_eq (l := []) (by kernel_rfl) trivial) (impl_made_l2_be v105 v106 v107 v108 (gI (vAt e 8)) (gI (cAt L (vAt e 7) 0)) (gI (cAt L (vAt e 7) 1))) rfl (by intro x; rfl) h
theorem impl_made_l0_be (v105 : Int) (v106 : Int) (v107 : List Nat) (v108 : Int) (v179 : Int) (v180 : Int) (s : Int × (List Nat)) : bodyT TT (tabD impl_made_tab) (tabM impl_made_tab) (impl_made_LO v105 v106 v107 v108) 0 impl_made_l0_kill impl_made_l0_nx (bodyOf Try.f58 0) 0 (impl_made_l0_E v105 v106 v107 v108 v179 v180 s) = (impl_made_l0_T v105 v106 v107 v108 v179 v180 s).bind fun y => .leaf (outS (impl_made_l0_E v105 v106 v107 v108 v179 v180) (impl_made_l0_X v105 v106 v107 v108 v179 v180) y) := by kernel_rfl
theorem impl_made_l0_ok (v105 : Int) (v106 : Int) (v107 : List Nat) (v108 : Int) : LSound Try.prog 0 (impl_made_LO v105 v106 v107 v108) 0 (bodyOf Try.f58 0) := by
  intro e L out h
  exact lo_ok (E := impl_made_l0_E v105 v106 v107 v108 (gI (cAt L (vAt e 7) 0)) (gI (cAt L (vAt e 7) 1))) (gT := impl_made_l0_T v105 v106 v107 v108 (gI (cAt L (vAt e 7) 0)) (gI (cAt L (vAt e 7) 1))) (X := impl_made_l0_X v105 v106 v107 v108 (gI (cAt L (vAt e 7) 0)) (gI (cAt L (vAt e 7) 1))) (s0 := ((gI (vAt e 14)), (gRF L (cAt L (vAt e 7) 2)))) tok impl_made_hO mixed (LoopsOk_eq (l := [(2, bodyOf Try.f58 2)]) (by kernel_rfl) ⟨impl_made_l2_ok v105 v106 v107 v108, trivial⟩) (impl_made_l0_be v105 v106 v107 v108 (gI (cAt L (vAt e 7) 0)) (gI (cAt L (vAt e 7) 1))) rfl (by intro x; rfl) h
noncomputable def impl_made_T (v105 : Int) (v106 : Int) (v107 : List Nat) (v108 : Int) : Tree (Int × Int × (List Nat)) :=
  (.call (impl_newMatrix_g v105 v106) fun v111 =>
  (.need (some (impl_made_l0_E v105 v106 v107 v108 v111.1 v111.2 ((0 : Int), List.replicate (Int.toNat (IntKind.i64.wrap (v105 * v106))) (0 : Nat))) = some (impl_made_l0_E v105 v106 v107 v108 v111.1 v111.2 ((0 : Int), List.replicate (Int.toNat (IntKind.i64.wrap (v105 * v106))) (0 : Nat)))) <|
  (.call (impl_made_l0_g v105 v106 v107 v108 v111.1 v111.2 ((0 : Int), List.replicate (Int.toNat (IntKind.i64.wrap (v105 * v106))) (0 : Nat))) fun v204 =>
  .leaf (v111.1, v111.2, v204))))

noncomputable def impl_made_g (v105 : Int) (v106 : Int) (v107 : List Nat) (v108 : Int) : Option (Int × Int × (List Nat)) := (impl_made_T v105 v106 v107 v108).run
def impl_made_enc (v105 : Int) (v106 : Int) (v107 : List Nat) (v108 : Int) (y : Int × Int × (List Nat)) : Rs := (.agg [.int .i64 y.1, .int .i64 y.2.1, .own 0 0 ((y.2.2).length)], [.row (.f32 y.2.2) 0])
theorem impl_made_den (v105 : Int) (v106 : Int) (v107 : List Nat) (v108 : Int) : (den TT (tabD impl_made_tab) (tabM impl_made_tab) (impl_made_LO v105 v106 v107 v108) (codeOf Try.f58) ([.int .i64 v105, .int .i64 v106, .fn 59 [.bptr (BR.root 0) [.bslc (BR.root 1) (.f32 v107)], .bptr (BR.root 2) [.int .i64 v108]]] ++ List.replicate (Try.f58.ntmps - ([.int .i64 v105, .int .i64 v106, .fn 59 [.bptr (BR.root 0) [.bslc (BR.root 1) (.f32 v107)], .bptr (BR.root 2) [.int .i64 v108]]] : List DV).length) .undef) []).bind (retD TT Try.f58.results.toList 0) = (impl_made_T v105 v106 v107 v108).bind fun y => .leaf (impl_made_enc v105 v106 v107 v108 y) := by kernel_rfl
theorem impl_made_fn (v105 : Int) (v106 : Int) (v107 : List Nat) (v108 : Int) (F : Fr) (hm : F.ids.length = 0) (h0 : St F [] F.H0) (hA : DVs.Ok F [] [.int .i64 v105, .int .i64 v106, .fn 59 [.bptr (BR.root 0) [.bslc (BR.root 1) (.f32 v107)], .bptr (BR.root 2) [.int .i64 v108]]]) {y : Int × Int × (List Nat)} (hy : impl_made_g v105 v106 v107 v108 = some y) : ∃ H', FnOk Try.prog 58 (DVs.av F [.int .i64 v105, .int .i64 v106, .fn 59 [.bptr (BR.root 0) [.bslc (BR.root 1) (.f32 v107)], .bptr (BR.root 2) [.int .i64 v108]]]) F.H0 ((impl_made_enc v105 v106 v107 v108 y).1.av F) H' ∧ St F (impl_made_enc v105 v106 v107 v108 y).2 H' ∧ (impl_made_enc v105 v106 v107 v108 y).1.Ok F (impl_made_enc v105 v106 v107 v108 y).2 :=
  fn_fin tok impl_made_hO mixed Try.func58 Try.call58 (by kernel_rfl) (LoopsOk_eq (l := [(0, bodyOf Try.f58 0)]) (by kernel_rfl) ⟨impl_made_l0_ok v105 v106 v107 v108, trivial⟩) (impl_made_den v105 v106 v107 v108) hy hm h0 hA
noncomputable def impl_made_F : DFn := fun args L =>
  match args with
  | [.int .i64 v105, .int .i64 v106, .fn 59 [a1, a3]] =>
    optT (cellsOf L 1 a1) fun cs0 =>
    (match cs0 with
    | [a2] =>
    optT (rowF32 L a2) fun v107 =>
    optT (cellsOf L 1 a3) fun cs2 =>
    (match cs2 with
    | [.int .i64 v108] =>
    .call (impl_made_g v105 v106 v107 v108) fun y => .leaf (.agg [.int .i64 y.1, .int .i64 y.2.1, .own (L.length + 0) 0 ((y.2.2).length)], L ++ [.row (.f32 y.2.2) 0])
    | _ => .fail)
    | _ => .fail)
  | _ => .fail
theorem impl_made_Fok : COk Try.prog 58 impl_made_F true := by
  intro F L H args r L' hs ha hr
  unfold impl_made_F at hr
  split at hr
  · rename_i v105 v106 a1 a3
    obtain ⟨cs0, hcp0, hr⟩ := optT_run hr
    split at hr
    · rename_i a2
      obtain ⟨v107, hv107, hr⟩ := optT_run hr
      obtain ⟨cs2, hcp2, hr⟩ := optT_run hr
      split at hr
      · rename_i v108
        simp only [Tree.run] at hr
        obtain ⟨y, hy, hr⟩ := Option.bind_eq_some_iff.1 hr
        simp only [Tree.run, Option.some.injEq, Prod.mk.injEq] at hr
        obtain ⟨rfl, rfl⟩ := hr
        exact call_ok1 hs (fun k => (([a1.av F, a2.av F, a3.av F] : List AV)[k]?).getD .top) [.int .i64 v105, .int .i64 v106, .fn 59 [a1, a3]] [.int .i64 v105, .int .i64 v106, .fn 59 [.bptr (BR.root 0) [.bslc (BR.root 1) (.f32 v107)], .bptr (BR.root 2) [.int .i64 v108]]] (fun F' h0 hi hρ => ⟨by simp [DVs.av, DV.av, BR.av, hρ], impl_made_fn v105 v106 v107 v108 F' (by rw [hi]; rfl) (st_nil hi) ⟨trivial, trivial, ⟨bptr_ok hi (by rw [h0]; simpa [DVs.av, DV.av, BR.av, hρ] using (cellsOf_ok hs (DVs.okAt (DVs.okAt ha 2 rfl) 0 rfl) hcp0).1) ⟨bslc_ok hi (by rw [h0, hρ]; exact rowF32_ok hs (DVs.okAt (cellsOf_ok hs (DVs.okAt (DVs.okAt ha 2 rfl) 0 rfl) hcp0).2 0 rfl) hv107), trivial⟩, bptr_ok hi (by rw [h0]; simpa [DVs.av, DV.av, BR.av, hρ] using (cellsOf_ok hs (DVs.okAt (DVs.okAt ha 2 rfl) 1 rfl) hcp2).1) ⟨trivial, trivial⟩, trivial⟩, trivial⟩ hy⟩) rfl rfl
      · cases hr
    · cases hr
  · cases hr
/-! impl.RingMatrix -/
noncomputable def impl_RingMatrix_LO (v79 : List Nat) : LOr := fun id e L =>
  match id with
  | _ => .fail
noncomputable def impl_RingMatrix_tab : List (FuncId × DFn × Bool) := [(57, impl_lengthF_F, true), (38, impl_isList_F, true), (58, impl_made_F, true)]
theorem impl_RingMatrix_hO : OrcOk Try.prog (tabD impl_RingMatrix_tab) (tabM impl_RingMatrix_tab) := tabD_cons impl_lengthF_Fok (tabD_cons impl_isList_Fok (tabD_cons impl_made_Fok (tabD_nil _)))
noncomputable def impl_RingMatrix_T (v79 : List Nat) : Tree ((Unit) ⊕ (Int × Int × (List Nat))) :=
  (.call (impl_isList_g v79 (12 : Int)) fun v104 =>
  (.br (!v104) (
   .leaf (.inl ())
  ) (
   (.call (impl_made_g (impl_lengthF_v v79) (impl_lengthF_v v79) v79 (impl_lengthF_v v79)) fun v205 =>
   .leaf (.inr (v205.1, v205.2.1, v205.2.2)))
  )))

noncomputable def impl_RingMatrix_g (v79 : List Nat) : Option ((Unit) ⊕ (Int × Int × (List Nat))) := (impl_RingMatrix_T v79).run
def impl_RingMatrix_enc (v79 : List Nat) (y : (Unit) ⊕ (Int × Int × (List Nat))) : Rs := (match y with | .inl y => (.tup [.agg [.int .i64 (0 : Int), .int .i64 (0 : Int), .nilslc], .lit false], []) | .inr y => (.tup [.agg [.int .i64 y.1, .int .i64 y.2.1, .own 0 0 ((y.2.2).length)], .lit true], [.row (.f32 y.2.2) 0]))
theorem impl_RingMatrix_den (v79 : List Nat) : (den TT (tabD impl_RingMatrix_tab) (tabM impl_RingMatrix_tab) (impl_RingMatrix_LO v79) (codeOf Try.f29) ([.bslc (BR.root 0) (.f32 v79)] ++ List.replicate (Try.f29.ntmps - ([.bslc (BR.root 0) (.f32 v79)] : List DV).length) .undef) []).bind (retD TT Try.f29.results.toList 0) = (impl_RingMatrix_T v79).bind fun y => .leaf (impl_RingMatrix_enc v79 y) := by kernel_rfl
theorem impl_RingMatrix_fn (v79 : List Nat) (F : Fr) (hm : F.ids.length = 0) (h0 : St F [] F.H0) (hA : DVs.Ok F [] [.bslc (BR.root 0) (.f32 v79)]) {y : (Unit) ⊕ (Int × Int × (List Nat))} (hy : impl_RingMatrix_g v79 = some y) : ∃ H', FnOk Try.prog 29 (DVs.av F [.bslc (BR.root 0) (.f32 v79)]) F.H0 ((impl_RingMatrix_enc v79 y).1.av F) H' ∧ St F (impl_RingMatrix_enc v79 y).2 H' ∧ (impl_RingMatrix_enc v79 y).1.Ok F (impl_RingMatrix_enc v79 y).2 :=
  fn_fin tok impl_RingMatrix_hO mixed Try.func29 Try.call29 (by kernel_rfl) (LoopsOk_eq (l := []) (by kernel_rfl) trivial) (impl_RingMatrix_den v79) hy hm h0 hA
noncomputable def impl_RingMatrix_F : DFn := fun args L =>
  match args with
  | [a1] =>
    optT (rowF32 L a1) fun v79 =>
    .call (impl_RingMatrix_g v79) fun y => .sum y (fun y0 => .leaf (.tup [.agg [.int .i64 (0 : Int), .int .i64 (0 : Int), .nilslc], .lit false], L)) (fun z0 => .leaf (.tup [.agg [.int .i64 z0.1, .int .i64 z0.2.1, .own (L.length + 0) 0 ((z0.2.2).length)], .lit true], L ++ [.row (.f32 z0.2.2) 0]))
  | _ => .fail
theorem impl_RingMatrix_Fok : COk Try.prog 29 impl_RingMatrix_F true := by
  intro F L H args r L' hs ha hr
  unfold impl_RingMatrix_F at hr
  split at hr
  · rename_i a1
    obtain ⟨v79, hv79, hr⟩ := optT_run hr
    simp only [Tree.run] at hr
    obtain ⟨y, hy, hr⟩ := Option.bind_eq_some_iff.1 hr
    cases y with
    | inl y =>
      simp only [Tree.run, Option.some.injEq, Prod.mk.injEq] at hr
      obtain ⟨rfl, rfl⟩ := hr
      exact call_ok0 hs (fun k => (([a1.av F] : List AV)[k]?).getD .top) [a1] [.bslc (BR.root 0) (.f32 v79)] (fun F' h0 hi hρ => ⟨by simp [DVs.av, DV.av, BR.av, hρ], impl_RingMatrix_fn v79 F' (by rw [hi]; rfl) (st_nil hi) ⟨bslc_ok hi (by rw [h0, hρ]; exact rowF32_ok hs (DVs.okAt ha 0 rfl) hv79), trivial⟩ hy⟩) rfl
    | inr y =>
      simp only [Tree.run, Option.some.injEq, Prod.mk.injEq] at hr
      obtain ⟨rfl, rfl⟩ := hr
      exact call_ok1 hs (fun k => (([a1.av F] : List AV)[k]?).getD .top) [a1] [.bslc (BR.root 0) (.f32 v79)] (fun F' h0 hi hρ => ⟨by simp [DVs.av, DV.av, BR.av, hρ], impl_RingMatrix_fn v79 F' (by rw [hi]; rfl) (st_nil hi) ⟨bslc_ok hi (by rw [h0, hρ]; exact rowF32_ok hs (DVs.okAt ha 0 rfl) hv79), trivial⟩ hy⟩) rfl rfl
  · cases hr
/-! laws.sameFloat -/
noncomputable def laws_sameFloat_LO (v218 : Nat) (v219 : Nat) : LOr := fun id e L =>
  match id with
  | _ => .fail
noncomputable def laws_sameFloat_tab : List (FuncId × DFn × Bool) := []
theorem laws_sameFloat_hO : OrcOk Try.prog (tabD laws_sameFloat_tab) (tabM laws_sameFloat_tab) := tabD_nil _
noncomputable def laws_sameFloat_T (v218 : Nat) (v219 : Nat) : Tree (Bool) :=
  (.br (!feq .f64 v218 v218) (
   (.br (!feq .f64 v218 v218) (
    .leaf (!feq .f64 v219 v219)
   ) (
    .leaf false
   ))
  ) (
   (.br (!feq .f64 v219 v219) (
    (.br (!feq .f64 v218 v218) (
     .leaf (!feq .f64 v219 v219)
    ) (
     .leaf false
    ))
   ) (
    (.br (feq .f64 v218 (0 : Nat)) (
     (.br (feq .f64 v219 (0 : Nat)) (
      .leaf ((fgrt .f64 (fdiv .f64 (4607182418800017408 : Nat) v218) (0 : Nat)) == (fgrt .f64 (fdiv .f64 (4607182418800017408 : Nat) v219) (0 : Nat)))
     ) (
      .leaf (feq .f64 v218 v219)
     ))
    ) (
     .leaf (feq .f64 v218 v219)
    ))
   ))
  ))

noncomputable def laws_sameFloat_g (v218 : Nat) (v219 : Nat) : Option (Bool) := (laws_sameFloat_T v218 v219).run
def laws_sameFloat_enc (v218 : Nat) (v219 : Nat) (y : Bool) : Rs := (.bool y, [])
theorem laws_sameFloat_den (v218 : Nat) (v219 : Nat) : (den TT (tabD laws_sameFloat_tab) (tabM laws_sameFloat_tab) (laws_sameFloat_LO v218 v219) (codeOf Try.f12) ([.flt .f64 v218, .flt .f64 v219] ++ List.replicate (Try.f12.ntmps - ([.flt .f64 v218, .flt .f64 v219] : List DV).length) .undef) []).bind (retD TT Try.f12.results.toList 0) = (laws_sameFloat_T v218 v219).bind fun y => .leaf (laws_sameFloat_enc v218 v219 y) := by kernel_rfl
theorem laws_sameFloat_fn (v218 : Nat) (v219 : Nat) (F : Fr) (hm : F.ids.length = 0) (h0 : St F [] F.H0) (hA : DVs.Ok F [] [.flt .f64 v218, .flt .f64 v219]) {y : Bool} (hy : laws_sameFloat_g v218 v219 = some y) : ∃ H', FnOk Try.prog 12 (DVs.av F [.flt .f64 v218, .flt .f64 v219]) F.H0 ((laws_sameFloat_enc v218 v219 y).1.av F) H' ∧ St F (laws_sameFloat_enc v218 v219 y).2 H' ∧ (laws_sameFloat_enc v218 v219 y).1.Ok F (laws_sameFloat_enc v218 v219 y).2 :=
  fn_fin tok laws_sameFloat_hO mixed Try.func12 Try.call12 (by kernel_rfl) (LoopsOk_eq (l := []) (by kernel_rfl) trivial) (laws_sameFloat_den v218 v219) hy hm h0 hA
def laws_sameFloat_v (v218 : Nat) (v219 : Nat) : Bool :=
  if (!feq .f64 v218 v218) = true then (
   if (!feq .f64 v218 v218) = true then (
    !feq .f64 v219 v219
   ) else (
    false
   )
  ) else (
   if (!feq .f64 v219 v219) = true then (
    if (!feq .f64 v218 v218) = true then (
     !feq .f64 v219 v219
    ) else (
     false
    )
   ) else (
    if (feq .f64 v218 (0 : Nat)) = true then (
     if (feq .f64 v219 (0 : Nat)) = true then (
      (fgrt .f64 (fdiv .f64 (4607182418800017408 : Nat) v218) (0 : Nat)) == (fgrt .f64 (fdiv .f64 (4607182418800017408 : Nat) v219) (0 : Nat))
     ) else (
      feq .f64 v218 v219
     )
    ) else (
     feq .f64 v218 v219
    )
   )
  )
theorem laws_sameFloat_tot (v218 : Nat) (v219 : Nat) : laws_sameFloat_g v218 v219 = some (laws_sameFloat_v v218 v219) := by
  unfold laws_sameFloat_g laws_sameFloat_T laws_sameFloat_v
  simp only [Tree.run]
  repeat' (first | rfl | split)
noncomputable def laws_sameFloat_F : DFn := fun args L =>
  match args with
  | [.flt .f64 v218, .flt .f64 v219] =>
    .leaf (.bool (laws_sameFloat_v v218 v219), L)
  | _ => .fail
theorem laws_sameFloat_Fok : COk Try.prog 12 laws_sameFloat_F true := by
  intro F L H args r L' hs ha hr
  unfold laws_sameFloat_F at hr
  split at hr
  · rename_i v218 v219
    have hy := laws_sameFloat_tot v218 v219
    generalize laws_sameFloat_v v218 v219 = y at hy hr
    simp only [Tree.run, Option.some.injEq, Prod.mk.injEq] at hr
    obtain ⟨rfl, rfl⟩ := hr
    exact call_ok0 hs (fun k => (([] : List AV)[k]?).getD .top) [.flt .f64 v218, .flt .f64 v219] [.flt .f64 v218, .flt .f64 v219] (fun F' h0 hi hρ => ⟨by simp [DVs.av, DV.av, BR.av, hρ], laws_sameFloat_fn v218 v219 F' (by rw [hi]; rfl) (st_nil hi) ⟨trivial, trivial, trivial⟩ hy⟩) rfl
  · cases hr
/-! laws.eqFloat32S -/
noncomputable def laws_eqFloat32S_l0_T (v215 : List Nat) (v216 : List Nat) (s : Int) : Tree ((Int) ⊕ ((Unit) ⊕ (Unit))) :=
  (.br (decide (s < ((v215.length : Nat) : Int))) (
   (.grd (inb s v215.length) <|
   (.grd (inb s v216.length) <|
   (.br (!(laws_sameFloat_v (wid (nth v215 (Int.toNat s))) (wid (nth v216 (Int.toNat s))))) (
    .leaf (.inr (.inl ()))
   ) (
    .leaf (.inl (IntKind.i64.wrap (s + (1 : Int))))
   ))))
  ) (
   .leaf (.inr (.inr ()))
  ))

noncomputable def laws_eqFloat32S_l0_g (v215 : List Nat) (v216 : List Nat) (s0 : Int) : Option ((Unit) ⊕ (Unit)) := whileM (fun s => (laws_eqFloat32S_l0_T v215 v216 s).run) s0
def laws_eqFloat32S_l0_E (v215 : List Nat) (v216 : List Nat) (s : Int) : Sd := ([.bslc (BR.root 0) (.f32 v215), .bslc (BR.root 1) (.f32 v216), .top, .top, .top, .int .i64 s, .top, .top, .top, .top, .top, .top, .top, .top, .top, .top, .top, .top, .top, .top, .top, .top, .top, .top, .top, .top, .top, .top, .top], [])
def laws_eqFloat32S_l0_X (v215 : List Nat) (v216 : List Nat) (x : (Unit) ⊕ (Unit)) : Out := (match x with | .inl x => (.ret, [.top, .top, .top, .top, .lit false, .top, .top, .top, .top, .top, .top, .top, .top, .top, .top, .top, .top, .top, .top, .top, .top, .top, .top, .top, .top, .top, .top, .top, .top], []) | .inr x => (.normal, [.top, .top, .top, .top, .top, .top, .top, .top, .top, .top, .top, .top, .top, .top, .top, .top, .top, .top, .top, .top, .top, .top, .top, .top, .top, .top, .top, .top, .top], []))
def laws_eqFloat32S_l0_kill : List Nat := [0, 0, 1, 1, 1, 0, 1, 1, 1, 1, 1, 1, 1, 1, 1, 1, 1, 1, 1, 1, 1, 1, 1, 1, 1, 1, 1, 1, 1]
def laws_eqFloat32S_l0_nx : Exit → List Nat
  | .exit 0 => [1, 1, 1, 1, 1, 1, 1, 1, 1, 1, 1, 1, 1, 1, 1, 1, 1, 1, 1, 1, 1, 1, 1, 1, 1, 1, 1, 1, 1]
  | .ret => [1, 1, 1, 1, 0, 1, 1, 1, 1, 1, 1, 1, 1, 1, 1, 1, 1, 1, 1, 1, 1, 1, 1, 1, 1, 1, 1, 1, 1]
  | _ => []
noncomputable def laws_eqFloat32S_LO (v215 : List Nat) (v216 : List Nat) : LOr := fun id e L =>
  match id with
  | 0 => .need (normA 0 laws_eqFloat32S_l0_kill e L = some (laws_eqFloat32S_l0_E v215 v216 (gI (vAt e 5)))) (.call (laws_eqFloat32S_l0_g v215 v216 (gI (vAt e 5))) fun x => .sum x (fun b0 => .leaf (laws_eqFloat32S_l0_X v215 v216 (.inl b0))) (fun c0 => .leaf (laws_eqFloat32S_l0_X v215 v216 (.inr c0))))
  | _ => .fail
noncomputable def laws_eqFloat32S_tab : List (FuncId × DFn × Bool) := [(12, laws_sameFloat_F, true)]
theorem laws_eqFloat32S_hO : OrcOk Try.prog (tabD laws_eqFloat32S_tab) (tabM laws_eqFloat32S_tab) := tabD_cons laws_sameFloat_Fok (tabD_nil _)
theorem laws_eqFloat32S_l0_be (v215 : List Nat) (v216 : List Nat) (s : Int) : bodyT TT (tabD laws_eqFloat32S_tab) (tabM laws_eqFloat32S_tab) (laws_eqFloat32S_LO v215 v216) 0 laws_eqFloat32S_l0_kill laws_eqFloat32S_l0_nx (bodyOf Try.f13 0) 0 (laws_eqFloat32S_l0_E v215 v216 s) = (laws_eqFloat32S_l0_T v215 v216 s).bind fun y => .leaf (outS (laws_eqFloat32S_l0_E v215 v216) (laws_eqFloat32S_l0_X v215 v216) y) := by kernel_rfl
theorem laws_eqFloat32S_l0_ok (v215 : List Nat) (v216 : List Nat) : LSound Try.prog 0 (laws_eqFloat32S_LO v215 v216) 0 (bodyOf Try.f13 0) := by
  intro e L out h
  exact lo_ok (E := laws_eqFloat32S_l0_E v215 v216) (gT := laws_eqFloat32S_l0_T v215 v216) (X := laws_eqFloat32S_l0_X v215 v216) (s0 := (gI (vAt e 5))) tok laws_eqFloat32S_hO mixed (LoopsOk_eq (l := []) (by kernel_rfl) trivial) (laws_eqFloat32S_l0_be v215 v216) rfl (by intro x; (cases x with | inl b => rfl | inr x => exact rfl)) h
noncomputable def laws_eqFloat32S_T (v215 : List Nat) (v216 : List Nat) : Tree (Bool) :=
  (.br (!decide (((v215.length : Nat) : Int) = ((v216.length : Nat) : Int))) (
   .leaf false
  ) (
   (.need (some (laws_eqFloat32S_l0_E v215 v216 (0 : Int)) = some (laws_eqFloat32S_l0_E v215 v216 (0 : Int))) <|
   (.call (laws_eqFloat32S_l0_g v215 v216 (0 : Int)) fun v222 =>
   (.sum v222 (fun v223 =>
    .leaf false
   ) (fun v224 =>
    .leaf true
   ))))
  ))

noncomputable def laws_eqFloat32S_g (v215 : List Nat) (v216 : List Nat) : Option (Bool) := (laws_eqFloat32S_T v215 v216).run
def laws_eqFloat32S_enc (v215 : List Nat) (v216 : List Nat) (y : Bool) : Rs := (.bool y, [])
theorem laws_eqFloat32S_den (v215 : List Nat) (v216 : List Nat) : (den TT (tabD laws_eqFloat32S_tab) (tabM laws_eqFloat32S_tab) (laws_eqFloat32S_LO v215 v216) (codeOf Try.f13) ([.bslc (BR.root 0) (.f32 v215), .bslc (BR.root 1) (.f32 v216)] ++ List.replicate (Try.f13.ntmps - ([.bslc (BR.root 0) (.f32 v215), .bslc (BR.root 1) (.f32 v216)] : List DV).length) .undef) []).bind (retD TT Try.f13.results.toList 0) = (laws_eqFloat32S_T v215 v216).bind fun y => .leaf (laws_eqFloat32S_enc v215 v216 y) := by kernel_rfl
theorem laws_eqFloat32S_fn (v215 : List Nat) (v216 : List Nat) (F : Fr) (hm : F.ids.length = 0) (h0 : St F [] F.H0) (hA : DVs.Ok F [] [.bslc (BR.root 0) (.f32 v215), .bslc (BR.root 1) (.f32 v216)]) {y : Bool} (hy : laws_eqFloat32S_g v215 v216 = some y) : ∃ H', FnOk Try.prog 13 (DVs.av F [.bslc (BR.root 0) (.f32 v215), .bslc (BR.root 1) (.f32 v216)]) F.H0 ((laws_eqFloat32S_enc v215 v216 y).1.av F) H' ∧ St F (laws_eqFloat32S_enc v215 v216 y).2 H' ∧ (laws_eqFloat32S_enc v215 v216 y).1.Ok F (laws_eqFloat32S_enc v215 v216 y).2 :=
  fn_fin tok laws_eqFloat32S_hO mixed Try.func13 Try.call13 (by kernel_rfl) (LoopsOk_eq (l := [(0, bodyOf Try.f13 0)]) (by kernel_rfl) ⟨laws_eqFloat32S_l0_ok v215 v216, trivial⟩) (laws_eqFloat32S_den v215 v216) hy hm h0 hA
noncomputable def laws_eqFloat32S_F : DFn := fun args L =>
  match args with
  | [a1, a2] =>
    optT (rowF32 L a1) fun v215 =>
    optT (rowF32 L a2) fun v216 =>
    .call (laws_eqFloat32S_g v215 v216) fun y => .leaf (.bool y, L)
  | _ => .fail
theorem laws_eqFloat32S_Fok : COk Try.prog 13 laws_eqFloat32S_F true := by
  intro F L H args r L' hs ha hr
  unfold laws_eqFloat32S_F at hr
  split at hr
  · rename_i a1 a2
    obtain ⟨v215, hv215, hr⟩ := optT_run hr
    obtain ⟨v216, hv216, hr⟩ := optT_run hr
    simp only [Tree.run] at hr
    obtain ⟨y, hy, hr⟩ := Option.bind_eq_some_iff.1 hr
    simp only [Tree.run, Option.some.injEq, Prod.mk.injEq] at hr
    obtain ⟨rfl, rfl⟩ := hr
    exact call_ok0 hs (fun k => (([a1.av F, a2.av F] : List AV)[k]?).getD .top) [a1, a2] [.bslc (BR.root 0) (.f32 v215), .bslc (BR.root 1) (.f32 v216)] (fun F' h0 hi hρ => ⟨by simp [DVs.av, DV.av, BR.av, hρ], laws_eqFloat32S_fn v215 v216 F' (by rw [hi]; rfl) (st_nil hi) ⟨bslc_ok hi (by rw [h0, hρ]; exact rowF32_ok hs (DVs.okAt ha 0 rfl) hv215), bslc_ok hi (by rw [h0, hρ]; exact rowF32_ok hs (DVs.okAt ha 1 rfl) hv216), trivial⟩ hy⟩) rfl
  · cases hr
/-! laws.eqMatrix -/
noncomputable def laws_eqMatrix_LO (v209 : Int) (v210 : Int) (v211 : List Nat) (v212 : Int) (v213 : Int) (v214 : List Nat) : LOr := fun id e L =>
  match id with
  | _ => .fail
noncomputable def laws_eqMatrix_tab : List (FuncId × DFn × Bool) := [(13, laws_eqFloat32S_F, true)]
theorem laws_eqMatrix_hO : OrcOk Try.prog (tabD laws_eqMatrix_tab) (tabM laws_eqMatrix_tab) := tabD_cons laws_eqFloat32S_Fok (tabD_nil _)
noncomputable def laws_eqMatrix_T (v209 : Int) (v210 : Int) (v211 : List Nat) (v212 : Int) (v213 : Int) (v214 : List Nat) : Tree (Bool) :=
  (.br (!decide (v209 = v212)) (
   .leaf false
  ) (
   (.br (!decide (v210 = v213)) (
    .leaf false
   ) (
    (.call (laws_eqFloat32S_g v211 v214) fun v225 =>
    (.br (!v225) (
     .leaf false
    ) (
     .leaf true
    )))
   ))
  ))

noncomputable def laws_eqMatrix_g (v209 : Int) (v210 : Int) (v211 : List Nat) (v212 : Int) (v213 : Int) (v214 : List Nat) : Option (Bool) := (laws_eqMatrix_T v209 v210 v211 v212 v213 v214).run
def laws_eqMatrix_enc (v209 : Int) (v210 : Int) (v211 : List Nat) (v212 : Int) (v213 : Int) (v214 : List Nat) (y : Bool) : Rs := (.bool y, [])
theorem laws_eqMatrix_den (v209 : Int) (v210 : Int) (v211 : List Nat) (v212 : Int) (v213 : Int) (v214 : List Nat) : (den TT (tabD laws_eqMatrix_tab) (tabM laws_eqMatrix_tab) (laws_eqMatrix_LO v209 v210 v211 v212 v213 v214) (codeOf Try.f30) ([.agg [.int .i64 v209, .int .i64 v210, .bslc (BR.root 0) (.f32 v211)], .agg [.int .i64 v212, .int .i64 v213, .bslc (BR.root 1) (.f32 v214)]] ++ List.replicate (Try.f30.ntmps - ([.agg [.int .i64 v209, .int .i64 v210, .bslc (BR.root 0) (.f32 v211)], .agg [.int .i64 v212, .int .i64 v213, .bslc (BR.root 1) (.f32 v214)]] : List DV).length) .undef) []).bind (retD TT Try.f30.results.toList 0) = (laws_eqMatrix_T v209 v210 v211 v212 v213 v214).bind fun y => .leaf (laws_eqMatrix_enc v209 v210 v211 v212 v213 v214 y) := by kernel_rfl
theorem laws_eqMatrix_fn (v209 : Int) (v210 : Int) (v211 : List Nat) (v212 : Int) (v213 : Int) (v214 : List Nat) (F : Fr) (hm : F.ids.length = 0) (h0 : St F [] F.H0) (hA : DVs.Ok F [] [.agg [.int .i64 v209, .int .i64 v210, .bslc (BR.root 0) (.f32 v211)], .agg [.int .i64 v212, .int .i64 v213, .bslc (BR.root 1) (.f32 v214)]]) {y : Bool} (hy : laws_eqMatrix_g v209 v210 v211 v212 v213 v214 = some y) : ∃ H', FnOk Try.prog 30 (DVs.av F [.agg [.int .i64 v209, .int .i64 v210, .bslc (BR.root 0) (.f32 v211)], .agg [.int .i64 v212, .int .i64 v213, .bslc (BR.root 1) (.f32 v214)]]) F.H0 ((laws_eqMatrix_enc v209 v210 v211 v212 v213 v214 y).1.av F) H' ∧ St F (laws_eqMatrix_enc v209 v210 v211 v212 v213 v214 y).2 H' ∧ (laws_eqMatrix_enc v209 v210 v211 v212 v213 v214 y).1.Ok F (laws_eqMatrix_enc v209 v210 v211 v212 v213 v214 y).2 :=
  fn_fin tok laws_eqMatrix_hO mixed Try.func30 Try.call30 (by kernel_rfl) (LoopsOk_eq (l := []) (by kernel_rfl) trivial) (laws_eqMatrix_den v209 v210 v211 v212 v213 v214) hy hm h0 hA
noncomputable def laws_eqMatrix_F : DFn := fun args L =>
  match args with
  | [.agg [.int .i64 v209, .int .i64 v210, a1], .agg [.int .i64 v212, .int .i64 v213, a2]] =>
    optT (rowF32 L a1) fun v211 =>
    optT (rowF32 L a2) fun v214 =>
    .call (laws_eqMatrix_g v209 v210 v211 v212 v213 v214) fun y => .leaf (.bool y, L)
  | _ => .fail
theorem laws_eqMatrix_Fok : COk Try.prog 30 laws_eqMatrix_F true := by
  intro F L H args r L' hs ha hr
  unfold laws_eqMatrix_F at hr
  split at hr
  · rename_i v209 v210 a1 v212 v213 a2
    obtain ⟨v211, hv211, hr⟩ := optT_run hr
    obtain ⟨v214, hv214, hr⟩ := optT_run hr
    simp only [Tree.run] at hr
    obtain ⟨y, hy, hr⟩ := Option.bind_eq_some_iff.1 hr
    simp only [Tree.run, Option.some.injEq, Prod.mk.injEq] at hr
    obtain ⟨rfl, rfl⟩ := hr
    exact call_ok0 hs (fun k => (([a1.av F, a2.av F] : List AV)[k]?).getD .top) [.agg [.int .i64 v209, .int .i64 v210, a1], .agg [.int .i64 v212, .int .i64 v213, a2]] [.agg [.int .i64 v209, .int .i64 v210, .bslc (BR.root 0) (.f32 v211)], .agg [.int .i64 v212, .int .i64 v213, .bslc (BR.root 1) (.f32 v214)]] (fun F' h0 hi hρ => ⟨by simp [DVs.av, DV.av, BR.av, hρ], laws_eqMatrix_fn v209 v210 v211 v212 v213 v214 F' (by rw [hi]; rfl) (st_nil hi) ⟨⟨trivial, trivial, bslc_ok hi (by rw [h0, hρ]; exact rowF32_ok hs (DVs.okAt (DVs.okAt ha 0 rfl) 2 rfl) hv211), trivial⟩, ⟨trivial, trivial, bslc_ok hi (by rw [h0, hρ]; exact rowF32_ok hs (DVs.okAt (DVs.okAt ha 1 rfl) 2 rfl) hv214), trivial⟩, trivial⟩ hy⟩) rfl
  · cases hr
/-! laws.markFloat32S -/
noncomputable def laws_markFloat32S_l0_T (s : Int × Int × (List Nat)) : Tree ((Int × Int × (List Nat)) ⊕ (Int × (List Nat))) :=
  (.br (decide (s.2.1 < (((s.2.2).length : Nat) : Int))) (
   (.grd (inb s.2.1 ((s.2.2).length)) <|
   .leaf (.inl (IntKind.i64.wrap (s.1 + (1 : Int)), IntKind.i64.wrap (s.2.1 + (1 : Int)), List.set s.2.2 (Int.toNat s.2.1) (fofint .f32 s.1))))
  ) (
   .leaf (.inr (s.1, s.2.2))
  ))

noncomputable def laws_markFloat32S_l0_g (s0 : Int × Int × (List Nat)) : Option (Int × (List Nat)) := whileM (fun s => (laws_markFloat32S_l0_T s).run) s0
def laws_markFloat32S_l0_E (v233 : List Nat) (v234 : Int) (s : Int × Int × (List Nat)) : Sd := ([.own 0 0 ((s.2.2).length), .int .i64 s.1, .top, .top, .top, .int .i64 s.2.1, .top, .top, .top, .top, .top, .top, .top, .top, .top, .top, .top, .top, .top, .top], [.row (.f32 s.2.2) 0])
def laws_markFloat32S_l0_X (v233 : List Nat) (v234 : Int) (x : Int × (List Nat)) : Out := (.normal, [.top, .int .i64 x.1, .top, .top, .top, .top, .top, .top, .top, .top, .top, .top, .top, .top, .top, .top, .top, .top, .top, .top], [.row (.f32 x.2) 0])
def laws_markFloat32S_l0_kill : List Nat := [0, 0, 1, 1, 1, 0, 1, 1, 1, 1, 1, 1, 1, 1, 1, 1, 1, 1, 1, 1]
def laws_markFloat32S_l0_nx : Exit → List Nat
  | .exit 0 => [1, 0, 1, 1, 1, 1, 1, 1, 1, 1, 1, 1, 1, 1, 1, 1, 1, 1, 1, 1]
  | .ret => [1, 1, 1, 1, 0, 1, 1, 1, 1, 1, 1, 1, 1, 1, 1, 1, 1, 1, 1, 1]
  | _ => []
noncomputable def laws_markFloat32S_LO (v233 : List Nat) (v234 : Int) : LOr := fun id e L =>
  match id with
  | 0 => .need (normA 1 laws_markFloat32S_l0_kill e L = some (laws_markFloat32S_l0_E v233 v234 ((gI (vAt e 1)), (gI (vAt e 5)), (gRF L (vAt e 0))))) (.call (laws_markFloat32S_l0_g ((gI (vAt e 1)), (gI (vAt e 5)), (gRF L (vAt e 0)))) fun x => .leaf (laws_markFloat32S_l0_X v233 v234 x))
  | _ => .fail
noncomputable def laws_markFloat32S_tab : List (FuncId × DFn × Bool) := []
theorem laws_markFloat32S_hO : OrcOk Try.prog (tabD laws_markFloat32S_tab) (tabM laws_markFloat32S_tab) := tabD_nil _
theorem laws_markFloat32S_l0_be (v233 : List Nat) (v234 : Int) (s : Int × Int × (List Nat)) : bodyT TT (tabD laws_markFloat32S_tab) (tabM laws_markFloat32S_tab) (laws_markFloat32S_LO v233 v234) 1 laws_markFloat32S_l0_kill laws_markFloat32S_l0_nx (bodyOf Try.f21 0) 0 (laws_markFloat32S_l0_E v233 v234 s) = (laws_markFloat32S_l0_T s).bind fun y => .leaf (outS (laws_markFloat32S_l0_E v233 v234) (laws_markFloat32S_l0_X v233 v234) y) := by kernel_rfl
theorem laws_markFloat32S_l0_ok (v233 : List Nat) (v234 : Int) : LSound Try.prog 1 (laws_markFloat32S_LO v233 v234) 0 (bodyOf Try.f21 0) := by
  intro e L out h
  exact lo_ok (E := laws_markFloat32S_l0_E v233 v234) (gT := laws_markFloat32S_l0_T) (X := laws_markFloat32S_l0_X v233 v234) (s0 := ((gI (vAt e 1)), (gI (vAt e 5)), (gRF L (vAt e 0)))) tok laws_markFloat32S_hO mixed (LoopsOk_eq (l := []) (by kernel_rfl) trivial) (laws_markFloat32S_l0_be v233 v234) rfl (by intro x; rfl) h
noncomputable def laws_markFloat32S_T (v233 : List Nat) (v234 : Int) : Tree (Int × (List Nat)) :=
  (.need (some (laws_markFloat32S_l0_E v233 v234 (v234, (0 : Int), v233)) = some (laws_markFloat32S_l0_E v233 v234 (v234, (0 : Int), v233))) <|
  (.call (laws_markFloat32S_l0_g (v234, (0 : Int), v233)) fun v243 =>
  .leaf (v243.1, v243.2)))

noncomputable def laws_markFloat32S_g (v233 : List Nat) (v234 : Int) : Option (Int × (List Nat)) := (laws_markFloat32S_T v233 v234).run
def laws_markFloat32S_enc (v233 : List Nat) (v234 : Int) (y : Int × (List Nat)) : Rs := (.int .i64 y.1, [.row (.f32 y.2) 0])
theorem laws_markFloat32S_den (v233 : List Nat) (v234 : Int) : (den TT (tabD laws_markFloat32S_tab) (tabM laws_markFloat32S_tab) (laws_markFloat32S_LO v233 v234) (codeOf Try.f21) ([.own 0 0 v233.length, .int .i64 v234] ++ List.replicate (Try.f21.ntmps - ([.own 0 0 v233.length, .int .i64 v234] : List DV).length) .undef) [.row (.f32 v233) 0]).bind (retD TT Try.f21.results.toList 1) = (laws_markFloat32S_T v233 v234).bind fun y => .leaf (laws_markFloat32S_enc v233 v234 y) := by kernel_rfl
theorem laws_markFloat32S_fn (v233 : List Nat) (v234 : Int) (F : Fr) (hm : F.ids.length = 1) (h0 : St F [.row (.f32 v233) 0] F.H0) (hA : DVs.Ok F [.row (.f32 v233) 0] [.own 0 0 v233.length, .int .i64 v234]) {y : Int × (List Nat)} (hy : laws_markFloat32S_g v233 v234 = some y) : ∃ H', FnOk Try.prog 21 (DVs.av F [.own 0 0 v233.length, .int .i64 v234]) F.H0 ((laws_markFloat32S_enc v233 v234 y).1.av F) H' ∧ St F (laws_markFloat32S_enc v233 v234 y).2 H' ∧ (laws_markFloat32S_enc v233 v234 y).1.Ok F (laws_markFloat32S_enc v233 v234 y).2 :=
  fn_fin tok laws_markFloat32S_hO mixed Try.func21 Try.call21 (by kernel_rfl) (LoopsOk_eq (l := [(0, bodyOf Try.f21 0)]) (by kernel_rfl) ⟨laws_markFloat32S_l0_ok v233 v234, trivial⟩) (laws_markFloat32S_den v233 v234) hy hm h0 hA
noncomputable def laws_markFloat32S_F : DFn := fun args L =>
  match args with
  | [a1, .int .i64 v234] =>
    optT (ownF32 L a1) fun qv233 =>
    (match sepB [qv233.1] [] with
    | true =>
    .call (laws_markFloat32S_g qv233.2 v234) fun y => .grd (decide (y.2.length = qv233.2.length)) (.leaf (.int .i64 y.1, setRows L ([qv233.1].zip [.f32 y.2])))
    | false => .fail)
  | _ => .fail
theorem laws_markFloat32S_Fok : COk Try.prog 21 laws_markFloat32S_F false := by
  intro F L H args r L' hs ha hr
  unfold laws_markFloat32S_F at hr
  split at hr
  · rename_i a1 v234
    obtain ⟨⟨jv233, v233⟩, hqv233, hr⟩ := optT_run hr
    simp only at hr
    split at hr
    · rename_i hsep
      obtain ⟨hnd, hsepv⟩ := sepB_spec hsep
      simp only [Tree.run] at hr
      obtain ⟨y, hy, hr⟩ := Option.bind_eq_some_iff.1 hr
      try simp only [Tree.run] at hr
      obtain ⟨hl0, hr⟩ := ite_run hr
      simp only [Option.some.injEq, Prod.mk.injEq] at hr
      obtain ⟨rfl, rfl⟩ := hr
      obtain ⟨hr0, hu0, ha0, hb0⟩ := (ownR_spec (DVs.okAt ha 0 rfl) (ownF32_or hqv233))
      exact mut_ok hs (fun k => (([a1.av F] : List AV)[k]?).getD .top) [a1, .int .i64 v234] [.own 0 0 v233.length, .int .i64 v234] [jv233] [.f32 v233] [.f32 y.2] hnd rfl rfl (fun i j q h1 h2 => by
          rcases i with _ | i
          · simp at h1 h2; subst h1; subst h2; exact hr0
          · simp at h1) (fun i q q' h1 h2 => by
          rcases i with _ | i
          · simp at h1 h2; subst h1; subst h2; exact of_decide_eq_true hl0
          · simp at h1) (fun j hj => by simp at hj; subst hj; simp [DVs.refs, DV.refs, hu0]) (fun F' h0 hi hρ hst hS => ⟨by (have ab0 : F'.abs 0 = F.abs jv233 := (by simp [Fr.abs, hi]); simp [DVs.av, DV.av, BR.av, hρ, Row.len, ha0, ab0]), by
          obtain ⟨H1, k1, k2, _⟩ := laws_markFloat32S_fn v233 v234 F' (by rw [hi]; rfl) hst ⟨⟨_, rfl, Nat.le_refl _, Nat.le_refl _, fun _ => rfl, (ownR_spec (DVs.okAt ha 0 rfl) (ownF32_or hqv233)).2.2.2⟩, trivial, trivial⟩ hy
          exact ⟨H1, k1, k2⟩⟩) (fun F' => rfl) (fun L' => trivial)
    · cases hr
  · cases hr
/-! laws.markMatrix -/
noncomputable def laws_markMatrix_LO (v250 : Int) (v251 : Int) (v252 : List Nat) (v253 : Int) : LOr := fun id e L =>
  match id with
  | _ => .fail
noncomputable def laws_markMatrix_tab : List (FuncId × DFn × Bool) := [(21, laws_markFloat32S_F, false)]
theorem laws_markMatrix_hO : OrcOk Try.prog (tabD laws_markMatrix_tab) (tabM laws_markMatrix_tab) := tabD_cons laws_markFloat32S_Fok (tabD_nil _)
noncomputable def laws_markMatrix_T (v252 : List Nat) (v253 : Int) : Tree (Int × (List Nat)) :=
  (.call (laws_markFloat32S_g v252 v253) fun v254 =>
  (.grd (decide (v254.2.length = v252.length)) <|
  .leaf (v254.1, v254.2)))

noncomputable def laws_markMatrix_g (v252 : List Nat) (v253 : Int) : Option (Int × (List Nat)) := (laws_markMatrix_T v252 v253).run
def laws_markMatrix_enc (v250 : Int) (v251 : Int) (v252 : List Nat) (v253 : Int) (y : Int × (List Nat)) : Rs := (.int .i64 y.1, [.row (.f32 y.2) 0])
theorem laws_markMatrix_den (v250 : Int) (v251 : Int) (v252 : List Nat) (v253 : Int) : (den TT (tabD laws_markMatrix_tab) (tabM laws_markMatrix_tab) (laws_markMatrix_LO v250 v251 v252 v253) (codeOf Try.f31) ([.agg [.int .i64 v250, .int .i64 v251, .own 0 0 v252.length], .int .i64 v253] ++ List.replicate (Try.f31.ntmps - ([.agg [.int .i64 v250, .int .i64 v251, .own 0 0 v252.length], .int .i64 v253] : List DV).length) .undef) [.row (.f32 v252) 0]).bind (retD TT Try.f31.results.toList 1) = (laws_markMatrix_T v252 v253).bind fun y => .leaf (laws_markMatrix_enc v250 v251 v252 v253 y) := by kernel_rfl
theorem laws_markMatrix_fn (v250 : Int) (v251 : Int) (v252 : List Nat) (v253 : Int) (F : Fr) (hm : F.ids.length = 1) (h0 : St F [.row (.f32 v252) 0] F.H0) (hA : DVs.Ok F [.row (.f32 v252) 0] [.agg [.int .i64 v250, .int .i64 v251, .own 0 0 v252.length], .int .i64 v253]) {y : Int × (List Nat)} (hy : laws_markMatrix_g v252 v253 = some y) : ∃ H', FnOk Try.prog 31 (DVs.av F [.agg [.int .i64 v250, .int .i64 v251, .own 0 0 v252.length], .int .i64 v253]) F.H0 ((laws_markMatrix_enc v250 v251 v252 v253 y).1.av F) H' ∧ St F (laws_markMatrix_enc v250 v251 v252 v253 y).2 H' ∧ (laws_markMatrix_enc v250 v251 v252 v253 y).1.Ok F (laws_markMatrix_enc v250 v251 v252 v253 y).2 :=
  fn_fin tok laws_markMatrix_hO mixed Try.func31 Try.call31 (by kernel_rfl) (LoopsOk_eq (l := []) (by kernel_rfl) trivial) (laws_markMatrix_den v250 v251 v252 v253) hy hm h0 hA
noncomputable def laws_markMatrix_F : DFn := fun args L =>
  match args with
  | [.agg [.int .i64 v250, .int .i64 v251, a1], .int .i64 v253] =>
    optT (ownF32 L a1) fun qv252 =>
    (match sepB [qv252.1] [] with
    | true =>
    .call (laws_markMatrix_g qv252.2 v253) fun y => .grd (decide (y.2.length = qv252.2.length)) (.leaf (.int .i64 y.1, setRows L ([qv252.1].zip [.f32 y.2])))
    | false => .fail)
  | _ => .fail
theorem laws_markMatrix_Fok : COk Try.prog 31 laws_markMatrix_F false := by
  intro F L H args r L' hs ha hr
  unfold laws_markMatrix_F at hr
  split at hr
  · rename_i v250 v251 a1 v253
    obtain ⟨⟨jv252, v252⟩, hqv252, hr⟩ := optT_run hr
    simp only at hr
    split at hr
    · rename_i hsep
      obtain ⟨hnd, hsepv⟩ := sepB_spec hsep
      simp only [Tree.run] at hr
      obtain ⟨y, hy, hr⟩ := Option.bind_eq_some_iff.1 hr
      try simp only [Tree.run] at hr
      obtain ⟨hl0, hr⟩ := ite_run hr
      simp only [Option.some.injEq, Prod.mk.injEq] at hr
      obtain ⟨rfl, rfl⟩ := hr
      obtain ⟨hr0, hu0, ha0, hb0⟩ := (ownR_spec (DVs.okAt (DVs.okAt ha 0 rfl) 2 rfl) (ownF32_or hqv252))
      exact mut_ok hs (fun k => (([a1.av F] : List AV)[k]?).getD .top) [.agg [.int .i64 v250, .int .i64 v251, a1], .int .i64 v253] [.agg [.int .i64 v250, .int .i64 v251, .own 0 0 v252.length], .int .i64 v253] [jv252] [.f32 v252] [.f32 y.2] hnd rfl rfl (fun i j q h1 h2 => by
          rcases i with _ | i
          · simp at h1 h2; subst h1; subst h2; exact hr0
          · simp at h1) (fun i q q' h1 h2 => by
          rcases i with _ | i
          · simp at h1 h2; subst h1; subst h2; exact of_decide_eq_true hl0
          · simp at h1) (fun j hj => by simp at hj; subst hj; simp [DVs.refs, DV.refs, hu0]) (fun F' h0 hi hρ hst hS => ⟨by (have ab0 : F'.abs 0 = F.abs jv252 := (by simp [Fr.abs, hi]); simp [DVs.av, DV.av, BR.av, hρ, Row.len, ha0, ab0]), by
          obtain ⟨H1, k1, k2, _⟩ := laws_markMatrix_fn v250 v251 v252 v253 F' (by rw [hi]; rfl) hst ⟨⟨trivial, trivial, ⟨_, rfl, Nat.le_refl _, Nat.le_refl _, fun _ => rfl, (ownR_spec (DVs.okAt (DVs.okAt ha 0 rfl) 2 rfl) (ownF32_or hqv252)).2.2.2⟩, trivial⟩, trivial, trivial⟩ hy
          exact ⟨H1, k1, k2⟩⟩) (fun F' => rfl) (fun L' => trivial)
    · cases hr
  · cases hr
/-! laws.markFloat32S -/
noncomputable def laws_markFloat32S_i1_l0_T (s : Unit) : Tree ((Unit) ⊕ (Unit)) :=
  (.br (decide ((0 : Int) < (0 : Int))) (
   .fail
  ) (
   .leaf (.inr ())
  ))

noncomputable def laws_markFloat32S_i1_l0_g (s0 : Unit) : Option (Unit) := whileM (fun s => (laws_markFloat32S_i1_l0_T s).run) s0
def laws_markFloat32S_i1_l0_E (v258 : Int) (s : Unit) : Sd := ([.nilslc, .int .i64 v258, .top, .top, .top, .int .i64 (0 : Int), .top, .top, .top, .top, .top, .top, .top, .top, .top, .top, .top, .top, .top, .top], [])
def laws_markFloat32S_i1_l0_X (v258 : Int) (x : Unit) : Out := (.normal, [.top, .int .i64 v258, .top, .top, .top, .top, .top, .top, .top, .top, .top, .top, .top, .top, .top, .top, .top, .top, .top, .top], [])
def laws_markFloat32S_i1_l0_kill : List Nat := [0, 0, 1, 1, 1, 0, 1, 1, 1, 1, 1, 1, 1, 1, 1, 1, 1, 1, 1, 1]
def laws_markFloat32S_i1_l0_nx : Exit → List Nat
  | .exit 0 => [1, 0, 1, 1, 1, 1, 1, 1, 1, 1, 1, 1, 1, 1, 1, 1, 1, 1, 1, 1]
  | .ret => [1, 1, 1, 1, 0, 1, 1, 1, 1, 1, 1, 1, 1, 1, 1, 1, 1, 1, 1, 1]
  | _ => []
noncomputable def laws_markFloat32S_i1_LO (v258 : Int) : LOr := fun id e L =>
  match id with
  | 0 => .need (normA 0 laws_markFloat32S_i1_l0_kill e L = some (laws_markFloat32S_i1_l0_E v258 ())) (.call (laws_markFloat32S_i1_l0_g ()) fun x => .leaf (laws_markFloat32S_i1_l0_X v258 x))
  | _ => .fail
noncomputable def laws_markFloat32S_i1_tab : List (FuncId × DFn × Bool) := []
theorem laws_markFloat32S_i1_hO : OrcOk Try.prog (tabD laws_markFloat32S_i1_tab) (tabM laws_markFloat32S_i1_tab) := tabD_nil _
theorem laws_markFloat32S_i1_l0_be (v258 : Int) (s : Unit) : bodyT TT (tabD laws_markFloat32S_i1_tab) (tabM laws_markFloat32S_i1_tab) (laws_markFloat32S_i1_LO v258) 0 laws_markFloat32S_i1_l0_kill laws_markFloat32S_i1_l0_nx (bodyOf Try.f21 0) 0 (laws_markFloat32S_i1_l0_E v258 s) = (laws_markFloat32S_i1_l0_T s).bind fun y => .leaf (outS (laws_markFloat32S_i1_l0_E v258) (laws_markFloat32S_i1_l0_X v258) y) := by kernel_rfl
theorem laws_markFloat32S_i1_l0_ok (v258 : Int) : LSound Try.prog 0 (laws_markFloat32S_i1_LO v258) 0 (bodyOf Try.f21 0) := by
  intro e L out h
  exact lo_ok (E := laws_markFloat32S_i1_l0_E v258) (gT := laws_markFloat32S_i1_l0_T) (X := laws_markFloat32S_i1_l0_X v258) (s0 := ()) tok laws_markFloat32S_i1_hO mixed (LoopsOk_eq (l := []) (by kernel_rfl) trivial) (laws_markFloat32S_i1_l0_be v258) rfl (by intro x; rfl) h
noncomputable def laws_markFloat32S_i1_T (v258 : Int) : Tree (Int) :=
  (.need (some (laws_markFloat32S_i1_l0_E v258 ()) = some (laws_markFloat32S_i1_l0_E v258 ())) <|
  (.call (laws_markFloat32S_i1_l0_g ()) fun v261 =>
  .leaf v258))

noncomputable def laws_markFloat32S_i1_g (v258 : Int) : Option (Int) := (laws_markFloat32S_i1_T v258).run
def laws_markFloat32S_i1_enc (v258 : Int) (y : Int) : Rs := (.int .i64 y, [])
theorem laws_markFloat32S_i1_den (v258 : Int) : (den TT (tabD laws_markFloat32S_i1_tab) (tabM laws_markFloat32S_i1_tab) (laws_markFloat32S_i1_LO v258) (codeOf Try.f21) ([.nilslc, .int .i64 v258] ++ List.replicate (Try.f21.ntmps - ([.nilslc, .int .i64 v258] : List DV).length) .undef) []).bind (retD TT Try.f21.results.toList 0) = (laws_markFloat32S_i1_T v258).bind fun y => .leaf (laws_markFloat32S_i1_enc v258 y) := by kernel_rfl
theorem laws_markFloat32S_i1_fn (v258 : Int) (F : Fr) (hm : F.ids.length = 0) (h0 : St F [] F.H0) (hA : DVs.Ok F [] [.nilslc, .int .i64 v258]) {y : Int} (hy : laws_markFloat32S_i1_g v258 = some y) : ∃ H', FnOk Try.prog 21 (DVs.av F [.nilslc, .int .i64 v258]) F.H0 ((laws_markFloat32S_i1_enc v258 y).1.av F) H' ∧ St F (laws_markFloat32S_i1_enc v258 y).2 H' ∧ (laws_markFloat32S_i1_enc v258 y).1.Ok F (laws_markFloat32S_i1_enc v258 y).2 :=
  fn_fin tok laws_markFloat32S_i1_hO mixed Try.func21 Try.call21 (by kernel_rfl) (LoopsOk_eq (l := [(0, bodyOf Try.f21 0)]) (by kernel_rfl) ⟨laws_markFloat32S_i1_l0_ok v258, trivial⟩) (laws_markFloat32S_i1_den v258) hy hm h0 hA
noncomputable def laws_markFloat32S_i1_F : DFn := fun args L =>
  match args with
  | [.nilslc, .int .i64 v258] =>
    .call (laws_markFloat32S_i1_g v258) fun y => .leaf (.int .i64 y, L)
  | _ => .fail
theorem laws_markFloat32S_i1_Fok : COk Try.prog 21 laws_markFloat32S_i1_F true := by
  intro F L H args r L' hs ha hr
  unfold laws_markFloat32S_i1_F at hr
  split at hr
  · rename_i v258
    simp only [Tree.run] at hr
    obtain ⟨y, hy, hr⟩ := Option.bind_eq_some_iff.1 hr
    simp only [Tree.run, Option.some.injEq, Prod.mk.injEq] at hr
    obtain ⟨rfl, rfl⟩ := hr
    exact call_ok0 hs (fun k => (([] : List AV)[k]?).getD .top) [.nilslc, .int .i64 v258] [.nilslc, .int .i64 v258] (fun F' h0 hi hρ => ⟨by simp [DVs.av, DV.av, BR.av, hρ], laws_markFloat32S_i1_fn v258 F' (by rw [hi]; rfl) (st_nil hi) ⟨trivial, trivial, trivial⟩ hy⟩) rfl
  · cases hr
/-! laws.markMatrix -/
noncomputable def laws_markMatrix_i1_LO (v255 : Int) (v256 : Int) (v257 : Int) : LOr := fun id e L =>
  match id with
  | _ => .fail
noncomputable def laws_markMatrix_i1_tab : List (FuncId × DFn × Bool) := [(21, laws_markFloat32S_i1_F, true)]
theorem laws_markMatrix_i1_hO : OrcOk Try.prog (tabD laws_markMatrix_i1_tab) (tabM laws_markMatrix_i1_tab) := tabD_cons laws_markFloat32S_i1_Fok (tabD_nil _)
noncomputable def laws_markMatrix_i1_T (v257 : Int) : Tree (Int) :=
  (.call (laws_markFloat32S_i1_g v257) fun v262 =>
  .leaf v262)

noncomputable def laws_markMatrix_i1_g (v257 : Int) : Option (Int) := (laws_markMatrix_i1_T v257).run
def laws_markMatrix_i1_enc (v255 : Int) (v256 : Int) (v257 : Int) (y : Int) : Rs := (.int .i64 y, [])
theorem laws_markMatrix_i1_den (v255 : Int) (v256 : Int) (v257 : Int) : (den TT (tabD laws_markMatrix_i1_tab) (tabM laws_markMatrix_i1_tab) (laws_markMatrix_i1_LO v255 v256 v257) (codeOf Try.f31) ([.agg [.int .i64 v255, .int .i64 v256, .nilslc], .int .i64 v257] ++ List.replicate (Try.f31.ntmps - ([.agg [.int .i64 v255, .int .i64 v256, .nilslc], .int .i64 v257] : List DV).length) .undef) []).bind (retD TT Try.f31.results.toList 0) = (laws_markMatrix_i1_T v257).bind fun y => .leaf (laws_markMatrix_i1_enc v255 v256 v257 y) := by kernel_rfl
theorem laws_markMatrix_i1_fn (v255 : Int) (v256 : Int) (v257 : Int) (F : Fr) (hm : F.ids.length = 0) (h0 : St F [] F.H0) (hA : DVs.Ok F [] [.agg [.int .i64 v255, .int .i64 v256, .nilslc], .int .i64 v257]) {y : Int} (hy : laws_markMatrix_i1_g v257 = some y) : ∃ H', FnOk Try.prog 31 (DVs.av F [.agg [.int .i64 v255, .int .i64 v256, .nilslc], .int .i64 v257]) F.H0 ((laws_markMatrix_i1_enc v255 v256 v257 y).1.av F) H' ∧ St F (laws_markMatrix_i1_enc v255 v256 v257 y).2 H' ∧ (laws_markMatrix_i1_enc v255 v256 v257 y).1.Ok F (laws_markMatrix_i1_enc v255 v256 v257 y).2 :=
  fn_fin tok laws_markMatrix_i1_hO mixed Try.func31 Try.call31 (by kernel_rfl) (LoopsOk_eq (l := []) (by kernel_rfl) trivial) (laws_markMatrix_i1_den v255 v256 v257) hy hm h0 hA
noncomputable def laws_markMatrix_i1_F : DFn := fun args L =>
  match args with
  | [.agg [.int .i64 v255, .int .i64 v256, .nilslc], .int .i64 v257] =>
    .call (laws_markMatrix_i1_g v257) fun y => .leaf (.int .i64 y, L)
  | _ => .fail
theorem laws_markMatrix_i1_Fok : COk Try.prog 31 laws_markMatrix_i1_F true := by
  intro F L H args r L' hs ha hr
  unfold laws_markMatrix_i1_F at hr
  split at hr
  · rename_i v255 v256 v257
    simp only [Tree.run] at hr
    obtain ⟨y, hy, hr⟩ := Option.bind_eq_some_iff.1 hr
    simp only [Tree.run, Option.some.injEq, Prod.mk.injEq] at hr
    obtain ⟨rfl, rfl⟩ := hr
    exact call_ok0 hs (fun k => (([] : List AV)[k]?).getD .top) [.agg [.int .i64 v255, .int .i64 v256, .nilslc], .int .i64 v257] [.agg [.int .i64 v255, .int .i64 v256, .nilslc], .int .i64 v257] (fun F' h0 hi hρ => ⟨by simp [DVs.av, DV.av, BR.av, hρ], laws_markMatrix_i1_fn v255 v256 v257 F' (by rw [hi]; rfl) (st_nil hi) ⟨⟨trivial, trivial, trivial, trivial⟩, trivial, trivial⟩ hy⟩) rfl
  · cases hr
/-! laws.heldFloat32S -/
noncomputable def laws_heldFloat32S_l0_T (v268 : List Nat) (s : Int × Int) : Tree ((Int × Int) ⊕ ((Unit) ⊕ (Int))) :=
  (.br (decide (s.2 < ((v268.length : Nat) : Int))) (
   (.grd (inb s.2 v268.length) <|
   (.br (!feq .f32 (nth v268 (Int.toNat s.2)) (fofint .f32 s.1)) (
    .leaf (.inr (.inl ()))
   ) (
    .leaf (.inl (IntKind.i64.wrap (s.1 + (1 : Int)), IntKind.i64.wrap (s.2 + (1 : Int))))
   )))
  ) (
   .leaf (.inr (.inr s.1))
  ))

noncomputable def laws_heldFloat32S_l0_g (v268 : List Nat) (s0 : Int × Int) : Option ((Unit) ⊕ (Int)) := whileM (fun s => (laws_heldFloat32S_l0_T v268 s).run) s0
def laws_heldFloat32S_l0_E (v268 : List Nat) (v269 : Int) (s : Int × Int) : Sd := ([.bslc (BR.root 0) (.f32 v268), .int .i64 s.1, .top, .top, .top, .int .i64 s.2, .top, .top, .top, .top, .top, .top, .top, .top, .top, .top, .top, .top, .top, .top, .top, .top], [])
def laws_heldFloat32S_l0_X (v268 : List Nat) (v269 : Int) (x : (Unit) ⊕ (Int)) : Out := (match x with | .inl x => (.ret, [.top, .top, .top, .top, .int .i64 (-1 : Int), .top, .top, .top, .top, .top, .top, .top, .top, .top, .top, .top, .top, .top, .top, .top, .top, .top], []) | .inr x => (.normal, [.top, .int .i64 x, .top, .top, .top, .top, .top, .top, .top, .top, .top, .top, .top, .top, .top, .top, .top, .top, .top, .top, .top, .top], []))
def laws_heldFloat32S_l0_kill : List Nat := [0, 0, 1, 1, 1, 0, 1, 1, 1, 1, 1, 1, 1, 1, 1, 1, 1, 1, 1, 1, 1, 1]
def laws_heldFloat32S_l0_nx : Exit → List Nat
  | .exit 0 => [1, 0, 1, 1, 1, 1, 1, 1, 1, 1, 1, 1, 1, 1, 1, 1, 1, 1, 1, 1, 1, 1]
  | .ret => [1, 1, 1, 1, 0, 1, 1, 1, 1, 1, 1, 1, 1, 1, 1, 1, 1, 1, 1, 1, 1, 1]
  | _ => []
noncomputable def laws_heldFloat32S_LO (v268 : List Nat) (v269 : Int) : LOr := fun id e L =>
  match id with
  | 0 => .need (normA 0 laws_heldFloat32S_l0_kill e L = some (laws_heldFloat32S_l0_E v268 v269 ((gI (vAt e 1)), (gI (vAt e 5))))) (.call (laws_heldFloat32S_l0_g v268 ((gI (vAt e 1)), (gI (vAt e 5)))) fun x => .sum x (fun b0 => .leaf (laws_heldFloat32S_l0_X v268 v269 (.inl b0))) (fun c0 => .leaf (laws_heldFloat32S_l0_X v268 v269 (.inr c0))))
  | _ => .fail
noncomputable def laws_heldFloat32S_tab : List (FuncId × DFn × Bool) := []
theorem laws_heldFloat32S_hO : OrcOk Try.prog (tabD laws_heldFloat32S_tab) (tabM laws_heldFloat32S_tab) := tabD_nil _
theorem laws_heldFloat32S_l0_be (v268 : List Nat) (v269 : Int) (s : Int × Int) : bodyT TT (tabD laws_heldFloat32S_tab) (tabM laws_heldFloat32S_tab) (laws_heldFloat32S_LO v268 v269) 0 laws_heldFloat32S_l0_kill laws_heldFloat32S_l0_nx (bodyOf Try.f22 0) 0 (laws_heldFloat32S_l0_E v268 v269 s) = (laws_heldFloat32S_l0_T v268 s).bind fun y => .leaf (outS (laws_heldFloat32S_l0_E v268 v269) (laws_heldFloat32S_l0_X v268 v269) y) := by kernel_rfl
theorem laws_heldFloat32S_l0_ok (v268 : List Nat) (v269 : Int) : LSound Try.prog 0 (laws_heldFloat32S_LO v268 v269) 0 (bodyOf Try.f22 0) := by
  intro e L out h
  exact lo_ok (E := laws_heldFloat32S_l0_E v268 v269) (gT := laws_heldFloat32S_l0_T v268) (X := laws_heldFloat32S_l0_X v268 v269) (s0 := ((gI (vAt e 1)), (gI (vAt e 5)))) tok laws_heldFloat32S_hO mixed (LoopsOk_eq (l := []) (by kernel_rfl) trivial) (laws_heldFloat32S_l0_be v268 v269) rfl (by intro x; (cases x with | inl b => rfl | inr x => exact rfl)) h
noncomputable def laws_heldFloat32S_T (v268 : List Nat) (v269 : Int) : Tree (Int) :=
  (.need (some (laws_heldFloat32S_l0_E v268 v269 (v269, (0 : Int))) = some (laws_heldFloat32S_l0_E v268 v269 (v269, (0 : Int)))) <|
  (.call (laws_heldFloat32S_l0_g v268 (v269, (0 : Int))) fun v276 =>
  (.sum v276 (fun v277 =>
   .leaf (-1 : Int)
  ) (fun v278 =>
   .leaf v278
  ))))

noncomputable def laws_heldFloat32S_g (v268 : List Nat) (v269 : Int) : Option (Int) := (laws_heldFloat32S_T v268 v269).run
def laws_heldFloat32S_enc (v268 : List Nat) (v269 : Int) (y : Int) : Rs := (.int .i64 y, [])
theorem laws_heldFloat32S_den (v268 : List Nat) (v269 : Int) : (den TT (tabD laws_heldFloat32S_tab) (tabM laws_heldFloat32S_tab) (laws_heldFloat32S_LO v268 v269) (codeOf Try.f22) ([.bslc (BR.root 0) (.f32 v268), .int .i64 v269] ++ List.replicate (Try.f22.ntmps - ([.bslc (BR.root 0) (.f32 v268), .int .i64 v269] : List DV).length) .undef) []).bind (retD TT Try.f22.results.toList 0) = (laws_heldFloat32S_T v268 v269).bind fun y => .leaf (laws_heldFloat32S_enc v268 v269 y) := by kernel_rfl
theorem laws_heldFloat32S_fn (v268 : List Nat) (v269 : Int) (F : Fr) (hm : F.ids.length = 0) (h0 : St F [] F.H0) (hA : DVs.Ok F [] [.bslc (BR.root 0) (.f32 v268), .int .i64 v269]) {y : Int} (hy : laws_heldFloat32S_g v268 v269 = some y) : ∃ H', FnOk Try.prog 22 (DVs.av F [.bslc (BR.root 0) (.f32 v268), .int .i64 v269]) F.H0 ((laws_heldFloat32S_enc v268 v269 y).1.av F) H' ∧ St F (laws_heldFloat32S_enc v268 v269 y).2 H' ∧ (laws_heldFloat32S_enc v268 v269 y).1.Ok F (laws_heldFloat32S_enc v268 v269 y).2 :=
  fn_fin tok laws_heldFloat32S_hO mixed Try.func22 Try.call22 (by kernel_rfl) (LoopsOk_eq (l := [(0, bodyOf Try.f22 0)]) (by kernel_rfl) ⟨laws_heldFloat32S_l0_ok v268 v269, trivial⟩) (laws_heldFloat32S_den v268 v269) hy hm h0 hA
noncomputable def laws_heldFloat32S_F : DFn := fun args L =>
  match args with
  | [a1, .int .i64 v269] =>
    optT (rowF32 L a1) fun v268 =>
    .call (laws_heldFloat32S_g v268 v269) fun y => .leaf (.int .i64 y, L)
  | _ => .fail
theorem laws_heldFloat32S_Fok : COk Try.prog 22 laws_heldFloat32S_F true := by
  intro F L H args r L' hs ha hr
  unfold laws_heldFloat32S_F at hr
  split at hr
  · rename_i a1 v269
    obtain ⟨v268, hv268, hr⟩ := optT_run hr
    simp only [Tree.run] at hr
    obtain ⟨y, hy, hr⟩ := Option.bind_eq_some_iff.1 hr
    simp only [Tree.run, Option.some.injEq, Prod.mk.injEq] at hr
    obtain ⟨rfl, rfl⟩ := hr
    exact call_ok0 hs (fun k => (([a1.av F] : List AV)[k]?).getD .top) [a1, .int .i64 v269] [.bslc (BR.root 0) (.f32 v268), .int .i64 v269] (fun F' h0 hi hρ => ⟨by simp [DVs.av, DV.av, BR.av, hρ], laws_heldFloat32S_fn v268 v269 F' (by rw [hi]; rfl) (st_nil hi) ⟨bslc_ok hi (by rw [h0, hρ]; exact rowF32_ok hs (DVs.okAt ha 0 rfl) hv268), trivial, trivial⟩ hy⟩) rfl
  · cases hr
/-! laws.heldMatrix -/
noncomputable def laws_heldMatrix_LO (v264 : Int) (v265 : Int) (v266 : List Nat) (v267 : Int) : LOr := fun id e L =>
  match id with
  | _ => .fail
noncomputable def laws_heldMatrix_tab : List (FuncId × DFn × Bool) := [(22, laws_heldFloat32S_F, true)]
theorem laws_heldMatrix_hO : OrcOk Try.prog (tabD laws_heldMatrix_tab) (tabM laws_heldMatrix_tab) := tabD_cons laws_heldFloat32S_Fok (tabD_nil _)
noncomputable def laws_heldMatrix_T (v266 : List Nat) (v267 : Int) : Tree (Int) :=
  (.call (laws_heldFloat32S_g v266 v267) fun v279 =>
  (.br (decide (v279 < (0 : Int))) (
   .leaf (-1 : Int)
  ) (
   .leaf v279
  )))

noncomputable def laws_heldMatrix_g (v266 : List Nat) (v267 : Int) : Option (Int) := (laws_heldMatrix_T v266 v267).run
def laws_heldMatrix_enc (v264 : Int) (v265 : Int) (v266 : List Nat) (v267 : Int) (y : Int) : Rs := (.int .i64 y, [])
theorem laws_heldMatrix_den (v264 : Int) (v265 : Int) (v266 : List Nat) (v267 : Int) : (den TT (tabD laws_heldMatrix_tab) (tabM laws_heldMatrix_tab) (laws_heldMatrix_LO v264 v265 v266 v267) (codeOf Try.f32) ([.agg [.int .i64 v264, .int .i64 v265, .bslc (BR.root 0) (.f32 v266)], .int .i64 v267] ++ List.replicate (Try.f32.ntmps - ([.agg [.int .i64 v264, .int .i64 v265, .bslc (BR.root 0) (.f32 v266)], .int .i64 v267] : List DV).length) .undef) []).bind (retD TT Try.f32.results.toList 0) = (laws_heldMatrix_T v266 v267).bind fun y => .leaf (laws_heldMatrix_enc v264 v265 v266 v267 y) := by kernel_rfl
theorem laws_heldMatrix_fn (v264 : Int) (v265 : Int) (v266 : List Nat) (v267 : Int) (F : Fr) (hm : F.ids.length = 0) (h0 : St F [] F.H0) (hA : DVs.Ok F [] [.agg [.int .i64 v264, .int .i64 v265, .bslc (BR.root 0) (.f32 v266)], .int .i64 v267]) {y : Int} (hy : laws_heldMatrix_g v266 v267 = some y) : ∃ H', FnOk Try.prog 32 (DVs.av F [.agg [.int .i64 v264, .int .i64 v265, .bslc (BR.root 0) (.f32 v266)], .int .i64 v267]) F.H0 ((laws_heldMatrix_enc v264 v265 v266 v267 y).1.av F) H' ∧ St F (laws_heldMatrix_enc v264 v265 v266 v267 y).2 H' ∧ (laws_heldMatrix_enc v264 v265 v266 v267 y).1.Ok F (laws_heldMatrix_enc v264 v265 v266 v267 y).2 :=
  fn_fin tok laws_heldMatrix_hO mixed Try.func32 Try.call32 (by kernel_rfl) (LoopsOk_eq (l := []) (by kernel_rfl) trivial) (laws_heldMatrix_den v264 v265 v266 v267) hy hm h0 hA
noncomputable def laws_heldMatrix_F : DFn := fun args L =>
  match args with
  | [.agg [.int .i64 v264, .int .i64 v265, a1], .int .i64 v267] =>
    optT (rowF32 L a1) fun v266 =>
    .call (laws_heldMatrix_g v266 v267) fun y => .leaf (.int .i64 y, L)
  | _ => .fail
theorem laws_heldMatrix_Fok : COk Try.prog 32 laws_heldMatrix_F true := by
  intro F L H args r L' hs ha hr
  unfold laws_heldMatrix_F at hr
  split at hr
  · rename_i v264 v265 a1 v267
    obtain ⟨v266, hv266, hr⟩ := optT_run hr
    simp only [Tree.run] at hr
    obtain ⟨y, hy, hr⟩ := Option.bind_eq_some_iff.1 hr
    simp only [Tree.run, Option.some.injEq, Prod.mk.injEq] at hr
    obtain ⟨rfl, rfl⟩ := hr
    exact call_ok0 hs (fun k => (([a1.av F] : List AV)[k]?).getD .top) [.agg [.int .i64 v264, .int .i64 v265, a1], .int .i64 v267] [.agg [.int .i64 v264, .int .i64 v265, .bslc (BR.root 0) (.f32 v266)], .int .i64 v267] (fun F' h0 hi hρ => ⟨by simp [DVs.av, DV.av, BR.av, hρ], laws_heldMatrix_fn v264 v265 v266 v267 F' (by rw [hi]; rfl) (st_nil hi) ⟨⟨trivial, trivial, bslc_ok hi (by rw [h0, hρ]; exact rowF32_ok hs (DVs.okAt (DVs.okAt ha 0 rfl) 2 rfl) hv266), trivial⟩, trivial, trivial⟩ hy⟩) rfl
  · cases hr
/-! laws.FnExactRingMatrix -/
noncomputable def laws_FnExactRingMatrix_LO (v1 : List Nat) : LOr := fun id e L =>
  match id with
  | _ => .fail
noncomputable def laws_FnExactRingMatrix_tab : List (FuncId × DFn × Bool) := [(10, laws_toFloat32S_F, true), (28, spec_RingMatrix_F, true), (29, impl_RingMatrix_F, true), (30, laws_eqMatrix_F, true), (13, laws_eqFloat32S_F, true), (21, laws_markFloat32S_F, false), (31, (orD (fun args => match args with | [.agg [_, _, .nilslc], _] => true | _ => false) laws_markMatrix_i1_F laws_markMatrix_F), false), (32, laws_heldMatrix_F, true)]
theorem laws_FnExactRingMatrix_hO : OrcOk Try.prog (tabD laws_FnExactRingMatrix_tab) (tabM laws_FnExactRingMatrix_tab) := tabD_cons laws_toFloat32S_Fok (tabD_cons spec_RingMatrix_Fok (tabD_cons impl_RingMatrix_Fok (tabD_cons laws_eqMatrix_Fok (tabD_cons laws_eqFloat32S_Fok (tabD_cons laws_markFloat32S_Fok (tabD_cons (orD_ok (COk.weak laws_markMatrix_i1_Fok) laws_markMatrix_Fok) (tabD_cons laws_heldMatrix_Fok (tabD_nil _))))))))
noncomputable def laws_FnExactRingMatrix_T (v1 : List Nat) : Tree (Bool) :=
  (.br (decide ((1048576 : Int) < ((v1.length : Nat) : Int))) (
   .leaf true
  ) (
   (.call (laws_toFloat32S_g v1) fun v9 =>
   (.call (spec_RingMatrix_g v9) fun v75 =>
   (.sum v75 (fun v76 =>
    (.call (laws_toFloat32S_g v1) fun v78 =>
    (.call (impl_RingMatrix_g v78) fun v206 =>
    (.sum v206 (fun v207 =>
     (.call (laws_eqMatrix_g (0 : Int) (0 : Int) ([] : List Nat) (0 : Int) (0 : Int) ([] : List Nat)) fun v226 =>
     (.br (!v226) (
      .leaf false
     ) (
      (.br (!(false == false)) (
       .leaf false
      ) (
       (.call (laws_toFloat32S_g v1) fun v227 =>
       (.call (laws_eqFloat32S_g v78 v227) fun v228 =>
       (.br (!v228) (
        .leaf false
       ) (
        (.call (laws_markFloat32S_g v78 (1 : Int)) fun v244 =>
        (.grd (decide (v244.2.length = v78.length)) <|
        (.br (decide (v244.1 < (0 : Int))) (
         .leaf false
        ) (
         (.call (laws_eqMatrix_g (0 : Int) (0 : Int) ([] : List Nat) (0 : Int) (0 : Int) ([] : List Nat)) fun v245 =>
         (.br (!v245) (
          .leaf false
         ) (
          (.br (!(false == false)) (
           .leaf false
          ) (
           (.call (laws_markMatrix_i1_g (1 : Int)) fun v263 =>
           (.call (laws_heldMatrix_g ([] : List Nat) (1 : Int)) fun v280 =>
           (.br (decide (v280 < (0 : Int))) (
            .leaf false
           ) (
            (.br (!decide (v280 = v263)) (
             .leaf false
            ) (
             (.call (laws_toFloat32S_g v1) fun v281 =>
             (.call (impl_RingMatrix_g v281) fun v282 =>
             (.sum v282 (fun v283 =>
              (.call (laws_eqMatrix_g (0 : Int) (0 : Int) ([] : List Nat) (0 : Int) (0 : Int) ([] : List Nat)) fun v285 =>
              (.br (!v285) (
               .leaf false
              ) (
               (.br (!(false == false)) (
                .leaf false
               ) (
                (.call (laws_heldMatrix_g ([] : List Nat) (1 : Int)) fun v286 =>
                (.br (decide (v286 < (0 : Int))) (
                 .leaf false
                ) (
                 (.br (!decide (v286 = v263)) (
                  .leaf false
                 ) (
                  .leaf true
                 ))
                )))
               ))
              )))
             ) (fun v284 =>
              (.call (laws_eqMatrix_g v284.1 v284.2.1 v284.2.2 (0 : Int) (0 : Int) ([] : List Nat)) fun v287 =>
              (.br (!v287) (
               .leaf false
              ) (
               (.br (!(true == false)) (
                .leaf false
               ) (
                (.call (laws_heldMatrix_g ([] : List Nat) (1 : Int)) fun v288 =>
                (.br (decide (v288 < (0 : Int))) (
                 .leaf false
                ) (
                 (.br (!decide (v288 = v263)) (
                  .leaf false
                 ) (
                  .leaf true
                 ))
                )))
               ))
              )))
             ))))
            ))
           ))))
          ))
         )))
        ))))
       ))))
      ))
     )))
    ) (fun v208 =>
     (.call (laws_eqMatrix_g v208.1 v208.2.1 v208.2.2 (0 : Int) (0 : Int) ([] : List Nat)) fun v289 =>
     (.br (!v289) (
      .leaf false
     ) (
      (.br (!(true == false)) (
       .leaf false
      ) (
       (.call (laws_toFloat32S_g v1) fun v290 =>
       (.call (laws_eqFloat32S_g v78 v290) fun v291 =>
       (.br (!v291) (
        .leaf false
       ) (
        (.call (laws_markFloat32S_g v78 (1 : Int)) fun v292 =>
        (.grd (decide (v292.2.length = v78.length)) <|
        (.br (decide (v292.1 < (0 : Int))) (
         .leaf false
        ) (
         (.call (laws_eqMatrix_g v208.1 v208.2.1 v208.2.2 (0 : Int) (0 : Int) ([] : List Nat)) fun v293 =>
         (.br (!v293) (
          .leaf false
         ) (
          (.br (!(true == false)) (
           .leaf false
          ) (
           (.call (laws_markMatrix_g v208.2.2 (1 : Int)) fun v294 =>
           (.grd (decide (v294.2.length = v208.2.2.length)) <|
           (.call (laws_heldMatrix_g v294.2 (1 : Int)) fun v295 =>
           (.br (decide (v295 < (0 : Int))) (
            .leaf false
           ) (
            (.br (!decide (v295 = v294.1)) (
             .leaf false
            ) (
             (.call (laws_toFloat32S_g v1) fun v296 =>
             (.call (impl_RingMatrix_g v296) fun v297 =>
             (.sum v297 (fun v298 =>
              (.call (laws_eqMatrix_g (0 : Int) (0 : Int) ([] : List Nat) (0 : Int) (0 : Int) ([] : List Nat)) fun v300 =>
              (.br (!v300) (
               .leaf false
              ) (
               (.br (!(false == false)) (
                .leaf false
               ) (
                (.call (laws_heldMatrix_g v294.2 (1 : Int)) fun v301 =>
                (.br (decide (v301 < (0 : Int))) (
                 .leaf false
                ) (
                 (.br (!decide (v301 = v294.1)) (
                  .leaf false
                 ) (
                  .leaf true
                 ))
                )))
               ))
              )))
             ) (fun v299 =>
              (.call (laws_eqMatrix_g v299.1 v299.2.1 v299.2.2 (0 : Int) (0 : Int) ([] : List Nat)) fun v302 =>
              (.br (!v302) (
               .leaf false
              ) (
               (.br (!(true == false)) (
                .leaf false
               ) (
                (.call (laws_heldMatrix_g v294.2 (1 : Int)) fun v303 =>
                (.br (decide (v303 < (0 : Int))) (
                 .leaf false
                ) (
                 (.br (!decide (v303 = v294.1)) (
                  .leaf false
                 ) (
                  .leaf true
                 ))
                )))
               ))
              )))
             ))))
            ))
           )))))
          ))
         )))
        ))))
       ))))
      ))
     )))
    ))))
   ) (fun v77 =>
    (.call (laws_toFloat32S_g v1) fun v304 =>
    (.call (impl_RingMatrix_g v304) fun v305 =>
    (.sum v305 (fun v306 =>
     (.call (laws_eqMatrix_g (0 : Int) (0 : Int) ([] : List Nat) v77.1 v77.2.1 v77.2.2) fun v308 =>
     (.br (!v308) (
      .leaf false
     ) (
      (.br (!(false == true)) (
       .leaf false
      ) (
       (.call (laws_toFloat32S_g v1) fun v309 =>
       (.call (laws_eqFloat32S_g v304 v309) fun v310 =>
       (.br (!v310) (
        .leaf false
       ) (
        (.call (laws_markFloat32S_g v304 (1 : Int)) fun v311 =>
        (.grd (decide (v311.2.length = v304.length)) <|
        (.br (decide (v311.1 < (0 : Int))) (
         .leaf false
        ) (
         (.call (laws_eqMatrix_g (0 : Int) (0 : Int) ([] : List Nat) v77.1 v77.2.1 v77.2.2) fun v312 =>
         (.br (!v312) (
          .leaf false
         ) (
          (.br (!(false == true)) (
           .leaf false
          ) (
           (.call (laws_markMatrix_i1_g (1 : Int)) fun v313 =>
           (.call (laws_heldMatrix_g ([] : List Nat) (1 : Int)) fun v314 =>
           (.br (decide (v314 < (0 : Int))) (
            .leaf false
           ) (
            (.br (!decide (v314 = v313)) (
             .leaf false
            ) (
             (.call (laws_toFloat32S_g v1) fun v315 =>
             (.call (impl_RingMatrix_g v315) fun v316 =>
             (.sum v316 (fun v317 =>
              (.call (laws_eqMatrix_g (0 : Int) (0 : Int) ([] : List Nat) v77.1 v77.2.1 v77.2.2) fun v319 =>
              (.br (!v319) (
               .leaf false
              ) (
               (.br (!(false == true)) (
                .leaf false
               ) (
                (.call (laws_heldMatrix_g ([] : List Nat) (1 : Int)) fun v320 =>
                (.br (decide (v320 < (0 : Int))) (
                 .leaf false
                ) (
                 (.br (!decide (v320 = v313)) (
                  .leaf false
                 ) (
                  .leaf true
                 ))
                )))
               ))
              )))
             ) (fun v318 =>
              (.call (laws_eqMatrix_g v318.1 v318.2.1 v318.2.2 v77.1 v77.2.1 v77.2.2) fun v321 =>
              (.br (!v321) (
               .leaf false
              ) (
               (.br (!(true == true)) (
                .leaf false
               ) (
                (.call (laws_heldMatrix_g ([] : List Nat) (1 : Int)) fun v322 =>
                (.br (decide (v322 < (0 : Int))) (
                 .leaf false
                ) (
                 (.br (!decide (v322 = v313)) (
                  .leaf false
                 ) (
                  .leaf true
                 ))
                )))
               ))
              )))
             ))))
            ))
           ))))
          ))
         )))
        ))))
       ))))
      ))
     )))
    ) (fun v307 =>
     (.call (laws_eqMatrix_g v307.1 v307.2.1 v307.2.2 v77.1 v77.2.1 v77.2.2) fun v323 =>
     (.br (!v323) (
      .leaf false
     ) (
      (.br (!(true == true)) (
       .leaf false
      ) (
       (.call (laws_toFloat32S_g v1) fun v324 =>
       (.call (laws_eqFloat32S_g v304 v324) fun v325 =>
       (.br (!v325) (
        .leaf false
       ) (
        (.call (laws_markFloat32S_g v304 (1 : Int)) fun v326 =>
        (.grd (decide (v326.2.length = v304.length)) <|
        (.br (decide (v326.1 < (0 : Int))) (
         .leaf false
        ) (
         (.call (laws_eqMatrix_g v307.1 v307.2.1 v307.2.2 v77.1 v77.2.1 v77.2.2) fun v327 =>
         (.br (!v327) (
          .leaf false
         ) (
          (.br (!(true == true)) (
           .leaf false
          ) (
           (.call (laws_markMatrix_g v307.2.2 (1 : Int)) fun v328 =>
           (.grd (decide (v328.2.length = v307.2.2.length)) <|
           (.call (laws_heldMatrix_g v328.2 (1 : Int)) fun v329 =>
           (.br (decide (v329 < (0 : Int))) (
            .leaf false
           ) (
            (.br (!decide (v329 = v328.1)) (
             .leaf false
            ) (
             (.call (laws_toFloat32S_g v1) fun v330 =>
             (.call (impl_RingMatrix_g v330) fun v331 =>
             (.sum v331 (fun v332 =>
              (.call (laws_eqMatrix_g (0 : Int) (0 : Int) ([] : List Nat) v77.1 v77.2.1 v77.2.2) fun v334 =>
              (.br (!v334) (
               .leaf false
              ) (
               (.br (!(false == true)) (
                .leaf false
               ) (
                (.call (laws_heldMatrix_g v328.2 (1 : Int)) fun v335 =>
                (.br (decide (v335 < (0 : Int))) (
                 .leaf false
                ) (
                 (.br (!decide (v335 = v328.1)) (
                  .leaf false
                 ) (
                  .leaf true
                 ))
                )))
               ))
              )))
             ) (fun v333 =>
              (.call (laws_eqMatrix_g v333.1 v333.2.1 v333.2.2 v77.1 v77.2.1 v77.2.2) fun v336 =>
              (.br (!v336) (
               .leaf false
              ) (
               (.br (!(true == true)) (
                .leaf false
               ) (
                (.call (laws_heldMatrix_g v328.2 (1 : Int)) fun v337 =>
                (.br (decide (v337 < (0 : Int))) (
                 .leaf false
                ) (
                 (.br (!decide (v337 = v328.1)) (
                  .leaf false
                 ) (
                  .leaf true
                 ))
                )))
               ))
              )))
             ))))
            ))
           )))))
          ))
         )))
        ))))
       ))))
      ))
     )))
    ))))
   ))))
  ))

noncomputable def laws_FnExactRingMatrix_g (v1 : List Nat) : Option (Bool) := (laws_FnExactRingMatrix_T v1).run
def laws_FnExactRingMatrix_enc (v1 : List Nat) (y : Bool) : Rs := (.bool y, [])
theorem laws_FnExactRingMatrix_den (v1 : List Nat) : (den TT (tabD laws_FnExactRingMatrix_tab) (tabM laws_FnExactRingMatrix_tab) (laws_FnExactRingMatrix_LO v1) (codeOf Try.f7) ([.bslc (BR.root 0) (.f32 v1)] ++ List.replicate (Try.f7.ntmps - ([.bslc (BR.root 0) (.f32 v1)] : List DV).length) .undef) []).bind (retD TT Try.f7.results.toList 0) = (laws_FnExactRingMatrix_T v1).bind fun y => .leaf (laws_FnExactRingMatrix_enc v1 y) := by kernel_rfl
theorem laws_FnExactRingMatrix_fn (v1 : List Nat) (F : Fr) (hm : F.ids.length = 0) (h0 : St F [] F.H0) (hA : DVs.Ok F [] [.bslc (BR.root 0) (.f32 v1)]) {y : Bool} (hy : laws_FnExactRingMatrix_g v1 = some y) : ∃ H', FnOk Try.prog 7 (DVs.av F [.bslc (BR.root 0) (.f32 v1)]) F.H0 ((laws_FnExactRingMatrix_enc v1 y).1.av F) H' ∧ St F (laws_FnExactRingMatrix_enc v1 y).2 H' ∧ (laws_FnExactRingMatrix_enc v1 y).1.Ok F (laws_FnExactRingMatrix_enc v1 y).2 :=
  fn_fin tok laws_FnExactRingMatrix_hO mixed Try.func7 Try.call7 (by kernel_rfl) (LoopsOk_eq (l := []) (by kernel_rfl) trivial) (laws_FnExactRingMatrix_den v1) hy hm h0 hA
noncomputable def laws_FnExactRingMatrix_F : DFn := fun args L =>
  match args with
  | [a1] =>
    optT (rowF32 L a1) fun v1 =>
    .call (laws_FnExactRingMatrix_g v1) fun y => .leaf (.bool y, L)
  | _ => .fail
theorem laws_FnExactRingMatrix_Fok : COk Try.prog 7 laws_FnExactRingMatrix_F true := by
  intro F L H args r L' hs ha hr
  unfold laws_FnExactRingMatrix_F at hr
  split at hr
  · rename_i a1
    obtain ⟨v1, hv1, hr⟩ := optT_run hr
    simp only [Tree.run] at hr
    obtain ⟨y, hy, hr⟩ := Option.bind_eq_some_iff.1 hr
    simp only [Tree.run, Option.some.injEq, Prod.mk.injEq] at hr
    obtain ⟨rfl, rfl⟩ := hr
    exact call_ok0 hs (fun k => (([a1.av F] : List AV)[k]?).getD .top) [a1] [.bslc (BR.root 0) (.f32 v1)] (fun F' h0 hi hρ => ⟨by simp [DVs.av, DV.av, BR.av, hρ], laws_FnExactRingMatrix_fn v1 F' (by rw [hi]; rfl) (st_nil hi) ⟨bslc_ok hi (by rw [h0, hρ]; exact rowF32_ok hs (DVs.okAt ha 0 rfl) hv1), trivial⟩ hy⟩) rfl
  · cases hr
end Go.Proofs.Ytbhmllcnfdndhaa.AM
