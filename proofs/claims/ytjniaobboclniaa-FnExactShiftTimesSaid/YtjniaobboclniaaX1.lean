/- Functions: what they come to. -/
import Derived.Test.YtjniaobboclniaaBase
set_option maxRecDepth 100000
set_option maxHeartbeats 4000000
set_option linter.unusedSimpArgs false
set_option linter.unusedVariables false
namespace Go.Proofs.Ytjniaobboclniaa.AM
open Go.Proofs
/-! laws.toFloat32S -/
noncomputable def laws_toFloat32S_l0_T (v2 : List Nat) (s : Int × (List Nat)) : Tree ((Int × (List Nat)) ⊕ ((List Nat))) :=
  (.br (decide (s.1 < ((v2.length : Nat) : Int))) (
   (.grd (inb s.1 v2.length) <|
   (.grd (inb s.1 ((s.2).length)) <|
   .leaf (.inl (IntKind.i64.wrap (s.1 + (1 : Int)), List.set s.2 (Int.toNat s.1) (nth v2 (Int.toNat s.1))))))
  ) (
   .leaf (.inr s.2)
  ))

noncomputable def laws_toFloat32S_l0_g (v2 : List Nat) (s0 : Int × (List Nat)) : Option ((List Nat)) := whileM (fun s => (laws_toFloat32S_l0_T v2 s).run) s0
def laws_toFloat32S_l0_E (v2 : List Nat) (s : Int × (List Nat)) : Sd := ([.bslc (BR.root 0) (.f32 v2), .top, .top, .own 0 0 ((s.2).length), .int .i64 s.1, .top, .top, .top, .top, .top, .top, .top, .top, .top, .top, .top, .top, .top, .top, .top, .top, .top], [.row (.f32 s.2) 0])
def laws_toFloat32S_l0_X (v2 : List Nat) (x : (List Nat)) : Out := (.normal, [.top, .top, .top, .own 0 0 ((x).length), .top, .top, .top, .top, .top, .top, .top, .top, .top, .top, .top, .top, .top, .top, .top, .top, .top, .top], [.row (.f32 x) 0])
def laws_toFloat32S_l0_kill : List Nat := [0, 1, 1, 0, 0, 1, 1, 1, 1, 1, 1, 1, 1, 1, 1, 1, 1, 1, 1, 1, 1, 1]
def laws_toFloat32S_l0_nx : Exit → List Nat
  | .exit 0 => [1, 1, 1, 0, 1, 1, 1, 1, 1, 1, 1, 1, 1, 1, 1, 1, 1, 1, 1, 1, 1, 1]
  | .ret => [1, 1, 0, 1, 1, 1, 1, 1, 1, 1, 1, 1, 1, 1, 1, 1, 1, 1, 1, 1, 1, 1]
  | _ => []
noncomputable def laws_toFloat32S_LO (v2 : List Nat) : LOr := fun id e L =>
  match id with
  | 0 => .need (normA 0 laws_toFloat32S_l0_kill e L = some (laws_toFloat32S_l0_E v2 ((gI (vAt e 4)), (gRF L (vAt e 3))))) (.call (laws_toFloat32S_l0_g v2 ((gI (vAt e 4)), (gRF L (vAt e 3)))) fun x => .leaf (laws_toFloat32S_l0_X v2 x))
  | _ => .fail
noncomputable def laws_toFloat32S_tab : List (FuncId × DFn × Bool) := []
theorem laws_toFloat32S_hO : OrcOk Try.prog (tabD laws_toFloat32S_tab) (tabM laws_toFloat32S_tab) := tabD_nil _
theorem laws_toFloat32S_l0_be (v2 : List Nat) (s : Int × (List Nat)) : bodyT TT (tabD laws_toFloat32S_tab) (tabM laws_toFloat32S_tab) (laws_toFloat32S_LO v2) 0 laws_toFloat32S_l0_kill laws_toFloat32S_l0_nx (bodyOf Try.f29 0) 0 (laws_toFloat32S_l0_E v2 s) = (laws_toFloat32S_l0_T v2 s).bind fun y => .leaf (outS (laws_toFloat32S_l0_E v2) (laws_toFloat32S_l0_X v2) y) := by kernel_rfl
theorem laws_toFloat32S_l0_ok (v2 : List Nat) : LSound Try.prog 0 (laws_toFloat32S_LO v2) 0 (bodyOf Try.f29 0) := by
  intro e L out h
  exact lo_ok (E := laws_toFloat32S_l0_E v2) (gT := laws_toFloat32S_l0_T v2) (X := laws_toFloat32S_l0_X v2) (s0 := ((gI (vAt e 4)), (gRF L (vAt e 3)))) tok laws_toFloat32S_hO mixed (LoopsOk_eq (l := []) (by kernel_rfl) trivial) (laws_toFloat32S_l0_be v2) rfl (by intro x; rfl) h
noncomputable def laws_toFloat32S_T (v2 : List Nat) : Tree ((List Nat)) :=
  (.need (((v2.length : Nat) : Int) = ((v2.length : Nat) : Int)) <|
  (.grd (inb ((v2.length : Nat) : Int) (maxN + 1)) <|
  (.need (some (laws_toFloat32S_l0_E v2 ((0 : Int), List.replicate (Int.toNat ((v2.length : Nat) : Int)) (0 : Nat))) = some (laws_toFloat32S_l0_E v2 ((0 : Int), List.replicate (Int.toNat ((v2.length : Nat) : Int)) (0 : Nat)))) <|
  (.call (laws_toFloat32S_l0_g v2 ((0 : Int), List.replicate (Int.toNat ((v2.length : Nat) : Int)) (0 : Nat))) fun v8 =>
  .leaf v8))))

noncomputable def laws_toFloat32S_g (v2 : List Nat) : Option ((List Nat)) := (laws_toFloat32S_T v2).run
def laws_toFloat32S_enc (v2 : List Nat) (y : (List Nat)) : Rs := (.own 0 0 ((y).length), [.row (.f32 y) 0])
theorem laws_toFloat32S_den (v2 : List Nat) : (den TT (tabD laws_toFloat32S_tab) (tabM laws_toFloat32S_tab) (laws_toFloat32S_LO v2) (codeOf Try.f29) ([.bslc (BR.root 0) (.f32 v2)] ++ List.replicate (Try.f29.ntmps - ([.bslc (BR.root 0) (.f32 v2)] : List DV).length) .undef) []).bind (retD TT Try.f29.results.toList 0) = (laws_toFloat32S_T v2).bind fun y => .leaf (laws_toFloat32S_enc v2 y) := by kernel_rfl
theorem laws_toFloat32S_fn (v2 : List Nat) (F : Fr) (hm : F.ids.length = 0) (h0 : St F [] F.H0) (hA : DVs.Ok F [] [.bslc (BR.root 0) (.f32 v2)]) {y : (List Nat)} (hy : laws_toFloat32S_g v2 = some y) : ∃ H', FnOk Try.prog 29 (DVs.av F [.bslc (BR.root 0) (.f32 v2)]) F.H0 ((laws_toFloat32S_enc v2 y).1.av F) H' ∧ St F (laws_toFloat32S_enc v2 y).2 H' ∧ (laws_toFloat32S_enc v2 y).1.Ok F (laws_toFloat32S_enc v2 y).2 :=
  fn_fin tok laws_toFloat32S_hO mixed Try.func29 Try.call29 (by kernel_rfl) (LoopsOk_eq (l := [(0, bodyOf Try.f29 0)]) (by kernel_rfl) ⟨laws_toFloat32S_l0_ok v2, trivial⟩) (laws_toFloat32S_den v2) hy hm h0 hA
noncomputable def laws_toFloat32S_F : DFn := fun args L =>
  match args with
  | [a1] =>
    optT (rowF32 L a1) fun v2 =>
    .call (laws_toFloat32S_g v2) fun y => .leaf (.own (L.length + 0) 0 ((y).length), L ++ [.row (.f32 y) 0])
  | _ => .fail
theorem laws_toFloat32S_Fok : COk Try.prog 29 laws_toFloat32S_F true := by
  intro F L H args r L' hs ha hr
  unfold laws_toFloat32S_F at hr
  split at hr
  · rename_i a1
    obtain ⟨v2, hv2, hr⟩ := optT_run hr
    simp only [Tree.run] at hr
    obtain ⟨y, hy, hr⟩ := Option.bind_eq_some_iff.1 hr
    simp only [Tree.run, Option.some.injEq, Prod.mk.injEq] at hr
    obtain ⟨rfl, rfl⟩ := hr
    exact call_ok1 hs (fun k => (([a1.av F] : List AV)[k]?).getD .top) [a1] [.bslc (BR.root 0) (.f32 v2)] (fun F' h0 hi hρ => ⟨by simp [DVs.av, DV.av, BR.av, hρ], laws_toFloat32S_fn v2 F' (by rw [hi]; rfl) (st_nil hi) ⟨bslc_ok hi (by rw [h0, hρ]; exact rowF32_ok hs (DVs.okAt ha 0 rfl) hv2), trivial⟩ hy⟩) rfl rfl
  · cases hr
/-! spec.l01Finite -/
noncomputable def spec_l01Finite_LO (v14 : Nat) : LOr := fun id e L =>
  match id with
  | _ => .fail
noncomputable def spec_l01Finite_tab : List (FuncId × DFn × Bool) := []
theorem spec_l01Finite_hO : OrcOk Try.prog (tabD spec_l01Finite_tab) (tabM spec_l01Finite_tab) := tabD_nil _
noncomputable def spec_l01Finite_T (v14 : Nat) : Tree (Bool) :=
  .leaf (feq .f32 (fsub .f32 v14 v14) (0 : Nat))

noncomputable def spec_l01Finite_g (v14 : Nat) : Option (Bool) := (spec_l01Finite_T v14).run
def spec_l01Finite_enc (v14 : Nat) (y : Bool) : Rs := (.bool y, [])
theorem spec_l01Finite_den (v14 : Nat) : (den TT (tabD spec_l01Finite_tab) (tabM spec_l01Finite_tab) (spec_l01Finite_LO v14) (codeOf Try.f123) ([.flt .f32 v14] ++ List.replicate (Try.f123.ntmps - ([.flt .f32 v14] : List DV).length) .undef) []).bind (retD TT Try.f123.results.toList 0) = (spec_l01Finite_T v14).bind fun y => .leaf (spec_l01Finite_enc v14 y) := by kernel_rfl
theorem spec_l01Finite_fn (v14 : Nat) (F : Fr) (hm : F.ids.length = 0) (h0 : St F [] F.H0) (hA : DVs.Ok F [] [.flt .f32 v14]) {y : Bool} (hy : spec_l01Finite_g v14 = some y) : ∃ H', FnOk Try.prog 123 (DVs.av F [.flt .f32 v14]) F.H0 ((spec_l01Finite_enc v14 y).1.av F) H' ∧ St F (spec_l01Finite_enc v14 y).2 H' ∧ (spec_l01Finite_enc v14 y).1.Ok F (spec_l01Finite_enc v14 y).2 :=
  fn_fin tok spec_l01Finite_hO mixed Try.func123 Try.call123 (by kernel_rfl) (LoopsOk_eq (l := []) (by kernel_rfl) trivial) (spec_l01Finite_den v14) hy hm h0 hA
def spec_l01Finite_v (v14 : Nat) : Bool :=
  feq .f32 (fsub .f32 v14 v14) (0 : Nat)
theorem spec_l01Finite_tot (v14 : Nat) : spec_l01Finite_g v14 = some (spec_l01Finite_v v14) := by
  unfold spec_l01Finite_g spec_l01Finite_T spec_l01Finite_v
  simp only [Tree.run]
  repeat' (first | rfl | split)
noncomputable def spec_l01Finite_F : DFn := fun args L =>
  match args with
  | [.flt .f32 v14] =>
    .leaf (.bool (spec_l01Finite_v v14), L)
  | _ => .fail
theorem spec_l01Finite_Fok : COk Try.prog 123 spec_l01Finite_F true := by
  intro F L H args r L' hs ha hr
  unfold spec_l01Finite_F at hr
  split at hr
  · rename_i v14
    have hy := spec_l01Finite_tot v14
    generalize spec_l01Finite_v v14 = y at hy hr
    simp only [Tree.run, Option.some.injEq, Prod.mk.injEq] at hr
    obtain ⟨rfl, rfl⟩ := hr
    exact call_ok0 hs (fun k => (([] : List AV)[k]?).getD .top) [.flt .f32 v14] [.flt .f32 v14] (fun F' h0 hi hρ => ⟨by simp [DVs.av, DV.av, BR.av, hρ], spec_l01Finite_fn v14 F' (by rw [hi]; rfl) (st_nil hi) ⟨trivial, trivial⟩ hy⟩) rfl
  · cases hr
/-! spec.l02Finite -/
noncomputable def spec_l02Finite_l0_T (v12 : List Nat) (s : Int) : Tree ((Int) ⊕ ((Unit) ⊕ (Unit))) :=
  (.br (decide (s < ((v12.length : Nat) : Int))) (
   (.grd (inb s v12.length) <|
   (.br (!(spec_l01Finite_v (nth v12 (Int.toNat s)))) (
    .leaf (.inr (.inl ()))
   ) (
    .leaf (.inl (IntKind.i64.wrap (s + (1 : Int))))
   )))
  ) (
   .leaf (.inr (.inr ()))
  ))

noncomputable def spec_l02Finite_l0_g (v12 : List Nat) (s0 : Int) : Option ((Unit) ⊕ (Unit)) := whileM (fun s => (spec_l02Finite_l0_T v12 s).run) s0
def spec_l02Finite_l0_E (v12 : List Nat) (s : Int) : Sd := ([.bslc (BR.root 0) (.f32 v12), .top, .top, .int .i64 s, .top, .top, .top, .top, .top, .top, .top, .top, .top, .top, .top, .top], [])
def spec_l02Finite_l0_X (v12 : List Nat) (x : (Unit) ⊕ (Unit)) : Out := (match x with | .inl x => (.ret, [.top, .top, .lit false, .top, .top, .top, .top, .top, .top, .top, .top, .top, .top, .top, .top, .top], []) | .inr x => (.normal, [.top, .top, .top, .top, .top, .top, .top, .top, .top, .top, .top, .top, .top, .top, .top, .top], []))
def spec_l02Finite_l0_kill : List Nat := [0, 1, 1, 0, 1, 1, 1, 1, 1, 1, 1, 1, 1, 1, 1, 1]
def spec_l02Finite_l0_nx : Exit → List Nat
  | .exit 0 => [1, 1, 1, 1, 1, 1, 1, 1, 1, 1, 1, 1, 1, 1, 1, 1]
  | .ret => [1, 1, 0, 1, 1, 1, 1, 1, 1, 1, 1, 1, 1, 1, 1, 1]
  | _ => []
noncomputable def spec_l02Finite_LO (v12 : List Nat) : LOr := fun id e L =>
  match id with
  | 0 => .need (normA 0 spec_l02Finite_l0_kill e L = some (spec_l02Finite_l0_E v12 (gI (vAt e 3)))) (.call (spec_l02Finite_l0_g v12 (gI (vAt e 3))) fun x => .sum x (fun b0 => .leaf (spec_l02Finite_l0_X v12 (.inl b0))) (fun c0 => .leaf (spec_l02Finite_l0_X v12 (.inr c0))))
  | _ => .fail
noncomputable def spec_l02Finite_tab : List (FuncId × DFn × Bool) := [(123, spec_l01Finite_F, true)]
theorem spec_l02Finite_hO : OrcOk Try.prog (tabD spec_l02Finite_tab) (tabM spec_l02Finite_tab) := tabD_cons spec_l01Finite_Fok (tabD_nil _)
theorem spec_l02Finite_l0_be (v12 : List Nat) (s : Int) : bodyT TT (tabD spec_l02Finite_tab) (tabM spec_l02Finite_tab) (spec_l02Finite_LO v12) 0 spec_l02Finite_l0_kill spec_l02Finite_l0_nx (bodyOf Try.f140 0) 0 (spec_l02Finite_l0_E v12 s) = (spec_l02Finite_l0_T v12 s).bind fun y => .leaf (outS (spec_l02Finite_l0_E v12) (spec_l02Finite_l0_X v12) y) := by kernel_rfl
theorem spec_l02Finite_l0_ok (v12 : List Nat) : LSound Try.prog 0 (spec_l02Finite_LO v12) 0 (bodyOf Try.f140 0) := by
  intro e L out h
  exact lo_ok (E := spec_l02Finite_l0_E v12) (gT := spec_l02Finite_l0_T v12) (X := spec_l02Finite_l0_X v12) (s0 := (gI (vAt e 3))) tok spec_l02Finite_hO mixed (LoopsOk_eq (l := []) (by kernel_rfl) trivial) (spec_l02Finite_l0_be v12) rfl (by intro x; (cases x with | inl b => rfl | inr x => exact rfl)) h
noncomputable def spec_l02Finite_T (v12 : List Nat) : Tree (Bool) :=
  (.need (some (spec_l02Finite_l0_E v12 (0 : Int)) = some (spec_l02Finite_l0_E v12 (0 : Int))) <|
  (.call (spec_l02Finite_l0_g v12 (0 : Int)) fun v17 =>
  (.sum v17 (fun v18 =>
   .leaf false
  ) (fun v19 =>
   .leaf true
  ))))

noncomputable def spec_l02Finite_g (v12 : List Nat) : Option (Bool) := (spec_l02Finite_T v12).run
def spec_l02Finite_enc (v12 : List Nat) (y : Bool) : Rs := (.bool y, [])
theorem spec_l02Finite_den (v12 : List Nat) : (den TT (tabD spec_l02Finite_tab) (tabM spec_l02Finite_tab) (spec_l02Finite_LO v12) (codeOf Try.f140) ([.bslc (BR.root 0) (.f32 v12)] ++ List.replicate (Try.f140.ntmps - ([.bslc (BR.root 0) (.f32 v12)] : List DV).length) .undef) []).bind (retD TT Try.f140.results.toList 0) = (spec_l02Finite_T v12).bind fun y => .leaf (spec_l02Finite_enc v12 y) := by kernel_rfl
theorem spec_l02Finite_fn (v12 : List Nat) (F : Fr) (hm : F.ids.length = 0) (h0 : St F [] F.H0) (hA : DVs.Ok F [] [.bslc (BR.root 0) (.f32 v12)]) {y : Bool} (hy : spec_l02Finite_g v12 = some y) : ∃ H', FnOk Try.prog 140 (DVs.av F [.bslc (BR.root 0) (.f32 v12)]) F.H0 ((spec_l02Finite_enc v12 y).1.av F) H' ∧ St F (spec_l02Finite_enc v12 y).2 H' ∧ (spec_l02Finite_enc v12 y).1.Ok F (spec_l02Finite_enc v12 y).2 :=
  fn_fin tok spec_l02Finite_hO mixed Try.func140 Try.call140 (by kernel_rfl) (LoopsOk_eq (l := [(0, bodyOf Try.f140 0)]) (by kernel_rfl) ⟨spec_l02Finite_l0_ok v12, trivial⟩) (spec_l02Finite_den v12) hy hm h0 hA
noncomputable def spec_l02Finite_F : DFn := fun args L =>
  match args with
  | [a1] =>
    optT (rowF32 L a1) fun v12 =>
    .call (spec_l02Finite_g v12) fun y => .leaf (.bool y, L)
  | _ => .fail
theorem spec_l02Finite_Fok : COk Try.prog 140 spec_l02Finite_F true := by
  intro F L H args r L' hs ha hr
  unfold spec_l02Finite_F at hr
  split at hr
  · rename_i a1
    obtain ⟨v12, hv12, hr⟩ := optT_run hr
    simp only [Tree.run] at hr
    obtain ⟨y, hy, hr⟩ := Option.bind_eq_some_iff.1 hr
    simp only [Tree.run, Option.some.injEq, Prod.mk.injEq] at hr
    obtain ⟨rfl, rfl⟩ := hr
    exact call_ok0 hs (fun k => (([a1.av F] : List AV)[k]?).getD .top) [a1] [.bslc (BR.root 0) (.f32 v12)] (fun F' h0 hi hρ => ⟨by simp [DVs.av, DV.av, BR.av, hρ], spec_l02Finite_fn v12 F' (by rw [hi]; rfl) (st_nil hi) ⟨bslc_ok hi (by rw [h0, hρ]; exact rowF32_ok hs (DVs.okAt ha 0 rfl) hv12), trivial⟩ hy⟩) rfl
  · cases hr
/-! spec.l07Short -/
noncomputable def spec_l07Short_LO (v11 : List Nat) : LOr := fun id e L =>
  match id with
  | _ => .fail
noncomputable def spec_l07Short_tab : List (FuncId × DFn × Bool) := [(140, spec_l02Finite_F, true)]
theorem spec_l07Short_hO : OrcOk Try.prog (tabD spec_l07Short_tab) (tabM spec_l07Short_tab) := tabD_cons spec_l02Finite_Fok (tabD_nil _)
noncomputable def spec_l07Short_T (v11 : List Nat) : Tree (Bool) :=
  (.br (decide ((1 : Int) ≤ ((v11.length : Nat) : Int))) (
   (.br (decide (((v11.length : Nat) : Int) ≤ (12 : Int))) (
    (.call (spec_l02Finite_g v11) fun v20 =>
    .leaf v20)
   ) (
    .leaf false
   ))
  ) (
   .leaf false
  ))

noncomputable def spec_l07Short_g (v11 : List Nat) : Option (Bool) := (spec_l07Short_T v11).run
def spec_l07Short_enc (v11 : List Nat) (y : Bool) : Rs := (.bool y, [])
theorem spec_l07Short_den (v11 : List Nat) : (den TT (tabD spec_l07Short_tab) (tabM spec_l07Short_tab) (spec_l07Short_LO v11) (codeOf Try.f85) ([.bslc (BR.root 0) (.f32 v11)] ++ List.replicate (Try.f85.ntmps - ([.bslc (BR.root 0) (.f32 v11)] : List DV).length) .undef) []).bind (retD TT Try.f85.results.toList 0) = (spec_l07Short_T v11).bind fun y => .leaf (spec_l07Short_enc v11 y) := by kernel_rfl
theorem spec_l07Short_fn (v11 : List Nat) (F : Fr) (hm : F.ids.length = 0) (h0 : St F [] F.H0) (hA : DVs.Ok F [] [.bslc (BR.root 0) (.f32 v11)]) {y : Bool} (hy : spec_l07Short_g v11 = some y) : ∃ H', FnOk Try.prog 85 (DVs.av F [.bslc (BR.root 0) (.f32 v11)]) F.H0 ((spec_l07Short_enc v11 y).1.av F) H' ∧ St F (spec_l07Short_enc v11 y).2 H' ∧ (spec_l07Short_enc v11 y).1.Ok F (spec_l07Short_enc v11 y).2 :=
  fn_fin tok spec_l07Short_hO mixed Try.func85 Try.call85 (by kernel_rfl) (LoopsOk_eq (l := []) (by kernel_rfl) trivial) (spec_l07Short_den v11) hy hm h0 hA
noncomputable def spec_l07Short_F : DFn := fun args L =>
  match args with
  | [a1] =>
    optT (rowF32 L a1) fun v11 =>
    .call (spec_l07Short_g v11) fun y => .leaf (.bool y, L)
  | _ => .fail
theorem spec_l07Short_Fok : COk Try.prog 85 spec_l07Short_F true := by
  intro F L H args r L' hs ha hr
  unfold spec_l07Short_F at hr
  split at hr
  · rename_i a1
    obtain ⟨v11, hv11, hr⟩ := optT_run hr
    simp only [Tree.run] at hr
    obtain ⟨y, hy, hr⟩ := Option.bind_eq_some_iff.1 hr
    simp only [Tree.run, Option.some.injEq, Prod.mk.injEq] at hr
    obtain ⟨rfl, rfl⟩ := hr
    exact call_ok0 hs (fun k => (([a1.av F] : List AV)[k]?).getD .top) [a1] [.bslc (BR.root 0) (.f32 v11)] (fun F' h0 hi hρ => ⟨by simp [DVs.av, DV.av, BR.av, hρ], spec_l07Short_fn v11 F' (by rw [hi]; rfl) (st_nil hi) ⟨bslc_ok hi (by rw [h0, hρ]; exact rowF32_ok hs (DVs.okAt ha 0 rfl) hv11), trivial⟩ hy⟩) rfl
  · cases hr
/-! spec.l02Blank -/
noncomputable def spec_l02Blank_LO (v23 : Int) (v24 : Int) : LOr := fun id e L =>
  match id with
  | _ => .fail
noncomputable def spec_l02Blank_tab : List (FuncId × DFn × Bool) := []
theorem spec_l02Blank_hO : OrcOk Try.prog (tabD spec_l02Blank_tab) (tabM spec_l02Blank_tab) := tabD_nil _
noncomputable def spec_l02Blank_T (v23 : Int) (v24 : Int) : Tree (Int × Int) :=
  .leaf (v23, v24)

noncomputable def spec_l02Blank_g (v23 : Int) (v24 : Int) : Option (Int × Int) := (spec_l02Blank_T v23 v24).run
def spec_l02Blank_enc (v23 : Int) (v24 : Int) (y : Int × Int) : Rs := (.agg [.int .i64 y.1, .int .i64 y.2, .own 0 0 ((([] : List Nat)).length)], [.row (.f32 ([] : List Nat)) 0])
theorem spec_l02Blank_den (v23 : Int) (v24 : Int) : (den TT (tabD spec_l02Blank_tab) (tabM spec_l02Blank_tab) (spec_l02Blank_LO v23 v24) (codeOf Try.f141) ([.int .i64 v23, .int .i64 v24] ++ List.replicate (Try.f141.ntmps - ([.int .i64 v23, .int .i64 v24] : List DV).length) .undef) []).bind (retD TT Try.f141.results.toList 0) = (spec_l02Blank_T v23 v24).bind fun y => .leaf (spec_l02Blank_enc v23 v24 y) := by kernel_rfl
theorem spec_l02Blank_fn (v23 : Int) (v24 : Int) (F : Fr) (hm : F.ids.length = 0) (h0 : St F [] F.H0) (hA : DVs.Ok F [] [.int .i64 v23, .int .i64 v24]) {y : Int × Int} (hy : spec_l02Blank_g v23 v24 = some y) : ∃ H', FnOk Try.prog 141 (DVs.av F [.int .i64 v23, .int .i64 v24]) F.H0 ((spec_l02Blank_enc v23 v24 y).1.av F) H' ∧ St F (spec_l02Blank_enc v23 v24 y).2 H' ∧ (spec_l02Blank_enc v23 v24 y).1.Ok F (spec_l02Blank_enc v23 v24 y).2 :=
  fn_fin tok spec_l02Blank_hO mixed Try.func141 Try.call141 (by kernel_rfl) (LoopsOk_eq (l := []) (by kernel_rfl) trivial) (spec_l02Blank_den v23 v24) hy hm h0 hA
def spec_l02Blank_v (v23 : Int) (v24 : Int) : Int × Int :=
  (v23, v24)
theorem spec_l02Blank_tot (v23 : Int) (v24 : Int) : spec_l02Blank_g v23 v24 = some (spec_l02Blank_v v23 v24) := by
  unfold spec_l02Blank_g spec_l02Blank_T spec_l02Blank_v
  simp only [Tree.run]
  repeat' (first | rfl | split)
noncomputable def spec_l02Blank_F : DFn := fun args L =>
  match args with
  | [.int .i64 v23, .int .i64 v24] =>
    .leaf (.agg [.int .i64 ((spec_l02Blank_v v23 v24).1), .int .i64 ((spec_l02Blank_v v23 v24).2), .own (L.length + 0) 0 ((([] : List Nat)).length)], L ++ [.row (.f32 ([] : List Nat)) 0])
  | _ => .fail
theorem spec_l02Blank_Fok : COk Try.prog 141 spec_l02Blank_F true := by
  intro F L H args r L' hs ha hr
  unfold spec_l02Blank_F at hr
  split at hr
  · rename_i v23 v24
    have hy := spec_l02Blank_tot v23 v24
    generalize spec_l02Blank_v v23 v24 = y at hy hr
    simp only [Tree.run, Option.some.injEq, Prod.mk.injEq] at hr
    obtain ⟨rfl, rfl⟩ := hr
    exact call_ok1 hs (fun k => (([] : List AV)[k]?).getD .top) [.int .i64 v23, .int .i64 v24] [.int .i64 v23, .int .i64 v24] (fun F' h0 hi hρ => ⟨by simp [DVs.av, DV.av, BR.av, hρ], spec_l02Blank_fn v23 v24 F' (by rw [hi]; rfl) (st_nil hi) ⟨trivial, trivial, trivial⟩ hy⟩) rfl rfl
  · cases hr
/-! spec.l07Shift -/
noncomputable def spec_l07Shift_l2_T (v22 : List Nat) (v55 : Int) (s : Int × (List Nat)) : Tree ((Int × (List Nat)) ⊕ ((List Nat))) :=
  (.br (decide (s.1 < ((v22.length : Nat) : Int))) (
   (.br (decide (IntKind.i64.wrap (v55 - s.1) < (0 : Int))) (
    (.grd (inb (IntKind.i64.wrap (0 - (IntKind.i64.wrap (v55 - s.1)))) v22.length) <|
    (.grd (fits (s.2 ++ ([nth v22 (Int.toNat (IntKind.i64.wrap (0 - (IntKind.i64.wrap (v55 - s.1)))))] : List Nat)).length) <|
    .leaf (.inl (IntKind.i64.wrap (s.1 + (1 : Int)), s.2 ++ ([nth v22 (Int.toNat (IntKind.i64.wrap (0 - (IntKind.i64.wrap (v55 - s.1)))))] : List Nat)))))
   ) (
    (.grd (inb (IntKind.i64.wrap (v55 - s.1)) v22.length) <|
    (.grd (fits (s.2 ++ ([nth v22 (Int.toNat (IntKind.i64.wrap (v55 - s.1)))] : List Nat)).length) <|
    .leaf (.inl (IntKind.i64.wrap (s.1 + (1 : Int)), s.2 ++ ([nth v22 (Int.toNat (IntKind.i64.wrap (v55 - s.1)))] : List Nat)))))
   ))
  ) (
   .leaf (.inr s.2)
  ))

noncomputable def spec_l07Shift_l2_g (v22 : List Nat) (v55 : Int) (s0 : Int × (List Nat)) : Option ((List Nat)) := whileM (fun s => (spec_l07Shift_l2_T v22 v55 s).run) s0
def spec_l07Shift_l2_E (v22 : List Nat) (v55 : Int) (s : Int × (List Nat)) : Sd := ([.bslc (BR.root 0) (.f32 v22), .top, .ptr 0 (0 : Nat) 0 (3 : Nat), .int .i64 ((v22.length : Nat) : Int), .ptr 1 (0 : Nat) 0 (3 : Nat), .int .i64 v55, .int .i64 s.1, .top, .top, .top, .top, .top, .top, .top, .top, .top, .top, .top, .top, .top, .top, .top, .top, .top, .top, .top, .top, .top, .top, .top, .top, .top, .top, .top, .top, .top, .top, .top, .top, .top], [.gen [.int .i64 (0 : Int), .int .i64 (0 : Int), .nilslc] false 0, .gen [.int .i64 ((spec_l02Blank_v ((v22.length : Nat) : Int) ((v22.length : Nat) : Int)).1), .int .i64 ((spec_l02Blank_v ((v22.length : Nat) : Int) ((v22.length : Nat) : Int)).2), .own 2 0 ((s.2).length)] false 0, .row (.f32 s.2) 0])
def spec_l07Shift_l2_X (v22 : List Nat) (v55 : Int) (x : (List Nat)) : Out := (.normal, [.bslc (BR.root 0) (.f32 v22), .top, .ptr 0 (0 : Nat) 0 (3 : Nat), .int .i64 ((v22.length : Nat) : Int), .ptr 1 (0 : Nat) 0 (3 : Nat), .int .i64 v55, .top, .top, .top, .top, .top, .top, .top, .top, .top, .top, .top, .top, .top, .top, .top, .top, .top, .top, .top, .top, .top, .top, .top, .top, .top, .top, .top, .top, .top, .top, .top, .top, .top, .top], [.gen [.int .i64 (0 : Int), .int .i64 (0 : Int), .nilslc] false 0, .gen [.int .i64 ((spec_l02Blank_v ((v22.length : Nat) : Int) ((v22.length : Nat) : Int)).1), .int .i64 ((spec_l02Blank_v ((v22.length : Nat) : Int) ((v22.length : Nat) : Int)).2), .own 2 0 ((x).length)] false 0, .row (.f32 x) 0])
def spec_l07Shift_l2_kill : List Nat := [0, 1, 0, 0, 0, 0, 0, 1, 1, 1, 1, 1, 1, 1, 1, 1, 1, 1, 1, 1, 1, 1, 1, 1, 1, 1, 1, 1, 1, 1, 1, 1, 1, 1, 1, 1, 1, 1, 1, 1]
def spec_l07Shift_l2_nx : Exit → List Nat
  | .exit 0 => [1, 1, 0, 1, 0, 1, 1, 1, 1, 1, 1, 1, 1, 1, 1, 1, 1, 1, 1, 1, 1, 1, 1, 1, 1, 1, 1, 1, 1, 1, 1, 1, 1, 1, 1, 1, 1, 1, 1, 1]
  | .exit 1 => [0, 1, 0, 0, 0, 0, 1, 1, 1, 1, 1, 1, 1, 1, 1, 1, 1, 1, 1, 1, 1, 1, 1, 1, 1, 1, 1, 1, 1, 1, 1, 1, 1, 1, 1, 1, 1, 1, 1, 1]
  | .exit 2 => [0, 1, 0, 0, 0, 0, 1, 1, 1, 1, 1, 1, 1, 1, 1, 1, 1, 1, 1, 1, 1, 1, 1, 1, 1, 1, 1, 1, 1, 1, 1, 1, 1, 1, 1, 1, 1, 1, 1, 1]
  | .ret => [1, 1, 0, 1, 1, 1, 1, 1, 1, 1, 1, 1, 1, 1, 1, 1, 1, 1, 1, 1, 1, 1, 1, 1, 1, 1, 1, 1, 1, 1, 1, 1, 1, 1, 1, 1, 1, 1, 1, 1]
  | _ => []
noncomputable def spec_l07Shift_l0_T (v22 : List Nat) (s : Int × (List Nat)) : Tree ((Int × (List Nat)) ⊕ ((List Nat))) :=
  (.br (decide (s.1 < ((v22.length : Nat) : Int))) (
   (.need (some (spec_l07Shift_l2_E v22 s.1 ((0 : Int), s.2)) = some (spec_l07Shift_l2_E v22 s.1 ((0 : Int), s.2))) <|
   (.call (spec_l07Shift_l2_g v22 s.1 ((0 : Int), s.2)) fun v58 =>
   .leaf (.inl (IntKind.i64.wrap (s.1 + (1 : Int)), v58))))
  ) (
   .leaf (.inr s.2)
  ))

noncomputable def spec_l07Shift_l0_g (v22 : List Nat) (s0 : Int × (List Nat)) : Option ((List Nat)) := whileM (fun s => (spec_l07Shift_l0_T v22 s).run) s0
def spec_l07Shift_l0_E (v22 : List Nat) (s : Int × (List Nat)) : Sd := ([.bslc (BR.root 0) (.f32 v22), .top, .ptr 0 (0 : Nat) 0 (3 : Nat), .int .i64 ((v22.length : Nat) : Int), .ptr 1 (0 : Nat) 0 (3 : Nat), .int .i64 s.1, .top, .top, .top, .top, .top, .top, .top, .top, .top, .top, .top, .top, .top, .top, .top, .top, .top, .top, .top, .top, .top, .top, .top, .top, .top, .top, .top, .top, .top, .top, .top, .top, .top, .top], [.gen [.int .i64 (0 : Int), .int .i64 (0 : Int), .nilslc] false 0, .gen [.int .i64 ((spec_l02Blank_v ((v22.length : Nat) : Int) ((v22.length : Nat) : Int)).1), .int .i64 ((spec_l02Blank_v ((v22.length : Nat) : Int) ((v22.length : Nat) : Int)).2), .own 2 0 ((s.2).length)] false 0, .row (.f32 s.2) 0])
def spec_l07Shift_l0_X (v22 : List Nat) (x : (List Nat)) : Out := (.normal, [.top, .top, .ptr 0 (0 : Nat) 0 (3 : Nat), .top, .ptr 1 (0 : Nat) 0 (3 : Nat), .top, .top, .top, .top, .top, .top, .top, .top, .top, .top, .top, .top, .top, .top, .top, .top, .top, .top, .top, .top, .top, .top, .top, .top, .top, .top, .top, .top, .top, .top, .top, .top, .top, .top, .top], [.gen [.int .i64 (0 : Int), .int .i64 (0 : Int), .nilslc] false 0, .gen [.int .i64 ((spec_l02Blank_v ((v22.length : Nat) : Int) ((v22.length : Nat) : Int)).1), .int .i64 ((spec_l02Blank_v ((v22.length : Nat) : Int) ((v22.length : Nat) : Int)).2), .own 2 0 ((x).length)] false 0, .row (.f32 x) 0])
def spec_l07Shift_l0_kill : List Nat := [0, 1, 0, 0, 0, 0, 1, 1, 1, 1, 1, 1, 1, 1, 1, 1, 1, 1, 1, 1, 1, 1, 1, 1, 1, 1, 1, 1, 1, 1, 1, 1, 1, 1, 1, 1, 1, 1, 1, 1]
def spec_l07Shift_l0_nx : Exit → List Nat
  | .exit 0 => [1, 1, 0, 1, 0, 1, 1, 1, 1, 1, 1, 1, 1, 1, 1, 1, 1, 1, 1, 1, 1, 1, 1, 1, 1, 1, 1, 1, 1, 1, 1, 1, 1, 1, 1, 1, 1, 1, 1, 1]
  | .ret => [1, 1, 0, 1, 1, 1, 1, 1, 1, 1, 1, 1, 1, 1, 1, 1, 1, 1, 1, 1, 1, 1, 1, 1, 1, 1, 1, 1, 1, 1, 1, 1, 1, 1, 1, 1, 1, 1, 1, 1]
  | _ => []
noncomputable def spec_l07Shift_LO (v22 : List Nat) : LOr := fun id e L =>
  match id with
  | 2 => .need (normA 0 spec_l07Shift_l2_kill e L = some (spec_l07Shift_l2_E v22 (gI (vAt e 5)) ((gI (vAt e 6)), (gRF L (cAt L (vAt e 4) 2))))) (.call (spec_l07Shift_l2_g v22 (gI (vAt e 5)) ((gI (vAt e 6)), (gRF L (cAt L (vAt e 4) 2)))) fun x => .leaf (spec_l07Shift_l2_X v22 (gI (vAt e 5)) x))
  | 0 => .need (normA 0 spec_l07Shift_l0_kill e L = some (spec_l07Shift_l0_E v22 ((gI (vAt e 5)), (gRF L (cAt L (vAt e 4) 2))))) (.call (spec_l07Shift_l0_g v22 ((gI (vAt e 5)), (gRF L (cAt L (vAt e 4) 2)))) fun x => .leaf (spec_l07Shift_l0_X v22 x))
  | _ => .fail
noncomputable def spec_l07Shift_tab : List (FuncId × DFn × Bool) := [(141, spec_l02Blank_F, true)]
theorem spec_l07Shift_hO : OrcOk Try.prog (tabD spec_l07Shift_tab) (tabM spec_l07Shift_tab) := tabD_cons spec_l02Blank_Fok (tabD_nil _)
theorem spec_l07Shift_l2_be (v22 : List Nat) (v55 : Int) (s : Int × (List Nat)) : bodyT TT (tabD spec_l07Shift_tab) (tabM spec_l07Shift_tab) (spec_l07Shift_LO v22) 0 spec_l07Shift_l2_kill spec_l07Shift_l2_nx (bodyOf Try.f87 2) 2 (spec_l07Shift_l2_E v22 v55 s) = (spec_l07Shift_l2_T v22 v55 s).bind fun y => .leaf (outS (spec_l07Shift_l2_E v22 v55) (spec_l07Shift_l2_X v22 v55) y) := by kernel_rfl
theorem spec_l07Shift_l2_ok (v22 : List Nat) : LSound Try.prog 0 (spec_l07Shift_LO v22) 2 (bodyOf Try.f87 2) := by
  intro e L out h
  exact lo_ok (E := spec_l07Shift_l2_E v22 (gI (vAt e 5))) (gT := spec_l07Shift_l2_T v22 (gI (vAt e 5))) (X := spec_l07Shift_l2_X v22 (gI (vAt e 5))) (s0 := ((gI (vAt e 6)), (gRF L (cAt L (vAt e 4) 2)))) tok spec_l07Shift_hO mixed (LoopsOk_eq (l := []) (by kernel_rfl) trivial) (spec_l07Shift_l2_be v22 (gI (vAt e 5))) rfl (by intro x; rfl) h
theorem spec_l07Shift_l0_be (v22 : List Nat) (s : Int × (List Nat)) : bodyT TT (tabD spec_l07Shift_tab) (tabM spec_l07Shift_tab) (spec_l07Shift_LO v22) 0 spec_l07Shift_l0_kill spec_l07Shift_l0_nx (bodyOf Try.f87 0) 0 (spec_l07Shift_l0_E v22 s) = (spec_l07Shift_l0_T v22 s).bind fun y => .leaf (outS (spec_l07Shift_l0_E v22) (spec_l07Shift_l0_X v22) y) := by kernel_rfl
theorem spec_l07Shift_l0_ok (v22 : List Nat) : LSound Try.prog 0 (spec_l07Shift_LO v22) 0 (bodyOf Try.f87 0) := by
  intro e L out h
  exact lo_ok (E := spec_l07Shift_l0_E v22) (gT := spec_l07Shift_l0_T v22) (X := spec_l07Shift_l0_X v22) (s0 := ((gI (vAt e 5)), (gRF L (cAt L (vAt e 4) 2)))) tok spec_l07Shift_hO mixed (LoopsOk_eq (l := [(2, bodyOf Try.f87 2)]) (by kernel_rfl) ⟨spec_l07Shift_l2_ok v22, trivial⟩) (spec_l07Shift_l0_be v22) rfl (by intro x; rfl) h
noncomputable def spec_l07Shift_T (v22 : List Nat) : Tree (Int × Int × (List Nat)) :=
  (.need (some (spec_l07Shift_l0_E v22 ((0 : Int), ([] : List Nat))) = some (spec_l07Shift_l0_E v22 ((0 : Int), ([] : List Nat)))) <|
  (.call (spec_l07Shift_l0_g v22 ((0 : Int), ([] : List Nat))) fun v59 =>
  .leaf ((spec_l02Blank_v ((v22.length : Nat) : Int) ((v22.length : Nat) : Int)).1, (spec_l02Blank_v ((v22.length : Nat) : Int) ((v22.length : Nat) : Int)).2, v59)))

noncomputable def spec_l07Shift_g (v22 : List Nat) : Option (Int × Int × (List Nat)) := (spec_l07Shift_T v22).run
def spec_l07Shift_enc (v22 : List Nat) (y : Int × Int × (List Nat)) : Rs := (.agg [.int .i64 y.1, .int .i64 y.2.1, .own 0 0 ((y.2.2).length)], [.row (.f32 y.2.2) 0])
theorem spec_l07Shift_den (v22 : List Nat) : (den TT (tabD spec_l07Shift_tab) (tabM spec_l07Shift_tab) (spec_l07Shift_LO v22) (codeOf Try.f87) ([.bslc (BR.root 0) (.f32 v22)] ++ List.replicate (Try.f87.ntmps - ([.bslc (BR.root 0) (.f32 v22)] : List DV).length) .undef) []).bind (retD TT Try.f87.results.toList 0) = (spec_l07Shift_T v22).bind fun y => .leaf (spec_l07Shift_enc v22 y) := by kernel_rfl
theorem spec_l07Shift_fn (v22 : List Nat) (F : Fr) (hm : F.ids.length = 0) (h0 : St F [] F.H0) (hA : DVs.Ok F [] [.bslc (BR.root 0) (.f32 v22)]) {y : Int × Int × (List Nat)} (hy : spec_l07Shift_g v22 = some y) : ∃ H', FnOk Try.prog 87 (DVs.av F [.bslc (BR.root 0) (.f32 v22)]) F.H0 ((spec_l07Shift_enc v22 y).1.av F) H' ∧ St F (spec_l07Shift_enc v22 y).2 H' ∧ (spec_l07Shift_enc v22 y).1.Ok F (spec_l07Shift_enc v22 y).2 :=
  fn_fin tok spec_l07Shift_hO mixed Try.func87 Try.call87 (by kernel_rfl) (LoopsOk_eq (l := [(0, bodyOf Try.f87 0)]) (by kernel_rfl) ⟨spec_l07Shift_l0_ok v22, trivial⟩) (spec_l07Shift_den v22) hy hm h0 hA
noncomputable def spec_l07Shift_F : DFn := fun args L =>
  match args with
  | [a1] =>
    optT (rowF32 L a1) fun v22 =>
    .call (spec_l07Shift_g v22) fun y => .leaf (.agg [.int .i64 y.1, .int .i64 y.2.1, .own (L.length + 0) 0 ((y.2.2).length)], L ++ [.row (.f32 y.2.2) 0])
  | _ => .fail
theorem spec_l07Shift_Fok : COk Try.prog 87 spec_l07Shift_F true := by
  intro F L H args r L' hs ha hr
  unfold spec_l07Shift_F at hr
  split at hr
  · rename_i a1
    obtain ⟨v22, hv22, hr⟩ := optT_run hr
    simp only [Tree.run] at hr
    obtain ⟨y, hy, hr⟩ := Option.bind_eq_some_iff.1 hr
    simp only [Tree.run, Option.some.injEq, Prod.mk.injEq] at hr
    obtain ⟨rfl, rfl⟩ := hr
    exact call_ok1 hs (fun k => (([a1.av F] : List AV)[k]?).getD .top) [a1] [.bslc (BR.root 0) (.f32 v22)] (fun F' h0 hi hρ => ⟨by simp [DVs.av, DV.av, BR.av, hρ], spec_l07Shift_fn v22 F' (by rw [hi]; rfl) (st_nil hi) ⟨bslc_ok hi (by rw [h0, hρ]; exact rowF32_ok hs (DVs.okAt ha 0 rfl) hv22), trivial⟩ hy⟩) rfl rfl
  · cases hr
/-! spec.l00In -/
noncomputable def spec_l00In_LO (v69 : Int) (v70 : Int) (v71 : Int) : LOr := fun id e L =>
  match id with
  | _ => .fail
noncomputable def spec_l00In_tab : List (FuncId × DFn × Bool) := []
theorem spec_l00In_hO : OrcOk Try.prog (tabD spec_l00In_tab) (tabM spec_l00In_tab) := tabD_nil _
noncomputable def spec_l00In_T (v69 : Int) (v70 : Int) (v71 : Int) : Tree (Bool) :=
  (.br (decide (v70 ≤ v69)) (
   .leaf (decide (v69 ≤ v71))
  ) (
   .leaf false
  ))

noncomputable def spec_l00In_g (v69 : Int) (v70 : Int) (v71 : Int) : Option (Bool) := (spec_l00In_T v69 v70 v71).run
def spec_l00In_enc (v69 : Int) (v70 : Int) (v71 : Int) (y : Bool) : Rs := (.bool y, [])
theorem spec_l00In_den (v69 : Int) (v70 : Int) (v71 : Int) : (den TT (tabD spec_l00In_tab) (tabM spec_l00In_tab) (spec_l00In_LO v69 v70 v71) (codeOf Try.f130) ([.int .i64 v69, .int .i64 v70, .int .i64 v71] ++ List.replicate (Try.f130.ntmps - ([.int .i64 v69, .int .i64 v70, .int .i64 v71] : List DV).length) .undef) []).bind (retD TT Try.f130.results.toList 0) = (spec_l00In_T v69 v70 v71).bind fun y => .leaf (spec_l00In_enc v69 v70 v71 y) := by kernel_rfl
theorem spec_l00In_fn (v69 : Int) (v70 : Int) (v71 : Int) (F : Fr) (hm : F.ids.length = 0) (h0 : St F [] F.H0) (hA : DVs.Ok F [] [.int .i64 v69, .int .i64 v70, .int .i64 v71]) {y : Bool} (hy : spec_l00In_g v69 v70 v71 = some y) : ∃ H', FnOk Try.prog 130 (DVs.av F [.int .i64 v69, .int .i64 v70, .int .i64 v71]) F.H0 ((spec_l00In_enc v69 v70 v71 y).1.av F) H' ∧ St F (spec_l00In_enc v69 v70 v71 y).2 H' ∧ (spec_l00In_enc v69 v70 v71 y).1.Ok F (spec_l00In_enc v69 v70 v71 y).2 :=
  fn_fin tok spec_l00In_hO mixed Try.func130 Try.call130 (by kernel_rfl) (LoopsOk_eq (l := []) (by kernel_rfl) trivial) (spec_l00In_den v69 v70 v71) hy hm h0 hA
def spec_l00In_v (v69 : Int) (v70 : Int) (v71 : Int) : Bool :=
  if (decide (v70 ≤ v69)) = true then (
   decide (v69 ≤ v71)
  ) else (
   false
  )
theorem spec_l00In_tot (v69 : Int) (v70 : Int) (v71 : Int) : spec_l00In_g v69 v70 v71 = some (spec_l00In_v v69 v70 v71) := by
  unfold spec_l00In_g spec_l00In_T spec_l00In_v
  simp only [Tree.run]
  repeat' (first | rfl | split)
noncomputable def spec_l00In_F : DFn := fun args L =>
  match args with
  | [.int .i64 v69, .int .i64 v70, .int .i64 v71] =>
    .leaf (.bool (spec_l00In_v v69 v70 v71), L)
  | _ => .fail
theorem spec_l00In_Fok : COk Try.prog 130 spec_l00In_F true := by
  intro F L H args r L' hs ha hr
  unfold spec_l00In_F at hr
  split at hr
  · rename_i v69 v70 v71
    have hy := spec_l00In_tot v69 v70 v71
    generalize spec_l00In_v v69 v70 v71 = y at hy hr
    simp only [Tree.run, Option.some.injEq, Prod.mk.injEq] at hr
    obtain ⟨rfl, rfl⟩ := hr
    exact call_ok0 hs (fun k => (([] : List AV)[k]?).getD .top) [.int .i64 v69, .int .i64 v70, .int .i64 v71] [.int .i64 v69, .int .i64 v70, .int .i64 v71] (fun F' h0 hi hρ => ⟨by simp [DVs.av, DV.av, BR.av, hρ], spec_l00In_fn v69 v70 v71 F' (by rw [hi]; rfl) (st_nil hi) ⟨trivial, trivial, trivial, trivial⟩ hy⟩) rfl
  · cases hr
/-! spec.l02Sides -/
noncomputable def spec_l02Sides_LO (v67 : Int) (v68 : Int) : LOr := fun id e L =>
  match id with
  | _ => .fail
noncomputable def spec_l02Sides_tab : List (FuncId × DFn × Bool) := [(130, spec_l00In_F, true)]
theorem spec_l02Sides_hO : OrcOk Try.prog (tabD spec_l02Sides_tab) (tabM spec_l02Sides_tab) := tabD_cons spec_l00In_Fok (tabD_nil _)
noncomputable def spec_l02Sides_T (v67 : Int) (v68 : Int) : Tree (Bool) :=
  (.br (spec_l00In_v v67 (1 : Int) (12 : Int)) (
   .leaf (spec_l00In_v v68 (1 : Int) (12 : Int))
  ) (
   .leaf false
  ))

noncomputable def spec_l02Sides_g (v67 : Int) (v68 : Int) : Option (Bool) := (spec_l02Sides_T v67 v68).run
def spec_l02Sides_enc (v67 : Int) (v68 : Int) (y : Bool) : Rs := (.bool y, [])
theorem spec_l02Sides_den (v67 : Int) (v68 : Int) : (den TT (tabD spec_l02Sides_tab) (tabM spec_l02Sides_tab) (spec_l02Sides_LO v67 v68) (codeOf Try.f171) ([.int .i64 v67, .int .i64 v68] ++ List.replicate (Try.f171.ntmps - ([.int .i64 v67, .int .i64 v68] : List DV).length) .undef) []).bind (retD TT Try.f171.results.toList 0) = (spec_l02Sides_T v67 v68).bind fun y => .leaf (spec_l02Sides_enc v67 v68 y) := by kernel_rfl
theorem spec_l02Sides_fn (v67 : Int) (v68 : Int) (F : Fr) (hm : F.ids.length = 0) (h0 : St F [] F.H0) (hA : DVs.Ok F [] [.int .i64 v67, .int .i64 v68]) {y : Bool} (hy : spec_l02Sides_g v67 v68 = some y) : ∃ H', FnOk Try.prog 171 (DVs.av F [.int .i64 v67, .int .i64 v68]) F.H0 ((spec_l02Sides_enc v67 v68 y).1.av F) H' ∧ St F (spec_l02Sides_enc v67 v68 y).2 H' ∧ (spec_l02Sides_enc v67 v68 y).1.Ok F (spec_l02Sides_enc v67 v68 y).2 :=
  fn_fin tok spec_l02Sides_hO mixed Try.func171 Try.call171 (by kernel_rfl) (LoopsOk_eq (l := []) (by kernel_rfl) trivial) (spec_l02Sides_den v67 v68) hy hm h0 hA
def spec_l02Sides_v (v67 : Int) (v68 : Int) : Bool :=
  if (spec_l00In_v v67 (1 : Int) (12 : Int)) = true then (
   (spec_l00In_v v68 (1 : Int) (12 : Int))
  ) else (
   false
  )
theorem spec_l02Sides_tot (v67 : Int) (v68 : Int) : spec_l02Sides_g v67 v68 = some (spec_l02Sides_v v67 v68) := by
  unfold spec_l02Sides_g spec_l02Sides_T spec_l02Sides_v
  simp only [Tree.run]
  repeat' (first | rfl | split)
noncomputable def spec_l02Sides_F : DFn := fun args L =>
  match args with
  | [.int .i64 v67, .int .i64 v68] =>
    .leaf (.bool (spec_l02Sides_v v67 v68), L)
  | _ => .fail
theorem spec_l02Sides_Fok : COk Try.prog 171 spec_l02Sides_F true := by
  intro F L H args r L' hs ha hr
  unfold spec_l02Sides_F at hr
  split at hr
  · rename_i v67 v68
    have hy := spec_l02Sides_tot v67 v68
    generalize spec_l02Sides_v v67 v68 = y at hy hr
    simp only [Tree.run, Option.some.injEq, Prod.mk.injEq] at hr
    obtain ⟨rfl, rfl⟩ := hr
    exact call_ok0 hs (fun k => (([] : List AV)[k]?).getD .top) [.int .i64 v67, .int .i64 v68] [.int .i64 v67, .int .i64 v68] (fun F' h0 hi hρ => ⟨by simp [DVs.av, DV.av, BR.av, hρ], spec_l02Sides_fn v67 v68 F' (by rw [hi]; rfl) (st_nil hi) ⟨trivial, trivial, trivial⟩ hy⟩) rfl
  · cases hr
/-! spec.l02Is -/
noncomputable def spec_l02Is_LO (v64 : Int) (v65 : Int) (v66 : List Nat) : LOr := fun id e L =>
  match id with
  | _ => .fail
noncomputable def spec_l02Is_tab : List (FuncId × DFn × Bool) := [(171, spec_l02Sides_F, true), (140, spec_l02Finite_F, true)]
theorem spec_l02Is_hO : OrcOk Try.prog (tabD spec_l02Is_tab) (tabM spec_l02Is_tab) := tabD_cons spec_l02Sides_Fok (tabD_cons spec_l02Finite_Fok (tabD_nil _))
noncomputable def spec_l02Is_T (v64 : Int) (v65 : Int) (v66 : List Nat) : Tree (Bool) :=
  (.br (spec_l02Sides_v v64 v65) (
   (.br (decide (((v66.length : Nat) : Int) = IntKind.i64.wrap (v64 * v65))) (
    (.call (spec_l02Finite_g v66) fun v72 =>
    .leaf v72)
   ) (
    .leaf false
   ))
  ) (
   .leaf false
  ))

noncomputable def spec_l02Is_g (v64 : Int) (v65 : Int) (v66 : List Nat) : Option (Bool) := (spec_l02Is_T v64 v65 v66).run
def spec_l02Is_enc (v64 : Int) (v65 : Int) (v66 : List Nat) (y : Bool) : Rs := (.bool y, [])
theorem spec_l02Is_den (v64 : Int) (v65 : Int) (v66 : List Nat) : (den TT (tabD spec_l02Is_tab) (tabM spec_l02Is_tab) (spec_l02Is_LO v64 v65 v66) (codeOf Try.f124) ([.bptr (BR.root 0) [.int .i64 v64, .int .i64 v65, .bslc (BR.root 1) (.f32 v66)]] ++ List.replicate (Try.f124.ntmps - ([.bptr (BR.root 0) [.int .i64 v64, .int .i64 v65, .bslc (BR.root 1) (.f32 v66)]] : List DV).length) .undef) []).bind (retD TT Try.f124.results.toList 0) = (spec_l02Is_T v64 v65 v66).bind fun y => .leaf (spec_l02Is_enc v64 v65 v66 y) := by kernel_rfl
theorem spec_l02Is_fn (v64 : Int) (v65 : Int) (v66 : List Nat) (F : Fr) (hm : F.ids.length = 0) (h0 : St F [] F.H0) (hA : DVs.Ok F [] [.bptr (BR.root 0) [.int .i64 v64, .int .i64 v65, .bslc (BR.root 1) (.f32 v66)]]) {y : Bool} (hy : spec_l02Is_g v64 v65 v66 = some y) : ∃ H', FnOk Try.prog 124 (DVs.av F [.bptr (BR.root 0) [.int .i64 v64, .int .i64 v65, .bslc (BR.root 1) (.f32 v66)]]) F.H0 ((spec_l02Is_enc v64 v65 v66 y).1.av F) H' ∧ St F (spec_l02Is_enc v64 v65 v66 y).2 H' ∧ (spec_l02Is_enc v64 v65 v66 y).1.Ok F (spec_l02Is_enc v64 v65 v66 y).2 :=
  fn_fin tok spec_l02Is_hO mixed Try.func124 Try.call124 (by kernel_rfl) (LoopsOk_eq (l := []) (by kernel_rfl) trivial) (spec_l02Is_den v64 v65 v66) hy hm h0 hA
noncomputable def spec_l02Is_F : DFn := fun args L =>
  match args with
  | [a1] =>
    optT (cellsOf L 3 a1) fun cs0 =>
    (match cs0 with
    | [.int .i64 v64, .int .i64 v65, a2] =>
    optT (rowF32 L a2) fun v66 =>
    .call (spec_l02Is_g v64 v65 v66) fun y => .leaf (.bool y, L)
    | _ => .fail)
  | _ => .fail
theorem spec_l02Is_Fok : COk Try.prog 124 spec_l02Is_F true := by
  intro F L H args r L' hs ha hr
  unfold spec_l02Is_F at hr
  split at hr
  · rename_i a1
    obtain ⟨cs0, hcp0, hr⟩ := optT_run hr
    split at hr
    · rename_i v64 v65 a2
      obtain ⟨v66, hv66, hr⟩ := optT_run hr
      simp only [Tree.run] at hr
      obtain ⟨y, hy, hr⟩ := Option.bind_eq_some_iff.1 hr
      simp only [Tree.run, Option.some.injEq, Prod.mk.injEq] at hr
      obtain ⟨rfl, rfl⟩ := hr
      exact call_ok0 hs (fun k => (([a1.av F, a2.av F] : List AV)[k]?).getD .top) [a1] [.bptr (BR.root 0) [.int .i64 v64, .int .i64 v65, .bslc (BR.root 1) (.f32 v66)]] (fun F' h0 hi hρ => ⟨by simp [DVs.av, DV.av, BR.av, hρ], spec_l02Is_fn v64 v65 v66 F' (by rw [hi]; rfl) (st_nil hi) ⟨bptr_ok hi (by rw [h0]; simpa [DVs.av, DV.av, BR.av, hρ] using (cellsOf_ok hs (DVs.okAt ha 0 rfl) hcp0).1) ⟨trivial, trivial, bslc_ok hi (by rw [h0, hρ]; exact rowF32_ok hs (DVs.okAt (cellsOf_ok hs (DVs.okAt ha 0 rfl) hcp0).2 2 rfl) hv66), trivial⟩, trivial⟩ hy⟩) rfl
    · cases hr
  · cases hr
/-! spec.l02Give -/
noncomputable def spec_l02Give_LO (v61 : Int) (v62 : Int) (v63 : List Nat) : LOr := fun id e L =>
  match id with
  | _ => .fail
noncomputable def spec_l02Give_tab : List (FuncId × DFn × Bool) := [(124, spec_l02Is_F, true)]
theorem spec_l02Give_hO : OrcOk Try.prog (tabD spec_l02Give_tab) (tabM spec_l02Give_tab) := tabD_cons spec_l02Is_Fok (tabD_nil _)
noncomputable def spec_l02Give_T (v61 : Int) (v62 : Int) (v63 : List Nat) : Tree ((Unit) ⊕ (Int × Int)) :=
  (.call (spec_l02Is_g v61 v62 v63) fun v73 =>
  (.br (!v73) (
   .leaf (.inl ())
  ) (
   .leaf (.inr (v61, v62))
  )))

noncomputable def spec_l02Give_g (v61 : Int) (v62 : Int) (v63 : List Nat) : Option ((Unit) ⊕ (Int × Int)) := (spec_l02Give_T v61 v62 v63).run
def spec_l02Give_enc (v61 : Int) (v62 : Int) (v63 : List Nat) (y : (Unit) ⊕ (Int × Int)) : Rs := (match y with | .inl y => (.tup [.agg [.int .i64 (0 : Int), .int .i64 (0 : Int), .nilslc], .lit false], []) | .inr y => (.tup [.agg [.int .i64 y.1, .int .i64 y.2, .bslc (BR.root 0) (.f32 v63)], .lit true], []))
theorem spec_l02Give_den (v61 : Int) (v62 : Int) (v63 : List Nat) : (den TT (tabD spec_l02Give_tab) (tabM spec_l02Give_tab) (spec_l02Give_LO v61 v62 v63) (codeOf Try.f86) ([.agg [.int .i64 v61, .int .i64 v62, .bslc (BR.root 0) (.f32 v63)]] ++ List.replicate (Try.f86.ntmps - ([.agg [.int .i64 v61, .int .i64 v62, .bslc (BR.root 0) (.f32 v63)]] : List DV).length) .undef) []).bind (retD TT Try.f86.results.toList 0) = (spec_l02Give_T v61 v62 v63).bind fun y => .leaf (spec_l02Give_enc v61 v62 v63 y) := by kernel_rfl
theorem spec_l02Give_fn (v61 : Int) (v62 : Int) (v63 : List Nat) (F : Fr) (hm : F.ids.length = 0) (h0 : St F [] F.H0) (hA : DVs.Ok F [] [.agg [.int .i64 v61, .int .i64 v62, .bslc (BR.root 0) (.f32 v63)]]) {y : (Unit) ⊕ (Int × Int)} (hy : spec_l02Give_g v61 v62 v63 = some y) : ∃ H', FnOk Try.prog 86 (DVs.av F [.agg [.int .i64 v61, .int .i64 v62, .bslc (BR.root 0) (.f32 v63)]]) F.H0 ((spec_l02Give_enc v61 v62 v63 y).1.av F) H' ∧ St F (spec_l02Give_enc v61 v62 v63 y).2 H' ∧ (spec_l02Give_enc v61 v62 v63 y).1.Ok F (spec_l02Give_enc v61 v62 v63 y).2 :=
  fn_fin tok spec_l02Give_hO mixed Try.func86 Try.call86 (by kernel_rfl) (LoopsOk_eq (l := []) (by kernel_rfl) trivial) (spec_l02Give_den v61 v62 v63) hy hm h0 hA
noncomputable def spec_l02Give_F : DFn := fun args L =>
  match args with
  | [.agg [.int .i64 v61, .int .i64 v62, a1]] =>
    optT (rowF32 L a1) fun v63 =>
    .call (spec_l02Give_g v61 v62 v63) fun y => .sum y (fun y0 => .leaf (.tup [.agg [.int .i64 (0 : Int), .int .i64 (0 : Int), .nilslc], .lit false], L)) (fun z0 => .leaf (.tup [.agg [.int .i64 z0.1, .int .i64 z0.2, a1], .lit true], L))
  | _ => .fail
theorem spec_l02Give_Fok : COk Try.prog 86 spec_l02Give_F true := by
  intro F L H args r L' hs ha hr
  unfold spec_l02Give_F at hr
  split at hr
  · rename_i v61 v62 a1
    obtain ⟨v63, hv63, hr⟩ := optT_run hr
    simp only [Tree.run] at hr
    obtain ⟨y, hy, hr⟩ := Option.bind_eq_some_iff.1 hr
    cases y with
    | inl y =>
      simp only [Tree.run, Option.some.injEq, Prod.mk.injEq] at hr
      obtain ⟨rfl, rfl⟩ := hr
      exact call_ok0 hs (fun k => (([a1.av F] : List AV)[k]?).getD .top) [.agg [.int .i64 v61, .int .i64 v62, a1]] [.agg [.int .i64 v61, .int .i64 v62, .bslc (BR.root 0) (.f32 v63)]] (fun F' h0 hi hρ => ⟨by simp [DVs.av, DV.av, BR.av, hρ], spec_l02Give_fn v61 v62 v63 F' (by rw [hi]; rfl) (st_nil hi) ⟨⟨trivial, trivial, bslc_ok hi (by rw [h0, hρ]; exact rowF32_ok hs (DVs.okAt (DVs.okAt ha 0 rfl) 2 rfl) hv63), trivial⟩, trivial⟩ hy⟩) rfl
    | inr y =>
      simp only [Tree.run, Option.some.injEq, Prod.mk.injEq] at hr
      obtain ⟨rfl, rfl⟩ := hr
      exact call_al0 hs (fun k => (([a1.av F] : List AV)[k]?).getD .top) [.agg [.int .i64 v61, .int .i64 v62, a1]] [.agg [.int .i64 v61, .int .i64 v62, .bslc (BR.root 0) (.f32 v63)]] (fun F' h0 hi hρ => ⟨by simp [DVs.av, DV.av, BR.av, hρ], spec_l02Give_fn v61 v62 v63 F' (by rw [hi]; rfl) (st_nil hi) ⟨⟨trivial, trivial, bslc_ok hi (by rw [h0, hρ]; exact rowF32_ok hs (DVs.okAt (DVs.okAt ha 0 rfl) 2 rfl) hv63), trivial⟩, trivial⟩ hy⟩) (fun F' h0 hi hρ => by simp [spec_l02Give_enc, DVs.av, DV.av, BR.av, hρ]) ⟨⟨trivial, trivial, (DVs.okAt (DVs.okAt ha 0 rfl) 2 rfl), trivial⟩, trivial, trivial⟩
  · cases hr
/-! spec.ShiftMatrix -/
noncomputable def spec_ShiftMatrix_LO (v10 : List Nat) : LOr := fun id e L =>
  match id with
  | _ => .fail
noncomputable def spec_ShiftMatrix_tab : List (FuncId × DFn × Bool) := [(85, spec_l07Short_F, true), (87, spec_l07Shift_F, true), (86, spec_l02Give_F, true)]
theorem spec_ShiftMatrix_hO : OrcOk Try.prog (tabD spec_ShiftMatrix_tab) (tabM spec_ShiftMatrix_tab) := tabD_cons spec_l07Short_Fok (tabD_cons spec_l07Shift_Fok (tabD_cons spec_l02Give_Fok (tabD_nil _)))
noncomputable def spec_ShiftMatrix_T (v10 : List Nat) : Tree ((Unit) ⊕ (Int × Int × (List Nat))) :=
  (.call (spec_l07Short_g v10) fun v21 =>
  (.br (!v21) (
   .leaf (.inl ())
  ) (
   (.call (spec_l07Shift_g v10) fun v60 =>
   (.call (spec_l02Give_g v60.1 v60.2.1 v60.2.2) fun v74 =>
   (.sum v74 (fun v75 =>
    .leaf (.inl ())
   ) (fun v76 =>
    .leaf (.inr (v76.1, v76.2, v60.2.2))
   ))))
  )))

noncomputable def spec_ShiftMatrix_g (v10 : List Nat) : Option ((Unit) ⊕ (Int × Int × (List Nat))) := (spec_ShiftMatrix_T v10).run
def spec_ShiftMatrix_enc (v10 : List Nat) (y : (Unit) ⊕ (Int × Int × (List Nat))) : Rs := (match y with | .inl y => (.tup [.agg [.int .i64 (0 : Int), .int .i64 (0 : Int), .nilslc], .lit false], []) | .inr y => (.tup [.agg [.int .i64 y.1, .int .i64 y.2.1, .own 0 0 ((y.2.2).length)], .lit true], [.row (.f32 y.2.2) 0]))
theorem spec_ShiftMatrix_den (v10 : List Nat) : (den TT (tabD spec_ShiftMatrix_tab) (tabM spec_ShiftMatrix_tab) (spec_ShiftMatrix_LO v10) (codeOf Try.f28) ([.bslc (BR.root 0) (.f32 v10)] ++ List.replicate (Try.f28.ntmps - ([.bslc (BR.root 0) (.f32 v10)] : List DV).length) .undef) []).bind (retD TT Try.f28.results.toList 0) = (spec_ShiftMatrix_T v10).bind fun y => .leaf (spec_ShiftMatrix_enc v10 y) := by kernel_rfl
theorem spec_ShiftMatrix_fn (v10 : List Nat) (F : Fr) (hm : F.ids.length = 0) (h0 : St F [] F.H0) (hA : DVs.Ok F [] [.bslc (BR.root 0) (.f32 v10)]) {y : (Unit) ⊕ (Int × Int × (List Nat))} (hy : spec_ShiftMatrix_g v10 = some y) : ∃ H', FnOk Try.prog 28 (DVs.av F [.bslc (BR.root 0) (.f32 v10)]) F.H0 ((spec_ShiftMatrix_enc v10 y).1.av F) H' ∧ St F (spec_ShiftMatrix_enc v10 y).2 H' ∧ (spec_ShiftMatrix_enc v10 y).1.Ok F (spec_ShiftMatrix_enc v10 y).2 :=
  fn_fin tok spec_ShiftMatrix_hO mixed Try.func28 Try.call28 (by kernel_rfl) (LoopsOk_eq (l := []) (by kernel_rfl) trivial) (spec_ShiftMatrix_den v10) hy hm h0 hA
noncomputable def spec_ShiftMatrix_F : DFn := fun args L =>
  match args with
  | [a1] =>
    optT (rowF32 L a1) fun v10 =>
    .call (spec_ShiftMatrix_g v10) fun y => .sum y (fun y0 => .leaf (.tup [.agg [.int .i64 (0 : Int), .int .i64 (0 : Int), .nilslc], .lit false], L)) (fun z0 => .leaf (.tup [.agg [.int .i64 z0.1, .int .i64 z0.2.1, .own (L.length + 0) 0 ((z0.2.2).length)], .lit true], L ++ [.row (.f32 z0.2.2) 0]))
  | _ => .fail
theorem spec_ShiftMatrix_Fok : COk Try.prog 28 spec_ShiftMatrix_F true := by
  intro F L H args r L' hs ha hr
  unfold spec_ShiftMatrix_F at hr
  split at hr
  · rename_i a1
    obtain ⟨v10, hv10, hr⟩ := optT_run hr
    simp only [Tree.run] at hr
    obtain ⟨y, hy, hr⟩ := Option.bind_eq_some_iff.1 hr
    cases y with
    | inl y =>
      simp only [Tree.run, Option.some.injEq, Prod.mk.injEq] at hr
      obtain ⟨rfl, rfl⟩ := hr
      exact call_ok0 hs (fun k => (([a1.av F] : List AV)[k]?).getD .top) [a1] [.bslc (BR.root 0) (.f32 v10)] (fun F' h0 hi hρ => ⟨by simp [DVs.av, DV.av, BR.av, hρ], spec_ShiftMatrix_fn v10 F' (by rw [hi]; rfl) (st_nil hi) ⟨bslc_ok hi (by rw [h0, hρ]; exact rowF32_ok hs (DVs.okAt ha 0 rfl) hv10), trivial⟩ hy⟩) rfl
    | inr y =>
      simp only [Tree.run, Option.some.injEq, Prod.mk.injEq] at hr
      obtain ⟨rfl, rfl⟩ := hr
      exact call_ok1 hs (fun k => (([a1.av F] : List AV)[k]?).getD .top) [a1] [.bslc (BR.root 0) (.f32 v10)] (fun F' h0 hi hρ => ⟨by simp [DVs.av, DV.av, BR.av, hρ], spec_ShiftMatrix_fn v10 F' (by rw [hi]; rfl) (st_nil hi) ⟨bslc_ok hi (by rw [h0, hρ]; exact rowF32_ok hs (DVs.okAt ha 0 rfl) hv10), trivial⟩ hy⟩) rfl rfl
  · cases hr
/-! impl.length[float32] -/
noncomputable def impl_lengthF_LO (v84 : List Nat) : LOr := fun id e L =>
  match id with
  | _ => .fail
noncomputable def impl_lengthF_tab : List (FuncId × DFn × Bool) := []
theorem impl_lengthF_hO : OrcOk Try.prog (tabD impl_lengthF_tab) (tabM impl_lengthF_tab) := tabD_nil _
noncomputable def impl_lengthF_T (v84 : List Nat) : Tree (Int) :=
  .leaf ((v84.length : Nat) : Int)

noncomputable def impl_lengthF_g (v84 : List Nat) : Option (Int) := (impl_lengthF_T v84).run
def impl_lengthF_enc (v84 : List Nat) (y : Int) : Rs := (.int .i64 y, [])
theorem impl_lengthF_den (v84 : List Nat) : (den TT (tabD impl_lengthF_tab) (tabM impl_lengthF_tab) (impl_lengthF_LO v84) (codeOf Try.f142) ([.bslc (BR.root 0) (.f32 v84)] ++ List.replicate (Try.f142.ntmps - ([.bslc (BR.root 0) (.f32 v84)] : List DV).length) .undef) []).bind (retD TT Try.f142.results.toList 0) = (impl_lengthF_T v84).bind fun y => .leaf (impl_lengthF_enc v84 y) := by kernel_rfl
theorem impl_lengthF_fn (v84 : List Nat) (F : Fr) (hm : F.ids.length = 0) (h0 : St F [] F.H0) (hA : DVs.Ok F [] [.bslc (BR.root 0) (.f32 v84)]) {y : Int} (hy : impl_lengthF_g v84 = some y) : ∃ H', FnOk Try.prog 142 (DVs.av F [.bslc (BR.root 0) (.f32 v84)]) F.H0 ((impl_lengthF_enc v84 y).1.av F) H' ∧ St F (impl_lengthF_enc v84 y).2 H' ∧ (impl_lengthF_enc v84 y).1.Ok F (impl_lengthF_enc v84 y).2 :=
  fn_fin tok impl_lengthF_hO mixed Try.func142 Try.call142 (by kernel_rfl) (LoopsOk_eq (l := []) (by kernel_rfl) trivial) (impl_lengthF_den v84) hy hm h0 hA
def impl_lengthF_v (v84 : List Nat) : Int :=
  ((v84.length : Nat) : Int)
theorem impl_lengthF_tot (v84 : List Nat) : impl_lengthF_g v84 = some (impl_lengthF_v v84) := by
  unfold impl_lengthF_g impl_lengthF_T impl_lengthF_v
  simp only [Tree.run]
  repeat' (first | rfl | split)
noncomputable def impl_lengthF_F : DFn := fun args L =>
  match args with
  | [a1] =>
    optT (rowF32 L a1) fun v84 =>
    .leaf (.int .i64 (impl_lengthF_v v84), L)
  | _ => .fail
theorem impl_lengthF_Fok : COk Try.prog 142 impl_lengthF_F true := by
  intro F L H args r L' hs ha hr
  unfold impl_lengthF_F at hr
  split at hr
  · rename_i a1
    obtain ⟨v84, hv84, hr⟩ := optT_run hr
    have hy := impl_lengthF_tot v84
    generalize impl_lengthF_v v84 = y at hy hr
    simp only [Tree.run, Option.some.injEq, Prod.mk.injEq] at hr
    obtain ⟨rfl, rfl⟩ := hr
    exact call_ok0 hs (fun k => (([a1.av F] : List AV)[k]?).getD .top) [a1] [.bslc (BR.root 0) (.f32 v84)] (fun F' h0 hi hρ => ⟨by simp [DVs.av, DV.av, BR.av, hρ], impl_lengthF_fn v84 F' (by rw [hi]; rfl) (st_nil hi) ⟨bslc_ok hi (by rw [h0, hρ]; exact rowF32_ok hs (DVs.okAt ha 0 rfl) hv84), trivial⟩ hy⟩) rfl
  · cases hr
/-! impl.inRange -/
noncomputable def impl_inRange_LO (v85 : Int) (v86 : Int) (v87 : Int) : LOr := fun id e L =>
  match id with
  | _ => .fail
noncomputable def impl_inRange_tab : List (FuncId × DFn × Bool) := []
theorem impl_inRange_hO : OrcOk Try.prog (tabD impl_inRange_tab) (tabM impl_inRange_tab) := tabD_nil _
noncomputable def impl_inRange_T (v85 : Int) (v86 : Int) (v87 : Int) : Tree (Bool) :=
  (.br (decide (v86 ≤ v85)) (
   .leaf (decide (v85 ≤ v87))
  ) (
   .leaf false
  ))

noncomputable def impl_inRange_g (v85 : Int) (v86 : Int) (v87 : Int) : Option (Bool) := (impl_inRange_T v85 v86 v87).run
def impl_inRange_enc (v85 : Int) (v86 : Int) (v87 : Int) (y : Bool) : Rs := (.bool y, [])
theorem impl_inRange_den (v85 : Int) (v86 : Int) (v87 : Int) : (den TT (tabD impl_inRange_tab) (tabM impl_inRange_tab) (impl_inRange_LO v85 v86 v87) (codeOf Try.f80) ([.int .i64 v85, .int .i64 v86, .int .i64 v87] ++ List.replicate (Try.f80.ntmps - ([.int .i64 v85, .int .i64 v86, .int .i64 v87] : List DV).length) .undef) []).bind (retD TT Try.f80.results.toList 0) = (impl_inRange_T v85 v86 v87).bind fun y => .leaf (impl_inRange_enc v85 v86 v87 y) := by kernel_rfl
theorem impl_inRange_fn (v85 : Int) (v86 : Int) (v87 : Int) (F : Fr) (hm : F.ids.length = 0) (h0 : St F [] F.H0) (hA : DVs.Ok F [] [.int .i64 v85, .int .i64 v86, .int .i64 v87]) {y : Bool} (hy : impl_inRange_g v85 v86 v87 = some y) : ∃ H', FnOk Try.prog 80 (DVs.av F [.int .i64 v85, .int .i64 v86, .int .i64 v87]) F.H0 ((impl_inRange_enc v85 v86 v87 y).1.av F) H' ∧ St F (impl_inRange_enc v85 v86 v87 y).2 H' ∧ (impl_inRange_enc v85 v86 v87 y).1.Ok F (impl_inRange_enc v85 v86 v87 y).2 :=
  fn_fin tok impl_inRange_hO mixed Try.func80 Try.call80 (by kernel_rfl) (LoopsOk_eq (l := []) (by kernel_rfl) trivial) (impl_inRange_den v85 v86 v87) hy hm h0 hA
def impl_inRange_v (v85 : Int) (v86 : Int) (v87 : Int) : Bool :=
  if (decide (v86 ≤ v85)) = true then (
   decide (v85 ≤ v87)
  ) else (
   false
  )
theorem impl_inRange_tot (v85 : Int) (v86 : Int) (v87 : Int) : impl_inRange_g v85 v86 v87 = some (impl_inRange_v v85 v86 v87) := by
  unfold impl_inRange_g impl_inRange_T impl_inRange_v
  simp only [Tree.run]
  repeat' (first | rfl | split)
noncomputable def impl_inRange_F : DFn := fun args L =>
  match args with
  | [.int .i64 v85, .int .i64 v86, .int .i64 v87] =>
    .leaf (.bool (impl_inRange_v v85 v86 v87), L)
  | _ => .fail
theorem impl_inRange_Fok : COk Try.prog 80 impl_inRange_F true := by
  intro F L H args r L' hs ha hr
  unfold impl_inRange_F at hr
  split at hr
  · rename_i v85 v86 v87
    have hy := impl_inRange_tot v85 v86 v87
    generalize impl_inRange_v v85 v86 v87 = y at hy hr
    simp only [Tree.run, Option.some.injEq, Prod.mk.injEq] at hr
    obtain ⟨rfl, rfl⟩ := hr
    exact call_ok0 hs (fun k => (([] : List AV)[k]?).getD .top) [.int .i64 v85, .int .i64 v86, .int .i64 v87] [.int .i64 v85, .int .i64 v86, .int .i64 v87] (fun F' h0 hi hρ => ⟨by simp [DVs.av, DV.av, BR.av, hρ], impl_inRange_fn v85 v86 v87 F' (by rw [hi]; rfl) (st_nil hi) ⟨trivial, trivial, trivial, trivial⟩ hy⟩) rfl
  · cases hr
/-! math.IsNaN -/
noncomputable def math_IsNaN_LO (v95 : Nat) : LOr := fun id e L =>
  match id with
  | _ => .fail
noncomputable def math_IsNaN_tab : List (FuncId × DFn × Bool) := []
theorem math_IsNaN_hO : OrcOk Try.prog (tabD math_IsNaN_tab) (tabM math_IsNaN_tab) := tabD_nil _
noncomputable def math_IsNaN_T (v95 : Nat) : Tree (Bool) :=
  .leaf (!feq .f64 v95 v95)

noncomputable def math_IsNaN_g (v95 : Nat) : Option (Bool) := (math_IsNaN_T v95).run
def math_IsNaN_enc (v95 : Nat) (y : Bool) : Rs := (.bool y, [])
theorem math_IsNaN_den (v95 : Nat) : (den TT (tabD math_IsNaN_tab) (tabM math_IsNaN_tab) (math_IsNaN_LO v95) (codeOf Try.f188) ([.flt .f64 v95] ++ List.replicate (Try.f188.ntmps - ([.flt .f64 v95] : List DV).length) .undef) []).bind (retD TT Try.f188.results.toList 0) = (math_IsNaN_T v95).bind fun y => .leaf (math_IsNaN_enc v95 y) := by kernel_rfl
theorem math_IsNaN_fn (v95 : Nat) (F : Fr) (hm : F.ids.length = 0) (h0 : St F [] F.H0) (hA : DVs.Ok F [] [.flt .f64 v95]) {y : Bool} (hy : math_IsNaN_g v95 = some y) : ∃ H', FnOk Try.prog 188 (DVs.av F [.flt .f64 v95]) F.H0 ((math_IsNaN_enc v95 y).1.av F) H' ∧ St F (math_IsNaN_enc v95 y).2 H' ∧ (math_IsNaN_enc v95 y).1.Ok F (math_IsNaN_enc v95 y).2 :=
  fn_fin tok math_IsNaN_hO mixed Try.func188 Try.call188 (by kernel_rfl) (LoopsOk_eq (l := []) (by kernel_rfl) trivial) (math_IsNaN_den v95) hy hm h0 hA
def math_IsNaN_v (v95 : Nat) : Bool :=
  !feq .f64 v95 v95
theorem math_IsNaN_tot (v95 : Nat) : math_IsNaN_g v95 = some (math_IsNaN_v v95) := by
  unfold math_IsNaN_g math_IsNaN_T math_IsNaN_v
  simp only [Tree.run]
  repeat' (first | rfl | split)
noncomputable def math_IsNaN_F : DFn := fun args L =>
  match args with
  | [.flt .f64 v95] =>
    .leaf (.bool (math_IsNaN_v v95), L)
  | _ => .fail
theorem math_IsNaN_Fok : COk Try.prog 188 math_IsNaN_F true := by
  intro F L H args r L' hs ha hr
  unfold math_IsNaN_F at hr
  split at hr
  · rename_i v95
    have hy := math_IsNaN_tot v95
    generalize math_IsNaN_v v95 = y at hy hr
    simp only [Tree.run, Option.some.injEq, Prod.mk.injEq] at hr
    obtain ⟨rfl, rfl⟩ := hr
    exact call_ok0 hs (fun k => (([] : List AV)[k]?).getD .top) [.flt .f64 v95] [.flt .f64 v95] (fun F' h0 hi hρ => ⟨by simp [DVs.av, DV.av, BR.av, hρ], math_IsNaN_fn v95 F' (by rw [hi]; rfl) (st_nil hi) ⟨trivial, trivial⟩ hy⟩) rfl
  · cases hr
/-! math.IsInf -/
noncomputable def math_IsInf_LO (v96 : Nat) (v97 : Int) : LOr := fun id e L =>
  match id with
  | _ => .fail
noncomputable def math_IsInf_tab : List (FuncId × DFn × Bool) := [(191, Abs_F, true)]
theorem math_IsInf_hO : OrcOk Try.prog (tabD math_IsInf_tab) (tabM math_IsInf_tab) := tabD_cons Abs_Fok (tabD_nil _)
noncomputable def math_IsInf_T (v96 : Nat) (v97 : Int) : Tree (Bool) :=
  (.br (decide (v97 = (0 : Int))) (
   .leaf (fgrt .f64 (fabs v96) (9218868437227405311 : Nat))
  ) (
   (.br (decide (v97 < (0 : Int))) (
    .leaf (fgrt .f64 (fneg .f64 v96) (9218868437227405311 : Nat))
   ) (
    .leaf (fgrt .f64 v96 (9218868437227405311 : Nat))
   ))
  ))

noncomputable def math_IsInf_g (v96 : Nat) (v97 : Int) : Option (Bool) := (math_IsInf_T v96 v97).run
def math_IsInf_enc (v96 : Nat) (v97 : Int) (y : Bool) : Rs := (.bool y, [])
theorem math_IsInf_den (v96 : Nat) (v97 : Int) : (den TT (tabD math_IsInf_tab) (tabM math_IsInf_tab) (math_IsInf_LO v96 v97) (codeOf Try.f189) ([.flt .f64 v96, .int .i64 v97] ++ List.replicate (Try.f189.ntmps - ([.flt .f64 v96, .int .i64 v97] : List DV).length) .undef) []).bind (retD TT Try.f189.results.toList 0) = (math_IsInf_T v96 v97).bind fun y => .leaf (math_IsInf_enc v96 v97 y) := by kernel_rfl
theorem math_IsInf_fn (v96 : Nat) (v97 : Int) (F : Fr) (hm : F.ids.length = 0) (h0 : St F [] F.H0) (hA : DVs.Ok F [] [.flt .f64 v96, .int .i64 v97]) {y : Bool} (hy : math_IsInf_g v96 v97 = some y) : ∃ H', FnOk Try.prog 189 (DVs.av F [.flt .f64 v96, .int .i64 v97]) F.H0 ((math_IsInf_enc v96 v97 y).1.av F) H' ∧ St F (math_IsInf_enc v96 v97 y).2 H' ∧ (math_IsInf_enc v96 v97 y).1.Ok F (math_IsInf_enc v96 v97 y).2 :=
  fn_fin tok math_IsInf_hO mixed Try.func189 Try.call189 (by kernel_rfl) (LoopsOk_eq (l := []) (by kernel_rfl) trivial) (math_IsInf_den v96 v97) hy hm h0 hA
def math_IsInf_v (v96 : Nat) (v97 : Int) : Bool :=
  if (decide (v97 = (0 : Int))) = true then (
   fgrt .f64 (fabs v96) (9218868437227405311 : Nat)
  ) else (
   if (decide (v97 < (0 : Int))) = true then (
    fgrt .f64 (fneg .f64 v96) (9218868437227405311 : Nat)
   ) else (
    fgrt .f64 v96 (9218868437227405311 : Nat)
   )
  )
theorem math_IsInf_tot (v96 : Nat) (v97 : Int) : math_IsInf_g v96 v97 = some (math_IsInf_v v96 v97) := by
  unfold math_IsInf_g math_IsInf_T math_IsInf_v
  simp only [Tree.run]
  repeat' (first | rfl | split)
noncomputable def math_IsInf_F : DFn := fun args L =>
  match args with
  | [.flt .f64 v96, .int .i64 v97] =>
    .leaf (.bool (math_IsInf_v v96 v97), L)
  | _ => .fail
theorem math_IsInf_Fok : COk Try.prog 189 math_IsInf_F true := by
  intro F L H args r L' hs ha hr
  unfold math_IsInf_F at hr
  split at hr
  · rename_i v96 v97
    have hy := math_IsInf_tot v96 v97
    generalize math_IsInf_v v96 v97 = y at hy hr
    simp only [Tree.run, Option.some.injEq, Prod.mk.injEq] at hr
    obtain ⟨rfl, rfl⟩ := hr
    exact call_ok0 hs (fun k => (([] : List AV)[k]?).getD .top) [.flt .f64 v96, .int .i64 v97] [.flt .f64 v96, .int .i64 v97] (fun F' h0 hi hρ => ⟨by simp [DVs.av, DV.av, BR.av, hρ], math_IsInf_fn v96 v97 F' (by rw [hi]; rfl) (st_nil hi) ⟨trivial, trivial, trivial⟩ hy⟩) rfl
  · cases hr
/-! impl.isFinite64 -/
noncomputable def impl_isFinite64_LO (v94 : Nat) : LOr := fun id e L =>
  match id with
  | _ => .fail
noncomputable def impl_isFinite64_tab : List (FuncId × DFn × Bool) := [(188, math_IsNaN_F, true), (189, math_IsInf_F, true)]
theorem impl_isFinite64_hO : OrcOk Try.prog (tabD impl_isFinite64_tab) (tabM impl_isFinite64_tab) := tabD_cons math_IsNaN_Fok (tabD_cons math_IsInf_Fok (tabD_nil _))
noncomputable def impl_isFinite64_T (v94 : Nat) : Tree (Bool) :=
  (.br (!(math_IsNaN_v v94)) (
   .leaf (!(math_IsInf_v v94 (0 : Int)))
  ) (
   .leaf false
  ))

noncomputable def impl_isFinite64_g (v94 : Nat) : Option (Bool) := (impl_isFinite64_T v94).run
def impl_isFinite64_enc (v94 : Nat) (y : Bool) : Rs := (.bool y, [])
theorem impl_isFinite64_den (v94 : Nat) : (den TT (tabD impl_isFinite64_tab) (tabM impl_isFinite64_tab) (impl_isFinite64_LO v94) (codeOf Try.f183) ([.flt .f64 v94] ++ List.replicate (Try.f183.ntmps - ([.flt .f64 v94] : List DV).length) .undef) []).bind (retD TT Try.f183.results.toList 0) = (impl_isFinite64_T v94).bind fun y => .leaf (impl_isFinite64_enc v94 y) := by kernel_rfl
theorem impl_isFinite64_fn (v94 : Nat) (F : Fr) (hm : F.ids.length = 0) (h0 : St F [] F.H0) (hA : DVs.Ok F [] [.flt .f64 v94]) {y : Bool} (hy : impl_isFinite64_g v94 = some y) : ∃ H', FnOk Try.prog 183 (DVs.av F [.flt .f64 v94]) F.H0 ((impl_isFinite64_enc v94 y).1.av F) H' ∧ St F (impl_isFinite64_enc v94 y).2 H' ∧ (impl_isFinite64_enc v94 y).1.Ok F (impl_isFinite64_enc v94 y).2 :=
  fn_fin tok impl_isFinite64_hO mixed Try.func183 Try.call183 (by kernel_rfl) (LoopsOk_eq (l := []) (by kernel_rfl) trivial) (impl_isFinite64_den v94) hy hm h0 hA
def impl_isFinite64_v (v94 : Nat) : Bool :=
  if (!(math_IsNaN_v v94)) = true then (
   !(math_IsInf_v v94 (0 : Int))
  ) else (
   false
  )
theorem impl_isFinite64_tot (v94 : Nat) : impl_isFinite64_g v94 = some (impl_isFinite64_v v94) := by
  unfold impl_isFinite64_g impl_isFinite64_T impl_isFinite64_v
  simp only [Tree.run]
  repeat' (first | rfl | split)
noncomputable def impl_isFinite64_F : DFn := fun args L =>
  match args with
  | [.flt .f64 v94] =>
    .leaf (.bool (impl_isFinite64_v v94), L)
  | _ => .fail
theorem impl_isFinite64_Fok : COk Try.prog 183 impl_isFinite64_F true := by
  intro F L H args r L' hs ha hr
  unfold impl_isFinite64_F at hr
  split at hr
  · rename_i v94
    have hy := impl_isFinite64_tot v94
    generalize impl_isFinite64_v v94 = y at hy hr
    simp only [Tree.run, Option.some.injEq, Prod.mk.injEq] at hr
    obtain ⟨rfl, rfl⟩ := hr
    exact call_ok0 hs (fun k => (([] : List AV)[k]?).getD .top) [.flt .f64 v94] [.flt .f64 v94] (fun F' h0 hi hρ => ⟨by simp [DVs.av, DV.av, BR.av, hρ], impl_isFinite64_fn v94 F' (by rw [hi]; rfl) (st_nil hi) ⟨trivial, trivial⟩ hy⟩) rfl
  · cases hr
/-! impl.IsFinite -/
noncomputable def impl_IsFinite_LO (v93 : Nat) : LOr := fun id e L =>
  match id with
  | _ => .fail
noncomputable def impl_IsFinite_tab : List (FuncId × DFn × Bool) := [(183, impl_isFinite64_F, true)]
theorem impl_IsFinite_hO : OrcOk Try.prog (tabD impl_IsFinite_tab) (tabM impl_IsFinite_tab) := tabD_cons impl_isFinite64_Fok (tabD_nil _)
noncomputable def impl_IsFinite_T (v93 : Nat) : Tree (Bool) :=
  .leaf (impl_isFinite64_v (wid v93))

noncomputable def impl_IsFinite_g (v93 : Nat) : Option (Bool) := (impl_IsFinite_T v93).run
def impl_IsFinite_enc (v93 : Nat) (y : Bool) : Rs := (.bool y, [])
theorem impl_IsFinite_den (v93 : Nat) : (den TT (tabD impl_IsFinite_tab) (tabM impl_IsFinite_tab) (impl_IsFinite_LO v93) (codeOf Try.f147) ([.flt .f32 v93] ++ List.replicate (Try.f147.ntmps - ([.flt .f32 v93] : List DV).length) .undef) []).bind (retD TT Try.f147.results.toList 0) = (impl_IsFinite_T v93).bind fun y => .leaf (impl_IsFinite_enc v93 y) := by kernel_rfl
theorem impl_IsFinite_fn (v93 : Nat) (F : Fr) (hm : F.ids.length = 0) (h0 : St F [] F.H0) (hA : DVs.Ok F [] [.flt .f32 v93]) {y : Bool} (hy : impl_IsFinite_g v93 = some y) : ∃ H', FnOk Try.prog 147 (DVs.av F [.flt .f32 v93]) F.H0 ((impl_IsFinite_enc v93 y).1.av F) H' ∧ St F (impl_IsFinite_enc v93 y).2 H' ∧ (impl_IsFinite_enc v93 y).1.Ok F (impl_IsFinite_enc v93 y).2 :=
  fn_fin tok impl_IsFinite_hO mixed Try.func147 Try.call147 (by kernel_rfl) (LoopsOk_eq (l := []) (by kernel_rfl) trivial) (impl_IsFinite_den v93) hy hm h0 hA
def impl_IsFinite_v (v93 : Nat) : Bool :=
  (impl_isFinite64_v (wid v93))
theorem impl_IsFinite_tot (v93 : Nat) : impl_IsFinite_g v93 = some (impl_IsFinite_v v93) := by
  unfold impl_IsFinite_g impl_IsFinite_T impl_IsFinite_v
  simp only [Tree.run]
  repeat' (first | rfl | split)
noncomputable def impl_IsFinite_F : DFn := fun args L =>
  match args with
  | [.flt .f32 v93] =>
    .leaf (.bool (impl_IsFinite_v v93), L)
  | _ => .fail
theorem impl_IsFinite_Fok : COk Try.prog 147 impl_IsFinite_F true := by
  intro F L H args r L' hs ha hr
  unfold impl_IsFinite_F at hr
  split at hr
  · rename_i v93
    have hy := impl_IsFinite_tot v93
    generalize impl_IsFinite_v v93 = y at hy hr
    simp only [Tree.run, Option.some.injEq, Prod.mk.injEq] at hr
    obtain ⟨rfl, rfl⟩ := hr
    exact call_ok0 hs (fun k => (([] : List AV)[k]?).getD .top) [.flt .f32 v93] [.flt .f32 v93] (fun F' h0 hi hρ => ⟨by simp [DVs.av, DV.av, BR.av, hρ], impl_IsFinite_fn v93 F' (by rw [hi]; rfl) (st_nil hi) ⟨trivial, trivial⟩ hy⟩) rfl
  · cases hr
/-! impl.areFinite$1 -/
noncomputable def impl_areFinite_1_LO (v92 : Nat) : LOr := fun id e L =>
  match id with
  | _ => .fail
noncomputable def impl_areFinite_1_tab : List (FuncId × DFn × Bool) := [(147, impl_IsFinite_F, true)]
theorem impl_areFinite_1_hO : OrcOk Try.prog (tabD impl_areFinite_1_tab) (tabM impl_areFinite_1_tab) := tabD_cons impl_IsFinite_Fok (tabD_nil _)
noncomputable def impl_areFinite_1_T (v92 : Nat) : Tree (Bool) :=
  .leaf (!(impl_IsFinite_v v92))

noncomputable def impl_areFinite_1_g (v92 : Nat) : Option (Bool) := (impl_areFinite_1_T v92).run
def impl_areFinite_1_enc (v92 : Nat) (y : Bool) : Rs := (.bool y, [])
theorem impl_areFinite_1_den (v92 : Nat) : (den TT (tabD impl_areFinite_1_tab) (tabM impl_areFinite_1_tab) (impl_areFinite_1_LO v92) (codeOf Try.f146) ([.flt .f32 v92] ++ List.replicate (Try.f146.ntmps - ([.flt .f32 v92] : List DV).length) .undef) []).bind (retD TT Try.f146.results.toList 0) = (impl_areFinite_1_T v92).bind fun y => .leaf (impl_areFinite_1_enc v92 y) := by kernel_rfl
theorem impl_areFinite_1_fn (v92 : Nat) (F : Fr) (hm : F.ids.length = 0) (h0 : St F [] F.H0) (hA : DVs.Ok F [] [.flt .f32 v92]) {y : Bool} (hy : impl_areFinite_1_g v92 = some y) : ∃ H', FnOk Try.prog 146 (DVs.av F [.flt .f32 v92]) F.H0 ((impl_areFinite_1_enc v92 y).1.av F) H' ∧ St F (impl_areFinite_1_enc v92 y).2 H' ∧ (impl_areFinite_1_enc v92 y).1.Ok F (impl_areFinite_1_enc v92 y).2 :=
  fn_fin tok impl_areFinite_1_hO mixed Try.func146 Try.call146 (by kernel_rfl) (LoopsOk_eq (l := []) (by kernel_rfl) trivial) (impl_areFinite_1_den v92) hy hm h0 hA
def impl_areFinite_1_v (v92 : Nat) : Bool :=
  !(impl_IsFinite_v v92)
theorem impl_areFinite_1_tot (v92 : Nat) : impl_areFinite_1_g v92 = some (impl_areFinite_1_v v92) := by
  unfold impl_areFinite_1_g impl_areFinite_1_T impl_areFinite_1_v
  simp only [Tree.run]
  repeat' (first | rfl | split)
noncomputable def impl_areFinite_1_F : DFn := fun args L =>
  match args with
  | [.flt .f32 v92] =>
    .leaf (.bool (impl_areFinite_1_v v92), L)
  | _ => .fail
theorem impl_areFinite_1_Fok : COk Try.prog 146 impl_areFinite_1_F true := by
  intro F L H args r L' hs ha hr
  unfold impl_areFinite_1_F at hr
  split at hr
  · rename_i v92
    have hy := impl_areFinite_1_tot v92
    generalize impl_areFinite_1_v v92 = y at hy hr
    simp only [Tree.run, Option.some.injEq, Prod.mk.injEq] at hr
    obtain ⟨rfl, rfl⟩ := hr
    exact call_ok0 hs (fun k => (([] : List AV)[k]?).getD .top) [.flt .f32 v92] [.flt .f32 v92] (fun F' h0 hi hρ => ⟨by simp [DVs.av, DV.av, BR.av, hρ], impl_areFinite_1_fn v92 F' (by rw [hi]; rfl) (st_nil hi) ⟨trivial, trivial⟩ hy⟩) rfl
  · cases hr
/-! slices.IndexFunc[list of float32,float32] -/
noncomputable def slices_IndexFuncF_l0_T (v90 : List Nat) (s : Int) : Tree ((Int) ⊕ ((Int) ⊕ (Unit))) :=
  (.br (decide (s < ((v90.length : Nat) : Int))) (
   (.grd (inb s v90.length) <|
   (.br (impl_areFinite_1_v (nth v90 (Int.toNat s))) (
    .leaf (.inr (.inl s))
   ) (
    .leaf (.inl (IntKind.i64.wrap (s + (1 : Int))))
   )))
  ) (
   .leaf (.inr (.inr ()))
  ))

noncomputable def slices_IndexFuncF_l0_g (v90 : List Nat) (s0 : Int) : Option ((Int) ⊕ (Unit)) := whileM (fun s => (slices_IndexFuncF_l0_T v90 s).run) s0
def slices_IndexFuncF_l0_E (v90 : List Nat) (s : Int) : Sd := ([.bslc (BR.root 0) (.f32 v90), .fn 146 [], .top, .top, .top, .top, .top, .int .i64 ((v90.length : Nat) : Int), .int .i64 s, .top, .top, .top, .top, .top, .top, .top, .top, .top, .top], [])
def slices_IndexFuncF_l0_X (v90 : List Nat) (x : (Int) ⊕ (Unit)) : Out := (match x with | .inl x => (.ret, [.top, .top, .top, .top, .int .i64 x, .top, .top, .top, .top, .top, .top, .top, .top, .top, .top, .top, .top, .top, .top], []) | .inr x => (.normal, [.top, .top, .top, .top, .top, .top, .top, .top, .top, .top, .top, .top, .top, .top, .top, .top, .top, .top, .top], []))
def slices_IndexFuncF_l0_kill : List Nat := [0, 0, 1, 1, 1, 1, 1, 0, 0, 1, 1, 1, 1, 1, 1, 1, 1, 1, 1]
def slices_IndexFuncF_l0_nx : Exit → List Nat
  | .exit 0 => [1, 1, 1, 1, 1, 1, 1, 1, 1, 1, 1, 1, 1, 1, 1, 1, 1, 1, 1]
  | .ret => [1, 1, 1, 1, 0, 1, 1, 1, 1, 1, 1, 1, 1, 1, 1, 1, 1, 1, 1]
  | _ => []
noncomputable def slices_IndexFuncF_LO (v90 : List Nat) : LOr := fun id e L =>
  match id with
  | 0 => .need (normA 0 slices_IndexFuncF_l0_kill e L = some (slices_IndexFuncF_l0_E v90 (gI (vAt e 8)))) (.call (slices_IndexFuncF_l0_g v90 (gI (vAt e 8))) fun x => .sum x (fun b0 => .leaf (slices_IndexFuncF_l0_X v90 (.inl b0))) (fun c0 => .leaf (slices_IndexFuncF_l0_X v90 (.inr c0))))
  | _ => .fail
noncomputable def slices_IndexFuncF_tab : List (FuncId × DFn × Bool) := [(146, impl_areFinite_1_F, true)]
theorem slices_IndexFuncF_hO : OrcOk Try.prog (tabD slices_IndexFuncF_tab) (tabM slices_IndexFuncF_tab) := tabD_cons impl_areFinite_1_Fok (tabD_nil _)
theorem slices_IndexFuncF_l0_be (v90 : List Nat) (s : Int) : bodyT TT (tabD slices_IndexFuncF_tab) (tabM slices_IndexFuncF_tab) (slices_IndexFuncF_LO v90) 0 slices_IndexFuncF_l0_kill slices_IndexFuncF_l0_nx (bodyOf Try.f182 0) 0 (slices_IndexFuncF_l0_E v90 s) = (slices_IndexFuncF_l0_T v90 s).bind fun y => .leaf (outS (slices_IndexFuncF_l0_E v90) (slices_IndexFuncF_l0_X v90) y) := by kernel_rfl
theorem slices_IndexFuncF_l0_ok (v90 : List Nat) : LSound Try.prog 0 (slices_IndexFuncF_LO v90) 0 (bodyOf Try.f182 0) := by
  intro e L out h
  exact lo_ok (E := slices_IndexFuncF_l0_E v90) (gT := slices_IndexFuncF_l0_T v90) (X := slices_IndexFuncF_l0_X v90) (s0 := (gI (vAt e 8))) tok slices_IndexFuncF_hO mixed (LoopsOk_eq (l := []) (by kernel_rfl) trivial) (slices_IndexFuncF_l0_be v90) rfl (by intro x; (cases x with | inl b => rfl | inr x => exact rfl)) h
noncomputable def slices_IndexFuncF_T (v90 : List Nat) : Tree (Int) :=
  (.need (some (slices_IndexFuncF_l0_E v90 (0 : Int)) = some (slices_IndexFuncF_l0_E v90 (0 : Int))) <|
  (.call (slices_IndexFuncF_l0_g v90 (0 : Int)) fun v100 =>
  (.sum v100 (fun v101 =>
   .leaf v101
  ) (fun v102 =>
   .leaf (-1 : Int)
  ))))

noncomputable def slices_IndexFuncF_g (v90 : List Nat) : Option (Int) := (slices_IndexFuncF_T v90).run
def slices_IndexFuncF_enc (v90 : List Nat) (y : Int) : Rs := (.int .i64 y, [])
theorem slices_IndexFuncF_den (v90 : List Nat) : (den TT (tabD slices_IndexFuncF_tab) (tabM slices_IndexFuncF_tab) (slices_IndexFuncF_LO v90) (codeOf Try.f182) ([.bslc (BR.root 0) (.f32 v90), .fn 146 []] ++ List.replicate (Try.f182.ntmps - ([.bslc (BR.root 0) (.f32 v90), .fn 146 []] : List DV).length) .undef) []).bind (retD TT Try.f182.results.toList 0) = (slices_IndexFuncF_T v90).bind fun y => .leaf (slices_IndexFuncF_enc v90 y) := by kernel_rfl
theorem slices_IndexFuncF_fn (v90 : List Nat) (F : Fr) (hm : F.ids.length = 0) (h0 : St F [] F.H0) (hA : DVs.Ok F [] [.bslc (BR.root 0) (.f32 v90), .fn 146 []]) {y : Int} (hy : slices_IndexFuncF_g v90 = some y) : ∃ H', FnOk Try.prog 182 (DVs.av F [.bslc (BR.root 0) (.f32 v90), .fn 146 []]) F.H0 ((slices_IndexFuncF_enc v90 y).1.av F) H' ∧ St F (slices_IndexFuncF_enc v90 y).2 H' ∧ (slices_IndexFuncF_enc v90 y).1.Ok F (slices_IndexFuncF_enc v90 y).2 :=
  fn_fin tok slices_IndexFuncF_hO mixed Try.func182 Try.call182 (by kernel_rfl) (LoopsOk_eq (l := [(0, bodyOf Try.f182 0)]) (by kernel_rfl) ⟨slices_IndexFuncF_l0_ok v90, trivial⟩) (slices_IndexFuncF_den v90) hy hm h0 hA
noncomputable def slices_IndexFuncF_F : DFn := fun args L =>
  match args with
  | [a1, .fn 146 []] =>
    optT (rowF32 L a1) fun v90 =>
    .call (slices_IndexFuncF_g v90) fun y => .leaf (.int .i64 y, L)
  | _ => .fail
theorem slices_IndexFuncF_Fok : COk Try.prog 182 slices_IndexFuncF_F true := by
  intro F L H args r L' hs ha hr
  unfold slices_IndexFuncF_F at hr
  split at hr
  · rename_i a1
    obtain ⟨v90, hv90, hr⟩ := optT_run hr
    simp only [Tree.run] at hr
    obtain ⟨y, hy, hr⟩ := Option.bind_eq_some_iff.1 hr
    simp only [Tree.run, Option.some.injEq, Prod.mk.injEq] at hr
    obtain ⟨rfl, rfl⟩ := hr
    exact call_ok0 hs (fun k => (([a1.av F] : List AV)[k]?).getD .top) [a1, .fn 146 []] [.bslc (BR.root 0) (.f32 v90), .fn 146 []] (fun F' h0 hi hρ => ⟨by simp [DVs.av, DV.av, BR.av, hρ], slices_IndexFuncF_fn v90 F' (by rw [hi]; rfl) (st_nil hi) ⟨bslc_ok hi (by rw [h0, hρ]; exact rowF32_ok hs (DVs.okAt ha 0 rfl) hv90), trivial, trivial⟩ hy⟩) rfl
  · cases hr
/-! slices.ContainsFunc[list of float32,float32] -/
noncomputable def slices_ContainsFuncF_LO (v89 : List Nat) : LOr := fun id e L =>
  match id with
  | _ => .fail
noncomputable def slices_ContainsFuncF_tab : List (FuncId × DFn × Bool) := [(182, slices_IndexFuncF_F, true)]
theorem slices_ContainsFuncF_hO : OrcOk Try.prog (tabD slices_ContainsFuncF_tab) (tabM slices_ContainsFuncF_tab) := tabD_cons slices_IndexFuncF_Fok (tabD_nil _)
noncomputable def slices_ContainsFuncF_T (v89 : List Nat) : Tree (Bool) :=
  (.call (slices_IndexFuncF_g v89) fun v103 =>
  .leaf (decide ((0 : Int) ≤ v103)))

noncomputable def slices_ContainsFuncF_g (v89 : List Nat) : Option (Bool) := (slices_ContainsFuncF_T v89).run
def slices_ContainsFuncF_enc (v89 : List Nat) (y : Bool) : Rs := (.bool y, [])
theorem slices_ContainsFuncF_den (v89 : List Nat) : (den TT (tabD slices_ContainsFuncF_tab) (tabM slices_ContainsFuncF_tab) (slices_ContainsFuncF_LO v89) (codeOf Try.f145) ([.bslc (BR.root 0) (.f32 v89), .fn 146 []] ++ List.replicate (Try.f145.ntmps - ([.bslc (BR.root 0) (.f32 v89), .fn 146 []] : List DV).length) .undef) []).bind (retD TT Try.f145.results.toList 0) = (slices_ContainsFuncF_T v89).bind fun y => .leaf (slices_ContainsFuncF_enc v89 y) := by kernel_rfl
theorem slices_ContainsFuncF_fn (v89 : List Nat) (F : Fr) (hm : F.ids.length = 0) (h0 : St F [] F.H0) (hA : DVs.Ok F [] [.bslc (BR.root 0) (.f32 v89), .fn 146 []]) {y : Bool} (hy : slices_ContainsFuncF_g v89 = some y) : ∃ H', FnOk Try.prog 145 (DVs.av F [.bslc (BR.root 0) (.f32 v89), .fn 146 []]) F.H0 ((slices_ContainsFuncF_enc v89 y).1.av F) H' ∧ St F (slices_ContainsFuncF_enc v89 y).2 H' ∧ (slices_ContainsFuncF_enc v89 y).1.Ok F (slices_ContainsFuncF_enc v89 y).2 :=
  fn_fin tok slices_ContainsFuncF_hO mixed Try.func145 Try.call145 (by kernel_rfl) (LoopsOk_eq (l := []) (by kernel_rfl) trivial) (slices_ContainsFuncF_den v89) hy hm h0 hA
noncomputable def slices_ContainsFuncF_F : DFn := fun args L =>
  match args with
  | [a1, .fn 146 []] =>
    optT (rowF32 L a1) fun v89 =>
    .call (slices_ContainsFuncF_g v89) fun y => .leaf (.bool y, L)
  | _ => .fail
theorem slices_ContainsFuncF_Fok : COk Try.prog 145 slices_ContainsFuncF_F true := by
  intro F L H args r L' hs ha hr
  unfold slices_ContainsFuncF_F at hr
  split at hr
  · rename_i a1
    obtain ⟨v89, hv89, hr⟩ := optT_run hr
    simp only [Tree.run] at hr
    obtain ⟨y, hy, hr⟩ := Option.bind_eq_some_iff.1 hr
    simp only [Tree.run, Option.some.injEq, Prod.mk.injEq] at hr
    obtain ⟨rfl, rfl⟩ := hr
    exact call_ok0 hs (fun k => (([a1.av F] : List AV)[k]?).getD .top) [a1, .fn 146 []] [.bslc (BR.root 0) (.f32 v89), .fn 146 []] (fun F' h0 hi hρ => ⟨by simp [DVs.av, DV.av, BR.av, hρ], slices_ContainsFuncF_fn v89 F' (by rw [hi]; rfl) (st_nil hi) ⟨bslc_ok hi (by rw [h0, hρ]; exact rowF32_ok hs (DVs.okAt ha 0 rfl) hv89), trivial, trivial⟩ hy⟩) rfl
  · cases hr
/-! impl.areFinite -/
noncomputable def impl_areFinite_LO (v88 : List Nat) : LOr := fun id e L =>
  match id with
  | _ => .fail
noncomputable def impl_areFinite_tab : List (FuncId × DFn × Bool) := [(145, slices_ContainsFuncF_F, true)]
theorem impl_areFinite_hO : OrcOk Try.prog (tabD impl_areFinite_tab) (tabM impl_areFinite_tab) := tabD_cons slices_ContainsFuncF_Fok (tabD_nil _)
noncomputable def impl_areFinite_T (v88 : List Nat) : Tree (Bool) :=
  (.call (slices_ContainsFuncF_g v88) fun v104 =>
  .leaf (!v104))

noncomputable def impl_areFinite_g (v88 : List Nat) : Option (Bool) := (impl_areFinite_T v88).run
def impl_areFinite_enc (v88 : List Nat) (y : Bool) : Rs := (.bool y, [])
theorem impl_areFinite_den (v88 : List Nat) : (den TT (tabD impl_areFinite_tab) (tabM impl_areFinite_tab) (impl_areFinite_LO v88) (codeOf Try.f94) ([.bslc (BR.root 0) (.f32 v88)] ++ List.replicate (Try.f94.ntmps - ([.bslc (BR.root 0) (.f32 v88)] : List DV).length) .undef) []).bind (retD TT Try.f94.results.toList 0) = (impl_areFinite_T v88).bind fun y => .leaf (impl_areFinite_enc v88 y) := by kernel_rfl
theorem impl_areFinite_fn (v88 : List Nat) (F : Fr) (hm : F.ids.length = 0) (h0 : St F [] F.H0) (hA : DVs.Ok F [] [.bslc (BR.root 0) (.f32 v88)]) {y : Bool} (hy : impl_areFinite_g v88 = some y) : ∃ H', FnOk Try.prog 94 (DVs.av F [.bslc (BR.root 0) (.f32 v88)]) F.H0 ((impl_areFinite_enc v88 y).1.av F) H' ∧ St F (impl_areFinite_enc v88 y).2 H' ∧ (impl_areFinite_enc v88 y).1.Ok F (impl_areFinite_enc v88 y).2 :=
  fn_fin tok impl_areFinite_hO mixed Try.func94 Try.call94 (by kernel_rfl) (LoopsOk_eq (l := []) (by kernel_rfl) trivial) (impl_areFinite_den v88) hy hm h0 hA
noncomputable def impl_areFinite_F : DFn := fun args L =>
  match args with
  | [a1] =>
    optT (rowF32 L a1) fun v88 =>
    .call (impl_areFinite_g v88) fun y => .leaf (.bool y, L)
  | _ => .fail
theorem impl_areFinite_Fok : COk Try.prog 94 impl_areFinite_F true := by
  intro F L H args r L' hs ha hr
  unfold impl_areFinite_F at hr
  split at hr
  · rename_i a1
    obtain ⟨v88, hv88, hr⟩ := optT_run hr
    simp only [Tree.run] at hr
    obtain ⟨y, hy, hr⟩ := Option.bind_eq_some_iff.1 hr
    simp only [Tree.run, Option.some.injEq, Prod.mk.injEq] at hr
    obtain ⟨rfl, rfl⟩ := hr
    exact call_ok0 hs (fun k => (([a1.av F] : List AV)[k]?).getD .top) [a1] [.bslc (BR.root 0) (.f32 v88)] (fun F' h0 hi hρ => ⟨by simp [DVs.av, DV.av, BR.av, hρ], impl_areFinite_fn v88 F' (by rw [hi]; rfl) (st_nil hi) ⟨bslc_ok hi (by rw [h0, hρ]; exact rowF32_ok hs (DVs.okAt ha 0 rfl) hv88), trivial⟩ hy⟩) rfl
  · cases hr
/-! impl.isList -/
noncomputable def impl_isList_LO (v82 : List Nat) (v83 : Int) : LOr := fun id e L =>
  match id with
  | _ => .fail
noncomputable def impl_isList_tab : List (FuncId × DFn × Bool) := [(142, impl_lengthF_F, true), (80, impl_inRange_F, true), (94, impl_areFinite_F, true)]
theorem impl_isList_hO : OrcOk Try.prog (tabD impl_isList_tab) (tabM impl_isList_tab) := tabD_cons impl_lengthF_Fok (tabD_cons impl_inRange_Fok (tabD_cons impl_areFinite_Fok (tabD_nil _)))
noncomputable def impl_isList_T (v82 : List Nat) (v83 : Int) : Tree (Bool) :=
  (.br (impl_inRange_v (impl_lengthF_v v82) (1 : Int) v83) (
   (.call (impl_areFinite_g v82) fun v105 =>
   .leaf v105)
  ) (
   .leaf false
  ))

noncomputable def impl_isList_g (v82 : List Nat) (v83 : Int) : Option (Bool) := (impl_isList_T v82 v83).run
def impl_isList_enc (v82 : List Nat) (v83 : Int) (y : Bool) : Rs := (.bool y, [])
theorem impl_isList_den (v82 : List Nat) (v83 : Int) : (den TT (tabD impl_isList_tab) (tabM impl_isList_tab) (impl_isList_LO v82 v83) (codeOf Try.f88) ([.bslc (BR.root 0) (.f32 v82), .int .i64 v83] ++ List.replicate (Try.f88.ntmps - ([.bslc (BR.root 0) (.f32 v82), .int .i64 v83] : List DV).length) .undef) []).bind (retD TT Try.f88.results.toList 0) = (impl_isList_T v82 v83).bind fun y => .leaf (impl_isList_enc v82 v83 y) := by kernel_rfl
theorem impl_isList_fn (v82 : List Nat) (v83 : Int) (F : Fr) (hm : F.ids.length = 0) (h0 : St F [] F.H0) (hA : DVs.Ok F [] [.bslc (BR.root 0) (.f32 v82), .int .i64 v83]) {y : Bool} (hy : impl_isList_g v82 v83 = some y) : ∃ H', FnOk Try.prog 88 (DVs.av F [.bslc (BR.root 0) (.f32 v82), .int .i64 v83]) F.H0 ((impl_isList_enc v82 v83 y).1.av F) H' ∧ St F (impl_isList_enc v82 v83 y).2 H' ∧ (impl_isList_enc v82 v83 y).1.Ok F (impl_isList_enc v82 v83 y).2 :=
  fn_fin tok impl_isList_hO mixed Try.func88 Try.call88 (by kernel_rfl) (LoopsOk_eq (l := []) (by kernel_rfl) trivial) (impl_isList_den v82 v83) hy hm h0 hA
noncomputable def impl_isList_F : DFn := fun args L =>
  match args with
  | [a1, .int .i64 v83] =>
    optT (rowF32 L a1) fun v82 =>
    .call (impl_isList_g v82 v83) fun y => .leaf (.bool y, L)
  | _ => .fail
theorem impl_isList_Fok : COk Try.prog 88 impl_isList_F true := by
  intro F L H args r L' hs ha hr
  unfold impl_isList_F at hr
  split at hr
  · rename_i a1 v83
    obtain ⟨v82, hv82, hr⟩ := optT_run hr
    simp only [Tree.run] at hr
    obtain ⟨y, hy, hr⟩ := Option.bind_eq_some_iff.1 hr
    simp only [Tree.run, Option.some.injEq, Prod.mk.injEq] at hr
    obtain ⟨rfl, rfl⟩ := hr
    exact call_ok0 hs (fun k => (([a1.av F] : List AV)[k]?).getD .top) [a1, .int .i64 v83] [.bslc (BR.root 0) (.f32 v82), .int .i64 v83] (fun F' h0 hi hρ => ⟨by simp [DVs.av, DV.av, BR.av, hρ], impl_isList_fn v82 v83 F' (by rw [hi]; rfl) (st_nil hi) ⟨bslc_ok hi (by rw [h0, hρ]; exact rowF32_ok hs (DVs.okAt ha 0 rfl) hv82), trivial, trivial⟩ hy⟩) rfl
  · cases hr
/-! impl.newMatrix -/
noncomputable def impl_newMatrix_LO (v111 : Int) (v112 : Int) : LOr := fun id e L =>
  match id with
  | _ => .fail
noncomputable def impl_newMatrix_tab : List (FuncId × DFn × Bool) := []
theorem impl_newMatrix_hO : OrcOk Try.prog (tabD impl_newMatrix_tab) (tabM impl_newMatrix_tab) := tabD_nil _
noncomputable def impl_newMatrix_T (v111 : Int) (v112 : Int) : Tree (Int × Int) :=
  (.need (IntKind.i64.wrap (v111 * v112) = IntKind.i64.wrap (v111 * v112)) <|
  (.grd (inb (IntKind.i64.wrap (v111 * v112)) (maxN + 1)) <|
  .leaf (v111, v112)))

noncomputable def impl_newMatrix_g (v111 : Int) (v112 : Int) : Option (Int × Int) := (impl_newMatrix_T v111 v112).run
def impl_newMatrix_enc (v111 : Int) (v112 : Int) (y : Int × Int) : Rs := (.agg [.int .i64 y.1, .int .i64 y.2, .own 0 0 ((List.replicate (Int.toNat (IntKind.i64.wrap (v111 * v112))) (0 : Nat)).length)], [.row (.f32 (List.replicate (Int.toNat (IntKind.i64.wrap (v111 * v112))) (0 : Nat))) 0])
theorem impl_newMatrix_den (v111 : Int) (v112 : Int) : (den TT (tabD impl_newMatrix_tab) (tabM impl_newMatrix_tab) (impl_newMatrix_LO v111 v112) (codeOf Try.f181) ([.int .i64 v111, .int .i64 v112] ++ List.replicate (Try.f181.ntmps - ([.int .i64 v111, .int .i64 v112] : List DV).length) .undef) []).bind (retD TT Try.f181.results.toList 0) = (impl_newMatrix_T v111 v112).bind fun y => .leaf (impl_newMatrix_enc v111 v112 y) := by kernel_rfl
theorem impl_newMatrix_fn (v111 : Int) (v112 : Int) (F : Fr) (hm : F.ids.length = 0) (h0 : St F [] F.H0) (hA : DVs.Ok F [] [.int .i64 v111, .int .i64 v112]) {y : Int × Int} (hy : impl_newMatrix_g v111 v112 = some y) : ∃ H', FnOk Try.prog 181 (DVs.av F [.int .i64 v111, .int .i64 v112]) F.H0 ((impl_newMatrix_enc v111 v112 y).1.av F) H' ∧ St F (impl_newMatrix_enc v111 v112 y).2 H' ∧ (impl_newMatrix_enc v111 v112 y).1.Ok F (impl_newMatrix_enc v111 v112 y).2 :=
  fn_fin tok impl_newMatrix_hO mixed Try.func181 Try.call181 (by kernel_rfl) (LoopsOk_eq (l := []) (by kernel_rfl) trivial) (impl_newMatrix_den v111 v112) hy hm h0 hA
noncomputable def impl_newMatrix_F : DFn := fun args L =>
  match args with
  | [.int .i64 v111, .int .i64 v112] =>
    .call (impl_newMatrix_g v111 v112) fun y => .leaf (.agg [.int .i64 y.1, .int .i64 y.2, .own (L.length + 0) 0 ((List.replicate (Int.toNat (IntKind.i64.wrap (v111 * v112))) (0 : Nat)).length)], L ++ [.row (.f32 (List.replicate (Int.toNat (IntKind.i64.wrap (v111 * v112))) (0 : Nat))) 0])
  | _ => .fail
theorem impl_newMatrix_Fok : COk Try.prog 181 impl_newMatrix_F true := by
  intro F L H args r L' hs ha hr
  unfold impl_newMatrix_F at hr
  split at hr
  · rename_i v111 v112
    simp only [Tree.run] at hr
    obtain ⟨y, hy, hr⟩ := Option.bind_eq_some_iff.1 hr
    simp only [Tree.run, Option.some.injEq, Prod.mk.injEq] at hr
    obtain ⟨rfl, rfl⟩ := hr
    exact call_ok1 hs (fun k => (([] : List AV)[k]?).getD .top) [.int .i64 v111, .int .i64 v112] [.int .i64 v111, .int .i64 v112] (fun F' h0 hi hρ => ⟨by simp [DVs.av, DV.av, BR.av, hρ], impl_newMatrix_fn v111 v112 F' (by rw [hi]; rfl) (st_nil hi) ⟨trivial, trivial, trivial⟩ hy⟩) rfl rfl
  · cases hr
/-! impl.shift$1 -/
noncomputable def impl_shift_1_LO (v121 : Int) (v122 : Int) (v123 : List Nat) : LOr := fun id e L =>
  match id with
  | _ => .fail
noncomputable def impl_shift_1_tab : List (FuncId × DFn × Bool) := []
theorem impl_shift_1_hO : OrcOk Try.prog (tabD impl_shift_1_tab) (tabM impl_shift_1_tab) := tabD_nil _
noncomputable def impl_shift_1_T (v121 : Int) (v122 : Int) (v123 : List Nat) : Tree (Nat) :=
  (.grd (inb (imax (IntKind.i64.wrap (v121 - v122)) (IntKind.i64.wrap (v122 - v121))) v123.length) <|
  .leaf (nth v123 (Int.toNat (imax (IntKind.i64.wrap (v121 - v122)) (IntKind.i64.wrap (v122 - v121))))))

noncomputable def impl_shift_1_g (v121 : Int) (v122 : Int) (v123 : List Nat) : Option (Nat) := (impl_shift_1_T v121 v122 v123).run
def impl_shift_1_enc (v121 : Int) (v122 : Int) (v123 : List Nat) (y : Nat) : Rs := (.flt .f32 y, [])
theorem impl_shift_1_den (v121 : Int) (v122 : Int) (v123 : List Nat) : (den TT (tabD impl_shift_1_tab) (tabM impl_shift_1_tab) (impl_shift_1_LO v121 v122 v123) (codeOf Try.f144) ([.int .i64 v121, .int .i64 v122, .bptr (BR.root 0) [.bslc (BR.root 1) (.f32 v123)]] ++ List.replicate (Try.f144.ntmps - ([.int .i64 v121, .int .i64 v122, .bptr (BR.root 0) [.bslc (BR.root 1) (.f32 v123)]] : List DV).length) .undef) []).bind (retD TT Try.f144.results.toList 0) = (impl_shift_1_T v121 v122 v123).bind fun y => .leaf (impl_shift_1_enc v121 v122 v123 y) := by kernel_rfl
theorem impl_shift_1_fn (v121 : Int) (v122 : Int) (v123 : List Nat) (F : Fr) (hm : F.ids.length = 0) (h0 : St F [] F.H0) (hA : DVs.Ok F [] [.int .i64 v121, .int .i64 v122, .bptr (BR.root 0) [.bslc (BR.root 1) (.f32 v123)]]) {y : Nat} (hy : impl_shift_1_g v121 v122 v123 = some y) : ∃ H', FnOk Try.prog 144 (DVs.av F [.int .i64 v121, .int .i64 v122, .bptr (BR.root 0) [.bslc (BR.root 1) (.f32 v123)]]) F.H0 ((impl_shift_1_enc v121 v122 v123 y).1.av F) H' ∧ St F (impl_shift_1_enc v121 v122 v123 y).2 H' ∧ (impl_shift_1_enc v121 v122 v123 y).1.Ok F (impl_shift_1_enc v121 v122 v123 y).2 :=
  fn_fin tok impl_shift_1_hO mixed Try.func144 Try.call144 (by kernel_rfl) (LoopsOk_eq (l := []) (by kernel_rfl) trivial) (impl_shift_1_den v121 v122 v123) hy hm h0 hA
noncomputable def impl_shift_1_F : DFn := fun args L =>
  match args with
  | [.int .i64 v121, .int .i64 v122, a1] =>
    optT (cellsOf L 1 a1) fun cs0 =>
    (match cs0 with
    | [a2] =>
    optT (rowF32 L a2) fun v123 =>
    .call (impl_shift_1_g v121 v122 v123) fun y => .leaf (.flt .f32 y, L)
    | _ => .fail)
  | _ => .fail
theorem impl_shift_1_Fok : COk Try.prog 144 impl_shift_1_F true := by
  intro F L H args r L' hs ha hr
  unfold impl_shift_1_F at hr
  split at hr
  · rename_i v121 v122 a1
    obtain ⟨cs0, hcp0, hr⟩ := optT_run hr
    split at hr
    · rename_i a2
      obtain ⟨v123, hv123, hr⟩ := optT_run hr
      simp only [Tree.run] at hr
      obtain ⟨y, hy, hr⟩ := Option.bind_eq_some_iff.1 hr
      simp only [Tree.run, Option.some.injEq, Prod.mk.injEq] at hr
      obtain ⟨rfl, rfl⟩ := hr
      exact call_ok0 hs (fun k => (([a1.av F, a2.av F] : List AV)[k]?).getD .top) [.int .i64 v121, .int .i64 v122, a1] [.int .i64 v121, .int .i64 v122, .bptr (BR.root 0) [.bslc (BR.root 1) (.f32 v123)]] (fun F' h0 hi hρ => ⟨by simp [DVs.av, DV.av, BR.av, hρ], impl_shift_1_fn v121 v122 v123 F' (by rw [hi]; rfl) (st_nil hi) ⟨trivial, trivial, bptr_ok hi (by rw [h0]; simpa [DVs.av, DV.av, BR.av, hρ] using (cellsOf_ok hs (DVs.okAt ha 2 rfl) hcp0).1) ⟨bslc_ok hi (by rw [h0, hρ]; exact rowF32_ok hs (DVs.okAt (cellsOf_ok hs (DVs.okAt ha 2 rfl) hcp0).2 0 rfl) hv123), trivial⟩, trivial⟩ hy⟩) rfl
    · cases hr
  · cases hr
/-! (impl.Matrix).set -/
noncomputable def impl_Matrix_set_LO (v131 : Int) (v132 : Int) (v133 : List Nat) (v134 : Int) (v135 : Int) (v136 : Nat) : LOr := fun id e L =>
  match id with
  | _ => .fail
noncomputable def impl_Matrix_set_tab : List (FuncId × DFn × Bool) := []
theorem impl_Matrix_set_hO : OrcOk Try.prog (tabD impl_Matrix_set_tab) (tabM impl_Matrix_set_tab) := tabD_nil _
noncomputable def impl_Matrix_set_T (v132 : Int) (v133 : List Nat) (v134 : Int) (v135 : Int) : Tree (Unit) :=
  (.grd (inb (IntKind.i64.wrap ((IntKind.i64.wrap (v134 * v132)) + v135)) v133.length) <|
  .leaf ())

noncomputable def impl_Matrix_set_g (v132 : Int) (v133 : List Nat) (v134 : Int) (v135 : Int) : Option (Unit) := (impl_Matrix_set_T v132 v133 v134 v135).run
def impl_Matrix_set_enc (v131 : Int) (v132 : Int) (v133 : List Nat) (v134 : Int) (v135 : Int) (v136 : Nat) (y : Unit) : Rs := (.tup [], [.row (.f32 (List.set v133 (Int.toNat (IntKind.i64.wrap ((IntKind.i64.wrap (v134 * v132)) + v135))) v136)) 0])
theorem impl_Matrix_set_den (v131 : Int) (v132 : Int) (v133 : List Nat) (v134 : Int) (v135 : Int) (v136 : Nat) : (den TT (tabD impl_Matrix_set_tab) (tabM impl_Matrix_set_tab) (impl_Matrix_set_LO v131 v132 v133 v134 v135 v136) (codeOf Try.f128) ([.agg [.int .i64 v131, .int .i64 v132, .own 0 0 v133.length], .int .i64 v134, .int .i64 v135, .flt .f32 v136] ++ List.replicate (Try.f128.ntmps - ([.agg [.int .i64 v131, .int .i64 v132, .own 0 0 v133.length], .int .i64 v134, .int .i64 v135, .flt .f32 v136] : List DV).length) .undef) [.row (.f32 v133) 0]).bind (retD TT Try.f128.results.toList 1) = (impl_Matrix_set_T v132 v133 v134 v135).bind fun y => .leaf (impl_Matrix_set_enc v131 v132 v133 v134 v135 v136 y) := by kernel_rfl
theorem impl_Matrix_set_fn (v131 : Int) (v132 : Int) (v133 : List Nat) (v134 : Int) (v135 : Int) (v136 : Nat) (F : Fr) (hm : F.ids.length = 1) (h0 : St F [.row (.f32 v133) 0] F.H0) (hA : DVs.Ok F [.row (.f32 v133) 0] [.agg [.int .i64 v131, .int .i64 v132, .own 0 0 v133.length], .int .i64 v134, .int .i64 v135, .flt .f32 v136]) {y : Unit} (hy : impl_Matrix_set_g v132 v133 v134 v135 = some y) : ∃ H', FnOk Try.prog 128 (DVs.av F [.agg [.int .i64 v131, .int .i64 v132, .own 0 0 v133.length], .int .i64 v134, .int .i64 v135, .flt .f32 v136]) F.H0 ((impl_Matrix_set_enc v131 v132 v133 v134 v135 v136 y).1.av F) H' ∧ St F (impl_Matrix_set_enc v131 v132 v133 v134 v135 v136 y).2 H' ∧ (impl_Matrix_set_enc v131 v132 v133 v134 v135 v136 y).1.Ok F (impl_Matrix_set_enc v131 v132 v133 v134 v135 v136 y).2 :=
  fn_fin tok impl_Matrix_set_hO mixed Try.func128 Try.call128 (by kernel_rfl) (LoopsOk_eq (l := []) (by kernel_rfl) trivial) (impl_Matrix_set_den v131 v132 v133 v134 v135 v136) hy hm h0 hA
noncomputable def impl_Matrix_set_F : DFn := fun args L =>
  match args with
  | [.agg [.int .i64 v131, .int .i64 v132, a1], .int .i64 v134, .int .i64 v135, .flt .f32 v136] =>
    optT (ownF32 L a1) fun qv133 =>
    (match sepB [qv133.1] [] with
    | true =>
    .call (impl_Matrix_set_g v132 qv133.2 v134 v135) fun y => .grd (decide ((List.set qv133.2 (Int.toNat (IntKind.i64.wrap ((IntKind.i64.wrap (v134 * v132)) + v135))) v136).length = qv133.2.length)) (.leaf (.tup [], setRows L ([qv133.1].zip [.f32 (List.set qv133.2 (Int.toNat (IntKind.i64.wrap ((IntKind.i64.wrap (v134 * v132)) + v135))) v136)])))
    | false => .fail)
  | _ => .fail
theorem impl_Matrix_set_Fok : COk Try.prog 128 impl_Matrix_set_F false := by
  intro F L H args r L' hs ha hr
  unfold impl_Matrix_set_F at hr
  split at hr
  · rename_i v131 v132 a1 v134 v135 v136
    obtain ⟨⟨jv133, v133⟩, hqv133, hr⟩ := optT_run hr
    simp only at hr
    split at hr
    · rename_i hsep
      obtain ⟨hnd, hsepv⟩ := sepB_spec hsep
      simp only [Tree.run] at hr
      obtain ⟨y, hy, hr⟩ := Option.bind_eq_some_iff.1 hr
      try simp only [Tree.run] at hr
      obtain ⟨hl0, hr⟩ := ite_run hr
      simp only [Option.some.injEq, Prod.mk.injEq] at hr
      obtain ⟨rfl, rfl⟩ := hr
      obtain ⟨hr0, hu0, ha0, hb0⟩ := (ownR_spec (DVs.okAt (DVs.okAt ha 0 rfl) 2 rfl) (ownF32_or hqv133))
      exact mut_ok hs (fun k => (([a1.av F] : List AV)[k]?).getD .top) [.agg [.int .i64 v131, .int .i64 v132, a1], .int .i64 v134, .int .i64 v135, .flt .f32 v136] [.agg [.int .i64 v131, .int .i64 v132, .own 0 0 v133.length], .int .i64 v134, .int .i64 v135, .flt .f32 v136] [jv133] [.f32 v133] [.f32 (List.set v133 (Int.toNat (IntKind.i64.wrap ((IntKind.i64.wrap (v134 * v132)) + v135))) v136)] hnd rfl rfl (fun i j q h1 h2 => by
          rcases i with _ | i
          · simp at h1 h2; subst h1; subst h2; exact hr0
          · simp at h1) (fun i q q' h1 h2 => by
          rcases i with _ | i
          · simp at h1 h2; subst h1; subst h2; exact of_decide_eq_true hl0
          · simp at h1) (fun j hj => by simp at hj; subst hj; simp [DVs.refs, DV.refs, hu0]) (fun F' h0 hi hρ hst hS => ⟨by (have ab0 : F'.abs 0 = F.abs jv133 := (by simp [Fr.abs, hi]); simp [DVs.av, DV.av, BR.av, hρ, Row.len, ha0, ab0]), by
          obtain ⟨H1, k1, k2, _⟩ := impl_Matrix_set_fn v131 v132 v133 v134 v135 v136 F' (by rw [hi]; rfl) hst ⟨⟨trivial, trivial, ⟨_, rfl, Nat.le_refl _, Nat.le_refl _, fun _ => rfl, (ownR_spec (DVs.okAt (DVs.okAt ha 0 rfl) 2 rfl) (ownF32_or hqv133)).2.2.2⟩, trivial⟩, trivial, trivial, trivial, trivial⟩ hy
          exact ⟨H1, k1, k2⟩⟩) (fun F' => rfl) (fun L' => trivial)
    · cases hr
  · cases hr
/-! impl.made -/
noncomputable def impl_made_l2_T (v109 : Int) (v110 : List Nat) (v197 : Int) (v199 : Int) (v200 : Int) (s : Int × (List Nat)) : Tree ((Int × (List Nat)) ⊕ ((List Nat))) :=
  (.br (decide (s.1 < v109)) (
   (.call (impl_shift_1_g v197 s.1 v110) fun v202 =>
   (.call (impl_Matrix_set_g v200 s.2 v197 s.1) fun v203 =>
   (.grd (decide ((List.set s.2 (Int.toNat (IntKind.i64.wrap ((IntKind.i64.wrap (v197 * v200)) + s.1))) v202).length = s.2.length)) <|
   .leaf (.inl (IntKind.i64.wrap (s.1 + (1 : Int)), List.set s.2 (Int.toNat (IntKind.i64.wrap ((IntKind.i64.wrap (v197 * v200)) + s.1))) v202)))))
  ) (
   .leaf (.inr s.2)
  ))

noncomputable def impl_made_l2_g (v109 : Int) (v110 : List Nat) (v197 : Int) (v199 : Int) (v200 : Int) (s0 : Int × (List Nat)) : Option ((List Nat)) := whileM (fun s => (impl_made_l2_T v109 v110 v197 v199 v200 s).run) s0
def impl_made_l2_E (v108 : Int) (v109 : Int) (v110 : List Nat) (v197 : Int) (v199 : Int) (v200 : Int) (s : Int × (List Nat)) : Sd := ([.top, .int .i64 v109, .fn 144 [.bptr (BR.root 0) [.bslc (BR.root 1) (.f32 v110)]], .top, .top, .top, .ptr 0 (0 : Nat) 0 (3 : Nat), .ptr 1 (0 : Nat) 0 (3 : Nat), .int .i64 v197, .top, .top, .top, .top, .int .i64 v108, .int .i64 v197, .top, .top, .int .i64 v109, .int .i64 s.1, .top, .top, .top, .top, .top, .top, .top, .top, .top, .top, .top, .top, .top], [.gen [.int .i64 (0 : Int), .int .i64 (0 : Int), .nilslc] false 0, .gen [.int .i64 v199, .int .i64 v200, .own 2 0 ((s.2).length)] false 0, .row (.f32 s.2) 0])
def impl_made_l2_X (v108 : Int) (v109 : Int) (v110 : List Nat) (v197 : Int) (v199 : Int) (v200 : Int) (x : (List Nat)) : Out := (.normal, [.top, .int .i64 v109, .fn 144 [.bptr (BR.root 0) [.bslc (BR.root 1) (.f32 v110)]], .top, .top, .top, .ptr 0 (0 : Nat) 0 (3 : Nat), .ptr 1 (0 : Nat) 0 (3 : Nat), .top, .top, .top, .top, .top, .int .i64 v108, .int .i64 v197, .top, .top, .top, .top, .top, .top, .top, .top, .top, .top, .top, .top, .top, .top, .top, .top, .top], [.gen [.int .i64 (0 : Int), .int .i64 (0 : Int), .nilslc] false 0, .gen [.int .i64 v199, .int .i64 v200, .own 2 0 ((x).length)] false 0, .row (.f32 x) 0])
def impl_made_l2_kill : List Nat := [1, 0, 0, 1, 1, 1, 0, 0, 0, 1, 1, 1, 1, 0, 0, 1, 1, 0, 0, 1, 1, 1, 1, 1, 1, 1, 1, 1, 1, 1, 1, 1]
def impl_made_l2_nx : Exit → List Nat
  | .exit 0 => [1, 1, 1, 1, 1, 1, 0, 0, 1, 1, 1, 1, 1, 1, 1, 1, 1, 1, 1, 1, 1, 1, 1, 1, 1, 1, 1, 1, 1, 1, 1, 1]
  | .exit 1 => [1, 0, 0, 1, 1, 1, 0, 0, 1, 1, 1, 1, 1, 0, 0, 1, 1, 1, 1, 1, 1, 1, 1, 1, 1, 1, 1, 1, 1, 1, 1, 1]
  | .exit 2 => [1, 0, 0, 1, 1, 1, 0, 0, 1, 1, 1, 1, 1, 0, 0, 1, 1, 1, 1, 1, 1, 1, 1, 1, 1, 1, 1, 1, 1, 1, 1, 1]
  | .ret => [1, 1, 1, 1, 1, 1, 0, 1, 1, 1, 1, 1, 1, 1, 1, 1, 1, 1, 1, 1, 1, 1, 1, 1, 1, 1, 1, 1, 1, 1, 1, 1]
  | _ => []
noncomputable def impl_made_l0_T (v108 : Int) (v109 : Int) (v110 : List Nat) (v180 : Int) (v181 : Int) (s : Int × (List Nat)) : Tree ((Int × (List Nat)) ⊕ ((List Nat))) :=
  (.br (decide (s.1 < v108)) (
   (.need (some (impl_made_l2_E v108 v109 v110 s.1 v180 v181 ((0 : Int), s.2)) = some (impl_made_l2_E v108 v109 v110 s.1 v180 v181 ((0 : Int), s.2))) <|
   (.call (impl_made_l2_g v109 v110 s.1 v180 v181 ((0 : Int), s.2)) fun v204 =>
   .leaf (.inl (IntKind.i64.wrap (s.1 + (1 : Int)), v204))))
  ) (
   .leaf (.inr s.2)
  ))

noncomputable def impl_made_l0_g (v108 : Int) (v109 : Int) (v110 : List Nat) (v180 : Int) (v181 : Int) (s0 : Int × (List Nat)) : Option ((List Nat)) := whileM (fun s => (impl_made_l0_T v108 v109 v110 v180 v181 s).run) s0
def impl_made_l0_E (v108 : Int) (v109 : Int) (v110 : List Nat) (v180 : Int) (v181 : Int) (s : Int × (List Nat)) : Sd := ([.top, .int .i64 v109, .fn 144 [.bptr (BR.root 0) [.bslc (BR.root 1) (.f32 v110)]], .top, .top, .top, .ptr 0 (0 : Nat) 0 (3 : Nat), .ptr 1 (0 : Nat) 0 (3 : Nat), .top, .top, .top, .top, .top, .int .i64 v108, .int .i64 s.1, .top, .top, .top, .top, .top, .top, .top, .top, .top, .top, .top, .top, .top, .top, .top, .top, .top], [.gen [.int .i64 (0 : Int), .int .i64 (0 : Int), .nilslc] false 0, .gen [.int .i64 v180, .int .i64 v181, .own 2 0 ((s.2).length)] false 0, .row (.f32 s.2) 0])
def impl_made_l0_X (v108 : Int) (v109 : Int) (v110 : List Nat) (v180 : Int) (v181 : Int) (x : (List Nat)) : Out := (.normal, [.top, .top, .top, .top, .top, .top, .ptr 0 (0 : Nat) 0 (3 : Nat), .ptr 1 (0 : Nat) 0 (3 : Nat), .top, .top, .top, .top, .top, .top, .top, .top, .top, .top, .top, .top, .top, .top, .top, .top, .top, .top, .top, .top, .top, .top, .top, .top], [.gen [.int .i64 (0 : Int), .int .i64 (0 : Int), .nilslc] false 0, .gen [.int .i64 v180, .int .i64 v181, .own 2 0 ((x).length)] false 0, .row (.f32 x) 0])
def impl_made_l0_kill : List Nat := [1, 0, 0, 1, 1, 1, 0, 0, 1, 1, 1, 1, 1, 0, 0, 1, 1, 1, 1, 1, 1, 1, 1, 1, 1, 1, 1, 1, 1, 1, 1, 1]
def impl_made_l0_nx : Exit → List Nat
  | .exit 0 => [1, 1, 1, 1, 1, 1, 0, 0, 1, 1, 1, 1, 1, 1, 1, 1, 1, 1, 1, 1, 1, 1, 1, 1, 1, 1, 1, 1, 1, 1, 1, 1]
  | .ret => [1, 1, 1, 1, 1, 1, 0, 1, 1, 1, 1, 1, 1, 1, 1, 1, 1, 1, 1, 1, 1, 1, 1, 1, 1, 1, 1, 1, 1, 1, 1, 1]
  | _ => []
noncomputable def impl_made_LO (v108 : Int) (v109 : Int) (v110 : List Nat) : LOr := fun id e L =>
  match id with
  | 2 => .need (normA 0 impl_made_l2_kill e L = some (impl_made_l2_E v108 v109 v110 (gI (vAt e 8)) (gI (cAt L (vAt e 7) 0)) (gI (cAt L (vAt e 7) 1)) ((gI (vAt e 18)), (gRF L (cAt L (vAt e 7) 2))))) (.call (impl_made_l2_g v109 v110 (gI (vAt e 8)) (gI (cAt L (vAt e 7) 0)) (gI (cAt L (vAt e 7) 1)) ((gI (vAt e 18)), (gRF L (cAt L (vAt e 7) 2)))) fun x => .leaf (impl_made_l2_X v108 v109 v110 (gI (vAt e 8)) (gI (cAt L (vAt e 7) 0)) (gI (cAt L (vAt e 7) 1)) x))
  | 0 => .need (normA 0 impl_made_l0_kill e L = some (impl_made_l0_E v108 v109 v110 (gI (cAt L (vAt e 7) 0)) (gI (cAt L (vAt e 7) 1)) ((gI (vAt e 14)), (gRF L (cAt L (vAt e 7) 2))))) (.call (impl_made_l0_g v108 v109 v110 (gI (cAt L (vAt e 7) 0)) (gI (cAt L (vAt e 7) 1)) ((gI (vAt e 14)), (gRF L (cAt L (vAt e 7) 2)))) fun x => .leaf (impl_made_l0_X v108 v109 v110 (gI (cAt L (vAt e 7) 0)) (gI (cAt L (vAt e 7) 1)) x))
  | _ => .fail
noncomputable def impl_made_tab : List (FuncId × DFn × Bool) := [(181, impl_newMatrix_F, true), (144, impl_shift_1_F, true), (128, impl_Matrix_set_F, false)]
theorem impl_made_hO : OrcOk Try.prog (tabD impl_made_tab) (tabM impl_made_tab) := tabD_cons impl_newMatrix_Fok (tabD_cons impl_shift_1_Fok (tabD_cons impl_Matrix_set_Fok (tabD_nil _)))
theorem impl_made_l2_be (v108 : Int) (v109 : Int) (v110 : List Nat) (v197 : Int) (v199 : Int) (v200 : Int) (s : Int × (List Nat)) : bodyT TT (tabD impl_made_tab) (tabM impl_made_tab) (impl_made_LO v108 v109 v110) 0 impl_made_l2_kill impl_made_l2_nx (bodyOf Try.f143 2) 2 (impl_made_l2_E v108 v109 v110 v197 v199 v200 s) = (impl_made_l2_T v109 v110 v197 v199 v200 s).bind fun y => .leaf (outS (impl_made_l2_E v108 v109 v110 v197 v199 v200) (impl_made_l2_X v108 v109 v110 v197 v199 v200) y) := by kernel_rfl
theorem impl_made_l2_ok (v108 : Int) (v109 : Int) (v110 : List Nat) : LSound Try.prog 0 (impl_made_LO v108 v109 v110) 2 (bodyOf Try.f143 2) := by
  intro e L out h
  exact lo_ok (E := impl_made_l2_E v108 v109 v110 (gI (vAt e 8)) (gI (cAt L (vAt e 7) 0)) (gI (cAt L (vAt e 7) 1))) (gT := impl_made_l2_T v109 v110 (gI (vAt e 8)) (gI (cAt L (vAt e 7) 0)) (gI (cAt L (vAt e 7) 1))) (X := impl_made_l2_X v108 v109 v110 (gI (vAt e 8)) (gI (cAt L (vAt e 7) 0)) (gI (cAt L (vAt e 7) 1))) (s0 := ((gI (vAt e 18)), (gRF L (cAt L (vAt e 7) 2)))) tok impl_made_hO mixed (LoopsOk_eq (l := []) (by kernel_rfl) trivial) (impl_made_l2_be v108 v109 v110 (gI (vAt e 8)) (gI (cAt L (vAt e 7) 0)) (gI (cAt L (vAt e 7) 1))) rfl (by intro x; rfl) h
theorem impl_made_l0_be (v108 : Int) (v109 : Int) (v110 : List Nat) (v180 : Int) (v181 : Int) (s : Int × (List Nat)) : bodyT TT (tabD impl_made_tab) (tabM impl_made_tab) (impl_made_LO v108 v109 v110) 0 impl_made_l0_kill impl_made_l0_nx (bodyOf Try.f143 0) 0 (impl_made_l0_E v108 v109 v110 v180 v181 s) = (impl_made_l0_T v108 v109 v110 v180 v181 s).bind fun y => .leaf (outS (impl_made_l0_E v108 v109 v110 v180 v181) (impl_made_l0_X v108 v109 v110 v180 v181) y) := by kernel_rfl
theorem impl_made_l0_ok (v108 : Int) (v109 : Int) (v110 : List Nat) : LSound Try.prog 0 (impl_made_LO v108 v109 v110) 0 (bodyOf Try.f143 0) := by
  intro e L out h
  exact lo_ok (E := impl_made_l0_E v108 v109 v110 (gI (cAt L (vAt e 7) 0)) (gI (cAt L (vAt e 7) 1))) (gT := impl_made_l0_T v108 v109 v110 (gI (cAt L (vAt e 7) 0)) (gI (cAt L (vAt e 7) 1))) (X := impl_made_l0_X v108 v109 v110 (gI (cAt L (vAt e 7) 0)) (gI (cAt L (vAt e 7) 1))) (s0 := ((gI (vAt e 14)), (gRF L (cAt L (vAt e 7) 2)))) tok impl_made_hO mixed (LoopsOk_eq (l := [(2, bodyOf Try.f143 2)]) (by kernel_rfl) ⟨impl_made_l2_ok v108 v109 v110, trivial⟩) (impl_made_l0_be v108 v109 v110 (gI (cAt L (vAt e 7) 0)) (gI (cAt L (vAt e 7) 1))) rfl (by intro x; rfl) h
noncomputable def impl_made_T (v108 : Int) (v109 : Int) (v110 : List Nat) : Tree (Int × Int × (List Nat)) :=
  (.call (impl_newMatrix_g v108 v109) fun v113 =>
  (.need (some (impl_made_l0_E v108 v109 v110 v113.1 v113.2 ((0 : Int), List.replicate (Int.toNat (IntKind.i64.wrap (v108 * v109))) (0 : Nat))) = some (impl_made_l0_E v108 v109 v110 v113.1 v113.2 ((0 : Int), List.replicate (Int.toNat (IntKind.i64.wrap (v108 * v109))) (0 : Nat)))) <|
  (.call (impl_made_l0_g v108 v109 v110 v113.1 v113.2 ((0 : Int), List.replicate (Int.toNat (IntKind.i64.wrap (v108 * v109))) (0 : Nat))) fun v205 =>
  .leaf (v113.1, v113.2, v205))))

noncomputable def impl_made_g (v108 : Int) (v109 : Int) (v110 : List Nat) : Option (Int × Int × (List Nat)) := (impl_made_T v108 v109 v110).run
def impl_made_enc (v108 : Int) (v109 : Int) (v110 : List Nat) (y : Int × Int × (List Nat)) : Rs := (.agg [.int .i64 y.1, .int .i64 y.2.1, .own 0 0 ((y.2.2).length)], [.row (.f32 y.2.2) 0])
theorem impl_made_den (v108 : Int) (v109 : Int) (v110 : List Nat) : (den TT (tabD impl_made_tab) (tabM impl_made_tab) (impl_made_LO v108 v109 v110) (codeOf Try.f143) ([.int .i64 v108, .int .i64 v109, .fn 144 [.bptr (BR.root 0) [.bslc (BR.root 1) (.f32 v110)]]] ++ List.replicate (Try.f143.ntmps - ([.int .i64 v108, .int .i64 v109, .fn 144 [.bptr (BR.root 0) [.bslc (BR.root 1) (.f32 v110)]]] : List DV).length) .undef) []).bind (retD TT Try.f143.results.toList 0) = (impl_made_T v108 v109 v110).bind fun y => .leaf (impl_made_enc v108 v109 v110 y) := by kernel_rfl
theorem impl_made_fn (v108 : Int) (v109 : Int) (v110 : List Nat) (F : Fr) (hm : F.ids.length = 0) (h0 : St F [] F.H0) (hA : DVs.Ok F [] [.int .i64 v108, .int .i64 v109, .fn 144 [.bptr (BR.root 0) [.bslc (BR.root 1) (.f32 v110)]]]) {y : Int × Int × (List Nat)} (hy : impl_made_g v108 v109 v110 = some y) : ∃ H', FnOk Try.prog 143 (DVs.av F [.int .i64 v108, .int .i64 v109, .fn 144 [.bptr (BR.root 0) [.bslc (BR.root 1) (.f32 v110)]]]) F.H0 ((impl_made_enc v108 v109 v110 y).1.av F) H' ∧ St F (impl_made_enc v108 v109 v110 y).2 H' ∧ (impl_made_enc v108 v109 v110 y).1.Ok F (impl_made_enc v108 v109 v110 y).2 :=
  fn_fin tok impl_made_hO mixed Try.func143 Try.call143 (by kernel_rfl) (LoopsOk_eq (l := [(0, bodyOf Try.f143 0)]) (by kernel_rfl) ⟨impl_made_l0_ok v108 v109 v110, trivial⟩) (impl_made_den v108 v109 v110) hy hm h0 hA
noncomputable def impl_made_F : DFn := fun args L =>
  match args with
  | [.int .i64 v108, .int .i64 v109, .fn 144 [a1]] =>
    optT (cellsOf L 1 a1) fun cs0 =>
    (match cs0 with
    | [a2] =>
    optT (rowF32 L a2) fun v110 =>
    .call (impl_made_g v108 v109 v110) fun y => .leaf (.agg [.int .i64 y.1, .int .i64 y.2.1, .own (L.length + 0) 0 ((y.2.2).length)], L ++ [.row (.f32 y.2.2) 0])
    | _ => .fail)
  | _ => .fail
theorem impl_made_Fok : COk Try.prog 143 impl_made_F true := by
  intro F L H args r L' hs ha hr
  unfold impl_made_F at hr
  split at hr
  · rename_i v108 v109 a1
    obtain ⟨cs0, hcp0, hr⟩ := optT_run hr
    split at hr
    · rename_i a2
      obtain ⟨v110, hv110, hr⟩ := optT_run hr
      simp only [Tree.run] at hr
      obtain ⟨y, hy, hr⟩ := Option.bind_eq_some_iff.1 hr
      simp only [Tree.run, Option.some.injEq, Prod.mk.injEq] at hr
      obtain ⟨rfl, rfl⟩ := hr
      exact call_ok1 hs (fun k => (([a1.av F, a2.av F] : List AV)[k]?).getD .top) [.int .i64 v108, .int .i64 v109, .fn 144 [a1]] [.int .i64 v108, .int .i64 v109, .fn 144 [.bptr (BR.root 0) [.bslc (BR.root 1) (.f32 v110)]]] (fun F' h0 hi hρ => ⟨by simp [DVs.av, DV.av, BR.av, hρ], impl_made_fn v108 v109 v110 F' (by rw [hi]; rfl) (st_nil hi) ⟨trivial, trivial, ⟨bptr_ok hi (by rw [h0]; simpa [DVs.av, DV.av, BR.av, hρ] using (cellsOf_ok hs (DVs.okAt (DVs.okAt ha 2 rfl) 0 rfl) hcp0).1) ⟨bslc_ok hi (by rw [h0, hρ]; exact rowF32_ok hs (DVs.okAt (cellsOf_ok hs (DVs.okAt (DVs.okAt ha 2 rfl) 0 rfl) hcp0).2 0 rfl) hv110), trivial⟩, trivial⟩, trivial⟩ hy⟩) rfl rfl
    · cases hr
  · cases hr
/-! impl.shift -/
noncomputable def impl_shift_LO (v107 : List Nat) : LOr := fun id e L =>
  match id with
  | _ => .fail
noncomputable def impl_shift_tab : List (FuncId × DFn × Bool) := [(142, impl_lengthF_F, true), (143, impl_made_F, true)]
theorem impl_shift_hO : OrcOk Try.prog (tabD impl_shift_tab) (tabM impl_shift_tab) := tabD_cons impl_lengthF_Fok (tabD_cons impl_made_Fok (tabD_nil _))
noncomputable def impl_shift_T (v107 : List Nat) : Tree (Int × Int × (List Nat)) :=
  (.call (impl_made_g (impl_lengthF_v v107) (impl_lengthF_v v107) v107) fun v206 =>
  .leaf (v206.1, v206.2.1, v206.2.2))

noncomputable def impl_shift_g (v107 : List Nat) : Option (Int × Int × (List Nat)) := (impl_shift_T v107).run
def impl_shift_enc (v107 : List Nat) (y : Int × Int × (List Nat)) : Rs := (.agg [.int .i64 y.1, .int .i64 y.2.1, .own 0 0 ((y.2.2).length)], [.row (.f32 y.2.2) 0])
theorem impl_shift_den (v107 : List Nat) : (den TT (tabD impl_shift_tab) (tabM impl_shift_tab) (impl_shift_LO v107) (codeOf Try.f89) ([.bslc (BR.root 0) (.f32 v107)] ++ List.replicate (Try.f89.ntmps - ([.bslc (BR.root 0) (.f32 v107)] : List DV).length) .undef) []).bind (retD TT Try.f89.results.toList 0) = (impl_shift_T v107).bind fun y => .leaf (impl_shift_enc v107 y) := by kernel_rfl
theorem impl_shift_fn (v107 : List Nat) (F : Fr) (hm : F.ids.length = 0) (h0 : St F [] F.H0) (hA : DVs.Ok F [] [.bslc (BR.root 0) (.f32 v107)]) {y : Int × Int × (List Nat)} (hy : impl_shift_g v107 = some y) : ∃ H', FnOk Try.prog 89 (DVs.av F [.bslc (BR.root 0) (.f32 v107)]) F.H0 ((impl_shift_enc v107 y).1.av F) H' ∧ St F (impl_shift_enc v107 y).2 H' ∧ (impl_shift_enc v107 y).1.Ok F (impl_shift_enc v107 y).2 :=
  fn_fin tok impl_shift_hO mixed Try.func89 Try.call89 (by kernel_rfl) (LoopsOk_eq (l := []) (by kernel_rfl) trivial) (impl_shift_den v107) hy hm h0 hA
noncomputable def impl_shift_F : DFn := fun args L =>
  match args with
  | [a1] =>
    optT (rowF32 L a1) fun v107 =>
    .call (impl_shift_g v107) fun y => .leaf (.agg [.int .i64 y.1, .int .i64 y.2.1, .own (L.length + 0) 0 ((y.2.2).length)], L ++ [.row (.f32 y.2.2) 0])
  | _ => .fail
theorem impl_shift_Fok : COk Try.prog 89 impl_shift_F true := by
  intro F L H args r L' hs ha hr
  unfold impl_shift_F at hr
  split at hr
  · rename_i a1
    obtain ⟨v107, hv107, hr⟩ := optT_run hr
    simp only [Tree.run] at hr
    obtain ⟨y, hy, hr⟩ := Option.bind_eq_some_iff.1 hr
    simp only [Tree.run, Option.some.injEq, Prod.mk.injEq] at hr
    obtain ⟨rfl, rfl⟩ := hr
    exact call_ok1 hs (fun k => (([a1.av F] : List AV)[k]?).getD .top) [a1] [.bslc (BR.root 0) (.f32 v107)] (fun F' h0 hi hρ => ⟨by simp [DVs.av, DV.av, BR.av, hρ], impl_shift_fn v107 F' (by rw [hi]; rfl) (st_nil hi) ⟨bslc_ok hi (by rw [h0, hρ]; exact rowF32_ok hs (DVs.okAt ha 0 rfl) hv107), trivial⟩ hy⟩) rfl rfl
  · cases hr
/-! impl.ShiftMatrix -/
noncomputable def impl_ShiftMatrix_LO (v81 : List Nat) : LOr := fun id e L =>
  match id with
  | _ => .fail
noncomputable def impl_ShiftMatrix_tab : List (FuncId × DFn × Bool) := [(88, impl_isList_F, true), (89, impl_shift_F, true)]
theorem impl_ShiftMatrix_hO : OrcOk Try.prog (tabD impl_ShiftMatrix_tab) (tabM impl_ShiftMatrix_tab) := tabD_cons impl_isList_Fok (tabD_cons impl_shift_Fok (tabD_nil _))
noncomputable def impl_ShiftMatrix_T (v81 : List Nat) : Tree ((Unit) ⊕ (Int × Int × (List Nat))) :=
  (.call (impl_isList_g v81 (12 : Int)) fun v106 =>
  (.br (!v106) (
   .leaf (.inl ())
  ) (
   (.call (impl_shift_g v81) fun v207 =>
   .leaf (.inr (v207.1, v207.2.1, v207.2.2)))
  )))

noncomputable def impl_ShiftMatrix_g (v81 : List Nat) : Option ((Unit) ⊕ (Int × Int × (List Nat))) := (impl_ShiftMatrix_T v81).run
def impl_ShiftMatrix_enc (v81 : List Nat) (y : (Unit) ⊕ (Int × Int × (List Nat))) : Rs := (match y with | .inl y => (.tup [.agg [.int .i64 (0 : Int), .int .i64 (0 : Int), .nilslc], .lit false], []) | .inr y => (.tup [.agg [.int .i64 y.1, .int .i64 y.2.1, .own 0 0 ((y.2.2).length)], .lit true], [.row (.f32 y.2.2) 0]))
theorem impl_ShiftMatrix_den (v81 : List Nat) : (den TT (tabD impl_ShiftMatrix_tab) (tabM impl_ShiftMatrix_tab) (impl_ShiftMatrix_LO v81) (codeOf Try.f30) ([.bslc (BR.root 0) (.f32 v81)] ++ List.replicate (Try.f30.ntmps - ([.bslc (BR.root 0) (.f32 v81)] : List DV).length) .undef) []).bind (retD TT Try.f30.results.toList 0) = (impl_ShiftMatrix_T v81).bind fun y => .leaf (impl_ShiftMatrix_enc v81 y) := by kernel_rfl
theorem impl_ShiftMatrix_fn (v81 : List Nat) (F : Fr) (hm : F.ids.length = 0) (h0 : St F [] F.H0) (hA : DVs.Ok F [] [.bslc (BR.root 0) (.f32 v81)]) {y : (Unit) ⊕ (Int × Int × (List Nat))} (hy : impl_ShiftMatrix_g v81 = some y) : ∃ H', FnOk Try.prog 30 (DVs.av F [.bslc (BR.root 0) (.f32 v81)]) F.H0 ((impl_ShiftMatrix_enc v81 y).1.av F) H' ∧ St F (impl_ShiftMatrix_enc v81 y).2 H' ∧ (impl_ShiftMatrix_enc v81 y).1.Ok F (impl_ShiftMatrix_enc v81 y).2 :=
  fn_fin tok impl_ShiftMatrix_hO mixed Try.func30 Try.call30 (by kernel_rfl) (LoopsOk_eq (l := []) (by kernel_rfl) trivial) (impl_ShiftMatrix_den v81) hy hm h0 hA
noncomputable def impl_ShiftMatrix_F : DFn := fun args L =>
  match args with
  | [a1] =>
    optT (rowF32 L a1) fun v81 =>
    .call (impl_ShiftMatrix_g v81) fun y => .sum y (fun y0 => .leaf (.tup [.agg [.int .i64 (0 : Int), .int .i64 (0 : Int), .nilslc], .lit false], L)) (fun z0 => .leaf (.tup [.agg [.int .i64 z0.1, .int .i64 z0.2.1, .own (L.length + 0) 0 ((z0.2.2).length)], .lit true], L ++ [.row (.f32 z0.2.2) 0]))
  | _ => .fail
theorem impl_ShiftMatrix_Fok : COk Try.prog 30 impl_ShiftMatrix_F true := by
  intro F L H args r L' hs ha hr
  unfold impl_ShiftMatrix_F at hr
  split at hr
  · rename_i a1
    obtain ⟨v81, hv81, hr⟩ := optT_run hr
    simp only [Tree.run] at hr
    obtain ⟨y, hy, hr⟩ := Option.bind_eq_some_iff.1 hr
    cases y with
    | inl y =>
      simp only [Tree.run, Option.some.injEq, Prod.mk.injEq] at hr
      obtain ⟨rfl, rfl⟩ := hr
      exact call_ok0 hs (fun k => (([a1.av F] : List AV)[k]?).getD .top) [a1] [.bslc (BR.root 0) (.f32 v81)] (fun F' h0 hi hρ => ⟨by simp [DVs.av, DV.av, BR.av, hρ], impl_ShiftMatrix_fn v81 F' (by rw [hi]; rfl) (st_nil hi) ⟨bslc_ok hi (by rw [h0, hρ]; exact rowF32_ok hs (DVs.okAt ha 0 rfl) hv81), trivial⟩ hy⟩) rfl
    | inr y =>
      simp only [Tree.run, Option.some.injEq, Prod.mk.injEq] at hr
      obtain ⟨rfl, rfl⟩ := hr
      exact call_ok1 hs (fun k => (([a1.av F] : List AV)[k]?).getD .top) [a1] [.bslc (BR.root 0) (.f32 v81)] (fun F' h0 hi hρ => ⟨by simp [DVs.av, DV.av, BR.av, hρ], impl_ShiftMatrix_fn v81 F' (by rw [hi]; rfl) (st_nil hi) ⟨bslc_ok hi (by rw [h0, hρ]; exact rowF32_ok hs (DVs.okAt ha 0 rfl) hv81), trivial⟩ hy⟩) rfl rfl
  · cases hr
/-! laws.sameFloat -/
noncomputable def laws_sameFloat_LO (v220 : Nat) (v221 : Nat) : LOr := fun id e L =>
  match id with
  | _ => .fail
noncomputable def laws_sameFloat_tab : List (FuncId × DFn × Bool) := []
theorem laws_sameFloat_hO : OrcOk Try.prog (tabD laws_sameFloat_tab) (tabM laws_sameFloat_tab) := tabD_nil _
noncomputable def laws_sameFloat_T (v220 : Nat) (v221 : Nat) : Tree (Bool) :=
  (.br (!feq .f64 v220 v220) (
   (.br (!feq .f64 v220 v220) (
    .leaf (!feq .f64 v221 v221)
   ) (
    .leaf false
   ))
  ) (
   (.br (!feq .f64 v221 v221) (
    (.br (!feq .f64 v220 v220) (
     .leaf (!feq .f64 v221 v221)
    ) (
     .leaf false
    ))
   ) (
    (.br (feq .f64 v220 (0 : Nat)) (
     (.br (feq .f64 v221 (0 : Nat)) (
      .leaf ((fgrt .f64 (fdiv .f64 (4607182418800017408 : Nat) v220) (0 : Nat)) == (fgrt .f64 (fdiv .f64 (4607182418800017408 : Nat) v221) (0 : Nat)))
     ) (
      .leaf (feq .f64 v220 v221)
     ))
    ) (
     .leaf (feq .f64 v220 v221)
    ))
   ))
  ))

noncomputable def laws_sameFloat_g (v220 : Nat) (v221 : Nat) : Option (Bool) := (laws_sameFloat_T v220 v221).run
def laws_sameFloat_enc (v220 : Nat) (v221 : Nat) (y : Bool) : Rs := (.bool y, [])
theorem laws_sameFloat_den (v220 : Nat) (v221 : Nat) : (den TT (tabD laws_sameFloat_tab) (tabM laws_sameFloat_tab) (laws_sameFloat_LO v220 v221) (codeOf Try.f90) ([.flt .f64 v220, .flt .f64 v221] ++ List.replicate (Try.f90.ntmps - ([.flt .f64 v220, .flt .f64 v221] : List DV).length) .undef) []).bind (retD TT Try.f90.results.toList 0) = (laws_sameFloat_T v220 v221).bind fun y => .leaf (laws_sameFloat_enc v220 v221 y) := by kernel_rfl
theorem laws_sameFloat_fn (v220 : Nat) (v221 : Nat) (F : Fr) (hm : F.ids.length = 0) (h0 : St F [] F.H0) (hA : DVs.Ok F [] [.flt .f64 v220, .flt .f64 v221]) {y : Bool} (hy : laws_sameFloat_g v220 v221 = some y) : ∃ H', FnOk Try.prog 90 (DVs.av F [.flt .f64 v220, .flt .f64 v221]) F.H0 ((laws_sameFloat_enc v220 v221 y).1.av F) H' ∧ St F (laws_sameFloat_enc v220 v221 y).2 H' ∧ (laws_sameFloat_enc v220 v221 y).1.Ok F (laws_sameFloat_enc v220 v221 y).2 :=
  fn_fin tok laws_sameFloat_hO mixed Try.func90 Try.call90 (by kernel_rfl) (LoopsOk_eq (l := []) (by kernel_rfl) trivial) (laws_sameFloat_den v220 v221) hy hm h0 hA
def laws_sameFloat_v (v220 : Nat) (v221 : Nat) : Bool :=
  if (!feq .f64 v220 v220) = true then (
   if (!feq .f64 v220 v220) = true then (
    !feq .f64 v221 v221
   ) else (
    false
   )
  ) else (
   if (!feq .f64 v221 v221) = true then (
    if (!feq .f64 v220 v220) = true then (
     !feq .f64 v221 v221
    ) else (
     false
    )
   ) else (
    if (feq .f64 v220 (0 : Nat)) = true then (
     if (feq .f64 v221 (0 : Nat)) = true then (
      (fgrt .f64 (fdiv .f64 (4607182418800017408 : Nat) v220) (0 : Nat)) == (fgrt .f64 (fdiv .f64 (4607182418800017408 : Nat) v221) (0 : Nat))
     ) else (
      feq .f64 v220 v221
     )
    ) else (
     feq .f64 v220 v221
    )
   )
  )
theorem laws_sameFloat_tot (v220 : Nat) (v221 : Nat) : laws_sameFloat_g v220 v221 = some (laws_sameFloat_v v220 v221) := by
  unfold laws_sameFloat_g laws_sameFloat_T laws_sameFloat_v
  simp only [Tree.run]
  repeat' (first | rfl | split)
noncomputable def laws_sameFloat_F : DFn := fun args L =>
  match args with
  | [.flt .f64 v220, .flt .f64 v221] =>
    .leaf (.bool (laws_sameFloat_v v220 v221), L)
  | _ => .fail
theorem laws_sameFloat_Fok : COk Try.prog 90 laws_sameFloat_F true := by
  intro F L H args r L' hs ha hr
  unfold laws_sameFloat_F at hr
  split at hr
  · rename_i v220 v221
    have hy := laws_sameFloat_tot v220 v221
    generalize laws_sameFloat_v v220 v221 = y at hy hr
    simp only [Tree.run, Option.some.injEq, Prod.mk.injEq] at hr
    obtain ⟨rfl, rfl⟩ := hr
    exact call_ok0 hs (fun k => (([] : List AV)[k]?).getD .top) [.flt .f64 v220, .flt .f64 v221] [.flt .f64 v220, .flt .f64 v221] (fun F' h0 hi hρ => ⟨by simp [DVs.av, DV.av, BR.av, hρ], laws_sameFloat_fn v220 v221 F' (by rw [hi]; rfl) (st_nil hi) ⟨trivial, trivial, trivial⟩ hy⟩) rfl
  · cases hr
/-! laws.eqFloat32S -/
noncomputable def laws_eqFloat32S_l0_T (v217 : List Nat) (v218 : List Nat) (s : Int) : Tree ((Int) ⊕ ((Unit) ⊕ (Unit))) :=
  (.br (decide (s < ((v217.length : Nat) : Int))) (
   (.grd (inb s v217.length) <|
   (.grd (inb s v218.length) <|
   (.br (!(laws_sameFloat_v (wid (nth v217 (Int.toNat s))) (wid (nth v218 (Int.toNat s))))) (
    .leaf (.inr (.inl ()))
   ) (
    .leaf (.inl (IntKind.i64.wrap (s + (1 : Int))))
   ))))
  ) (
   .leaf (.inr (.inr ()))
  ))

noncomputable def laws_eqFloat32S_l0_g (v217 : List Nat) (v218 : List Nat) (s0 : Int) : Option ((Unit) ⊕ (Unit)) := whileM (fun s => (laws_eqFloat32S_l0_T v217 v218 s).run) s0
def laws_eqFloat32S_l0_E (v217 : List Nat) (v218 : List Nat) (s : Int) : Sd := ([.bslc (BR.root 0) (.f32 v217), .bslc (BR.root 1) (.f32 v218), .top, .top, .top, .int .i64 s, .top, .top, .top, .top, .top, .top, .top, .top, .top, .top, .top, .top, .top, .top, .top, .top, .top, .top, .top, .top, .top, .top, .top], [])
def laws_eqFloat32S_l0_X (v217 : List Nat) (v218 : List Nat) (x : (Unit) ⊕ (Unit)) : Out := (match x with | .inl x => (.ret, [.top, .top, .top, .top, .lit false, .top, .top, .top, .top, .top, .top, .top, .top, .top, .top, .top, .top, .top, .top, .top, .top, .top, .top, .top, .top, .top, .top, .top, .top], []) | .inr x => (.normal, [.top, .top, .top, .top, .top, .top, .top, .top, .top, .top, .top, .top, .top, .top, .top, .top, .top, .top, .top, .top, .top, .top, .top, .top, .top, .top, .top, .top, .top], []))
def laws_eqFloat32S_l0_kill : List Nat := [0, 0, 1, 1, 1, 0, 1, 1, 1, 1, 1, 1, 1, 1, 1, 1, 1, 1, 1, 1, 1, 1, 1, 1, 1, 1, 1, 1, 1]
def laws_eqFloat32S_l0_nx : Exit → List Nat
  | .exit 0 => [1, 1, 1, 1, 1, 1, 1, 1, 1, 1, 1, 1, 1, 1, 1, 1, 1, 1, 1, 1, 1, 1, 1, 1, 1, 1, 1, 1, 1]
  | .ret => [1, 1, 1, 1, 0, 1, 1, 1, 1, 1, 1, 1, 1, 1, 1, 1, 1, 1, 1, 1, 1, 1, 1, 1, 1, 1, 1, 1, 1]
  | _ => []
noncomputable def laws_eqFloat32S_LO (v217 : List Nat) (v218 : List Nat) : LOr := fun id e L =>
  match id with
  | 0 => .need (normA 0 laws_eqFloat32S_l0_kill e L = some (laws_eqFloat32S_l0_E v217 v218 (gI (vAt e 5)))) (.call (laws_eqFloat32S_l0_g v217 v218 (gI (vAt e 5))) fun x => .sum x (fun b0 => .leaf (laws_eqFloat32S_l0_X v217 v218 (.inl b0))) (fun c0 => .leaf (laws_eqFloat32S_l0_X v217 v218 (.inr c0))))
  | _ => .fail
noncomputable def laws_eqFloat32S_tab : List (FuncId × DFn × Bool) := [(90, laws_sameFloat_F, true)]
theorem laws_eqFloat32S_hO : OrcOk Try.prog (tabD laws_eqFloat32S_tab) (tabM laws_eqFloat32S_tab) := tabD_cons laws_sameFloat_Fok (tabD_nil _)
theorem laws_eqFloat32S_l0_be (v217 : List Nat) (v218 : List Nat) (s : Int) : bodyT TT (tabD laws_eqFloat32S_tab) (tabM laws_eqFloat32S_tab) (laws_eqFloat32S_LO v217 v218) 0 laws_eqFloat32S_l0_kill laws_eqFloat32S_l0_nx (bodyOf Try.f32 0) 0 (laws_eqFloat32S_l0_E v217 v218 s) = (laws_eqFloat32S_l0_T v217 v218 s).bind fun y => .leaf (outS (laws_eqFloat32S_l0_E v217 v218) (laws_eqFloat32S_l0_X v217 v218) y) := by kernel_rfl
theorem laws_eqFloat32S_l0_ok (v217 : List Nat) (v218 : List Nat) : LSound Try.prog 0 (laws_eqFloat32S_LO v217 v218) 0 (bodyOf Try.f32 0) := by
  intro e L out h
  exact lo_ok (E := laws_eqFloat32S_l0_E v217 v218) (gT := laws_eqFloat32S_l0_T v217 v218) (X := laws_eqFloat32S_l0_X v217 v218) (s0 := (gI (vAt e 5))) tok laws_eqFloat32S_hO mixed (LoopsOk_eq (l := []) (by kernel_rfl) trivial) (laws_eqFloat32S_l0_be v217 v218) rfl (by intro x; (cases x with | inl b => rfl | inr x => exact rfl)) h
noncomputable def laws_eqFloat32S_T (v217 : List Nat) (v218 : List Nat) : Tree (Bool) :=
  (.br (!decide (((v217.length : Nat) : Int) = ((v218.length : Nat) : Int))) (
   .leaf false
  ) (
   (.need (some (laws_eqFloat32S_l0_E v217 v218 (0 : Int)) = some (laws_eqFloat32S_l0_E v217 v218 (0 : Int))) <|
   (.call (laws_eqFloat32S_l0_g v217 v218 (0 : Int)) fun v224 =>
   (.sum v224 (fun v225 =>
    .leaf false
   ) (fun v226 =>
    .leaf true
   ))))
  ))

noncomputable def laws_eqFloat32S_g (v217 : List Nat) (v218 : List Nat) : Option (Bool) := (laws_eqFloat32S_T v217 v218).run
def laws_eqFloat32S_enc (v217 : List Nat) (v218 : List Nat) (y : Bool) : Rs := (.bool y, [])
theorem laws_eqFloat32S_den (v217 : List Nat) (v218 : List Nat) : (den TT (tabD laws_eqFloat32S_tab) (tabM laws_eqFloat32S_tab) (laws_eqFloat32S_LO v217 v218) (codeOf Try.f32) ([.bslc (BR.root 0) (.f32 v217), .bslc (BR.root 1) (.f32 v218)] ++ List.replicate (Try.f32.ntmps - ([.bslc (BR.root 0) (.f32 v217), .bslc (BR.root 1) (.f32 v218)] : List DV).length) .undef) []).bind (retD TT Try.f32.results.toList 0) = (laws_eqFloat32S_T v217 v218).bind fun y => .leaf (laws_eqFloat32S_enc v217 v218 y) := by kernel_rfl
theorem laws_eqFloat32S_fn (v217 : List Nat) (v218 : List Nat) (F : Fr) (hm : F.ids.length = 0) (h0 : St F [] F.H0) (hA : DVs.Ok F [] [.bslc (BR.root 0) (.f32 v217), .bslc (BR.root 1) (.f32 v218)]) {y : Bool} (hy : laws_eqFloat32S_g v217 v218 = some y) : ∃ H', FnOk Try.prog 32 (DVs.av F [.bslc (BR.root 0) (.f32 v217), .bslc (BR.root 1) (.f32 v218)]) F.H0 ((laws_eqFloat32S_enc v217 v218 y).1.av F) H' ∧ St F (laws_eqFloat32S_enc v217 v218 y).2 H' ∧ (laws_eqFloat32S_enc v217 v218 y).1.Ok F (laws_eqFloat32S_enc v217 v218 y).2 :=
  fn_fin tok laws_eqFloat32S_hO mixed Try.func32 Try.call32 (by kernel_rfl) (LoopsOk_eq (l := [(0, bodyOf Try.f32 0)]) (by kernel_rfl) ⟨laws_eqFloat32S_l0_ok v217 v218, trivial⟩) (laws_eqFloat32S_den v217 v218) hy hm h0 hA
noncomputable def laws_eqFloat32S_F : DFn := fun args L =>
  match args with
  | [a1, a2] =>
    optT (rowF32 L a1) fun v217 =>
    optT (rowF32 L a2) fun v218 =>
    .call (laws_eqFloat32S_g v217 v218) fun y => .leaf (.bool y, L)
  | _ => .fail
theorem laws_eqFloat32S_Fok : COk Try.prog 32 laws_eqFloat32S_F true := by
  intro F L H args r L' hs ha hr
  unfold laws_eqFloat32S_F at hr
  split at hr
  · rename_i a1 a2
    obtain ⟨v217, hv217, hr⟩ := optT_run hr
    obtain ⟨v218, hv218, hr⟩ := optT_run hr
    simp only [Tree.run] at hr
    obtain ⟨y, hy, hr⟩ := Option.bind_eq_some_iff.1 hr
    simp only [Tree.run, Option.some.injEq, Prod.mk.injEq] at hr
    obtain ⟨rfl, rfl⟩ := hr
    exact call_ok0 hs (fun k => (([a1.av F, a2.av F] : List AV)[k]?).getD .top) [a1, a2] [.bslc (BR.root 0) (.f32 v217), .bslc (BR.root 1) (.f32 v218)] (fun F' h0 hi hρ => ⟨by simp [DVs.av, DV.av, BR.av, hρ], laws_eqFloat32S_fn v217 v218 F' (by rw [hi]; rfl) (st_nil hi) ⟨bslc_ok hi (by rw [h0, hρ]; exact rowF32_ok hs (DVs.okAt ha 0 rfl) hv217), bslc_ok hi (by rw [h0, hρ]; exact rowF32_ok hs (DVs.okAt ha 1 rfl) hv218), trivial⟩ hy⟩) rfl
  · cases hr
/-! laws.eqMatrix -/
noncomputable def laws_eqMatrix_LO (v211 : Int) (v212 : Int) (v213 : List Nat) (v214 : Int) (v215 : Int) (v216 : List Nat) : LOr := fun id e L =>
  match id with
  | _ => .fail
noncomputable def laws_eqMatrix_tab : List (FuncId × DFn × Bool) := [(32, laws_eqFloat32S_F, true)]
theorem laws_eqMatrix_hO : OrcOk Try.prog (tabD laws_eqMatrix_tab) (tabM laws_eqMatrix_tab) := tabD_cons laws_eqFloat32S_Fok (tabD_nil _)
noncomputable def laws_eqMatrix_T (v211 : Int) (v212 : Int) (v213 : List Nat) (v214 : Int) (v215 : Int) (v216 : List Nat) : Tree (Bool) :=
  (.br (!decide (v211 = v214)) (
   .leaf false
  ) (
   (.br (!decide (v212 = v215)) (
    .leaf false
   ) (
    (.call (laws_eqFloat32S_g v213 v216) fun v227 =>
    (.br (!v227) (
     .leaf false
    ) (
     .leaf true
    )))
   ))
  ))

noncomputable def laws_eqMatrix_g (v211 : Int) (v212 : Int) (v213 : List Nat) (v214 : Int) (v215 : Int) (v216 : List Nat) : Option (Bool) := (laws_eqMatrix_T v211 v212 v213 v214 v215 v216).run
def laws_eqMatrix_enc (v211 : Int) (v212 : Int) (v213 : List Nat) (v214 : Int) (v215 : Int) (v216 : List Nat) (y : Bool) : Rs := (.bool y, [])
theorem laws_eqMatrix_den (v211 : Int) (v212 : Int) (v213 : List Nat) (v214 : Int) (v215 : Int) (v216 : List Nat) : (den TT (tabD laws_eqMatrix_tab) (tabM laws_eqMatrix_tab) (laws_eqMatrix_LO v211 v212 v213 v214 v215 v216) (codeOf Try.f31) ([.agg [.int .i64 v211, .int .i64 v212, .bslc (BR.root 0) (.f32 v213)], .agg [.int .i64 v214, .int .i64 v215, .bslc (BR.root 1) (.f32 v216)]] ++ List.replicate (Try.f31.ntmps - ([.agg [.int .i64 v211, .int .i64 v212, .bslc (BR.root 0) (.f32 v213)], .agg [.int .i64 v214, .int .i64 v215, .bslc (BR.root 1) (.f32 v216)]] : List DV).length) .undef) []).bind (retD TT Try.f31.results.toList 0) = (laws_eqMatrix_T v211 v212 v213 v214 v215 v216).bind fun y => .leaf (laws_eqMatrix_enc v211 v212 v213 v214 v215 v216 y) := by kernel_rfl
theorem laws_eqMatrix_fn (v211 : Int) (v212 : Int) (v213 : List Nat) (v214 : Int) (v215 : Int) (v216 : List Nat) (F : Fr) (hm : F.ids.length = 0) (h0 : St F [] F.H0) (hA : DVs.Ok F [] [.agg [.int .i64 v211, .int .i64 v212, .bslc (BR.root 0) (.f32 v213)], .agg [.int .i64 v214, .int .i64 v215, .bslc (BR.root 1) (.f32 v216)]]) {y : Bool} (hy : laws_eqMatrix_g v211 v212 v213 v214 v215 v216 = some y) : ∃ H', FnOk Try.prog 31 (DVs.av F [.agg [.int .i64 v211, .int .i64 v212, .bslc (BR.root 0) (.f32 v213)], .agg [.int .i64 v214, .int .i64 v215, .bslc (BR.root 1) (.f32 v216)]]) F.H0 ((laws_eqMatrix_enc v211 v212 v213 v214 v215 v216 y).1.av F) H' ∧ St F (laws_eqMatrix_enc v211 v212 v213 v214 v215 v216 y).2 H' ∧ (laws_eqMatrix_enc v211 v212 v213 v214 v215 v216 y).1.Ok F (laws_eqMatrix_enc v211 v212 v213 v214 v215 v216 y).2 :=
  fn_fin tok laws_eqMatrix_hO mixed Try.func31 Try.call31 (by kernel_rfl) (LoopsOk_eq (l := []) (by kernel_rfl) trivial) (laws_eqMatrix_den v211 v212 v213 v214 v215 v216) hy hm h0 hA
noncomputable def laws_eqMatrix_F : DFn := fun args L =>
  match args with
  | [.agg [.int .i64 v211, .int .i64 v212, a1], .agg [.int .i64 v214, .int .i64 v215, a2]] =>
    optT (rowF32 L a1) fun v213 =>
    optT (rowF32 L a2) fun v216 =>
    .call (laws_eqMatrix_g v211 v212 v213 v214 v215 v216) fun y => .leaf (.bool y, L)
  | _ => .fail
theorem laws_eqMatrix_Fok : COk Try.prog 31 laws_eqMatrix_F true := by
  intro F L H args r L' hs ha hr
  unfold laws_eqMatrix_F at hr
  split at hr
  · rename_i v211 v212 a1 v214 v215 a2
    obtain ⟨v213, hv213, hr⟩ := optT_run hr
    obtain ⟨v216, hv216, hr⟩ := optT_run hr
    simp only [Tree.run] at hr
    obtain ⟨y, hy, hr⟩ := Option.bind_eq_some_iff.1 hr
    simp only [Tree.run, Option.some.injEq, Prod.mk.injEq] at hr
    obtain ⟨rfl, rfl⟩ := hr
    exact call_ok0 hs (fun k => (([a1.av F, a2.av F] : List AV)[k]?).getD .top) [.agg [.int .i64 v211, .int .i64 v212, a1], .agg [.int .i64 v214, .int .i64 v215, a2]] [.agg [.int .i64 v211, .int .i64 v212, .bslc (BR.root 0) (.f32 v213)], .agg [.int .i64 v214, .int .i64 v215, .bslc (BR.root 1) (.f32 v216)]] (fun F' h0 hi hρ => ⟨by simp [DVs.av, DV.av, BR.av, hρ], laws_eqMatrix_fn v211 v212 v213 v214 v215 v216 F' (by rw [hi]; rfl) (st_nil hi) ⟨⟨trivial, trivial, bslc_ok hi (by rw [h0, hρ]; exact rowF32_ok hs (DVs.okAt (DVs.okAt ha 0 rfl) 2 rfl) hv213), trivial⟩, ⟨trivial, trivial, bslc_ok hi (by rw [h0, hρ]; exact rowF32_ok hs (DVs.okAt (DVs.okAt ha 1 rfl) 2 rfl) hv216), trivial⟩, trivial⟩ hy⟩) rfl
  · cases hr
/-! laws.markFloat32S -/
noncomputable def laws_markFloat32S_l0_T (s : Int × Int × (List Nat)) : Tree ((Int × Int × (List Nat)) ⊕ (Int × (List Nat))) :=
  (.br (decide (s.2.1 < (((s.2.2).length : Nat) : Int))) (
   (.grd (inb s.2.1 ((s.2.2).length)) <|
   .leaf (.inl (IntKind.i64.wrap (s.1 + (1 : Int)), IntKind.i64.wrap (s.2.1 + (1 : Int)), List.set s.2.2 (Int.toNat s.2.1) (fofint .f32 s.1))))
  ) (
   .leaf (.inr (s.1, s.2.2))
  ))

noncomputable def laws_markFloat32S_l0_g (s0 : Int × Int × (List Nat)) : Option (Int × (List Nat)) := whileM (fun s => (laws_markFloat32S_l0_T s).run) s0
def laws_markFloat32S_l0_E (v235 : List Nat) (v236 : Int) (s : Int × Int × (List Nat)) : Sd := ([.own 0 0 ((s.2.2).length), .int .i64 s.1, .top, .top, .top, .int .i64 s.2.1, .top, .top, .top, .top, .top, .top, .top, .top, .top, .top, .top, .top, .top, .top], [.row (.f32 s.2.2) 0])
def laws_markFloat32S_l0_X (v235 : List Nat) (v236 : Int) (x : Int × (List Nat)) : Out := (.normal, [.top, .int .i64 x.1, .top, .top, .top, .top, .top, .top, .top, .top, .top, .top, .top, .top, .top, .top, .top, .top, .top, .top], [.row (.f32 x.2) 0])
def laws_markFloat32S_l0_kill : List Nat := [0, 0, 1, 1, 1, 0, 1, 1, 1, 1, 1, 1, 1, 1, 1, 1, 1, 1, 1, 1]
def laws_markFloat32S_l0_nx : Exit → List Nat
  | .exit 0 => [1, 0, 1, 1, 1, 1, 1, 1, 1, 1, 1, 1, 1, 1, 1, 1, 1, 1, 1, 1]
  | .ret => [1, 1, 1, 1, 0, 1, 1, 1, 1, 1, 1, 1, 1, 1, 1, 1, 1, 1, 1, 1]
  | _ => []
noncomputable def laws_markFloat32S_LO (v235 : List Nat) (v236 : Int) : LOr := fun id e L =>
  match id with
  | 0 => .need (normA 1 laws_markFloat32S_l0_kill e L = some (laws_markFloat32S_l0_E v235 v236 ((gI (vAt e 1)), (gI (vAt e 5)), (gRF L (vAt e 0))))) (.call (laws_markFloat32S_l0_g ((gI (vAt e 1)), (gI (vAt e 5)), (gRF L (vAt e 0)))) fun x => .leaf (laws_markFloat32S_l0_X v235 v236 x))
  | _ => .fail
noncomputable def laws_markFloat32S_tab : List (FuncId × DFn × Bool) := []
theorem laws_markFloat32S_hO : OrcOk Try.prog (tabD laws_markFloat32S_tab) (tabM laws_markFloat32S_tab) := tabD_nil _
theorem laws_markFloat32S_l0_be (v235 : List Nat) (v236 : Int) (s : Int × Int × (List Nat)) : bodyT TT (tabD laws_markFloat32S_tab) (tabM laws_markFloat32S_tab) (laws_markFloat32S_LO v235 v236) 1 laws_markFloat32S_l0_kill laws_markFloat32S_l0_nx (bodyOf Try.f33 0) 0 (laws_markFloat32S_l0_E v235 v236 s) = (laws_markFloat32S_l0_T s).bind fun y => .leaf (outS (laws_markFloat32S_l0_E v235 v236) (laws_markFloat32S_l0_X v235 v236) y) := by kernel_rfl
theorem laws_markFloat32S_l0_ok (v235 : List Nat) (v236 : Int) : LSound Try.prog 1 (laws_markFloat32S_LO v235 v236) 0 (bodyOf Try.f33 0) := by
  intro e L out h
  exact lo_ok (E := laws_markFloat32S_l0_E v235 v236) (gT := laws_markFloat32S_l0_T) (X := laws_markFloat32S_l0_X v235 v236) (s0 := ((gI (vAt e 1)), (gI (vAt e 5)), (gRF L (vAt e 0)))) tok laws_markFloat32S_hO mixed (LoopsOk_eq (l := []) (by kernel_rfl) trivial) (laws_markFloat32S_l0_be v235 v236) rfl (by intro x; rfl) h
noncomputable def laws_markFloat32S_T (v235 : List Nat) (v236 : Int) : Tree (Int × (List Nat)) :=
  (.need (some (laws_markFloat32S_l0_E v235 v236 (v236, (0 : Int), v235)) = some (laws_markFloat32S_l0_E v235 v236 (v236, (0 : Int), v235))) <|
  (.call (laws_markFloat32S_l0_g (v236, (0 : Int), v235)) fun v245 =>
  .leaf (v245.1, v245.2)))

noncomputable def laws_markFloat32S_g (v235 : List Nat) (v236 : Int) : Option (Int × (List Nat)) := (laws_markFloat32S_T v235 v236).run
def laws_markFloat32S_enc (v235 : List Nat) (v236 : Int) (y : Int × (List Nat)) : Rs := (.int .i64 y.1, [.row (.f32 y.2) 0])
theorem laws_markFloat32S_den (v235 : List Nat) (v236 : Int) : (den TT (tabD laws_markFloat32S_tab) (tabM laws_markFloat32S_tab) (laws_markFloat32S_LO v235 v236) (codeOf Try.f33) ([.own 0 0 v235.length, .int .i64 v236] ++ List.replicate (Try.f33.ntmps - ([.own 0 0 v235.length, .int .i64 v236] : List DV).length) .undef) [.row (.f32 v235) 0]).bind (retD TT Try.f33.results.toList 1) = (laws_markFloat32S_T v235 v236).bind fun y => .leaf (laws_markFloat32S_enc v235 v236 y) := by kernel_rfl
theorem laws_markFloat32S_fn (v235 : List Nat) (v236 : Int) (F : Fr) (hm : F.ids.length = 1) (h0 : St F [.row (.f32 v235) 0] F.H0) (hA : DVs.Ok F [.row (.f32 v235) 0] [.own 0 0 v235.length, .int .i64 v236]) {y : Int × (List Nat)} (hy : laws_markFloat32S_g v235 v236 = some y) : ∃ H', FnOk Try.prog 33 (DVs.av F [.own 0 0 v235.length, .int .i64 v236]) F.H0 ((laws_markFloat32S_enc v235 v236 y).1.av F) H' ∧ St F (laws_markFloat32S_enc v235 v236 y).2 H' ∧ (laws_markFloat32S_enc v235 v236 y).1.Ok F (laws_markFloat32S_enc v235 v236 y).2 :=
  fn_fin tok laws_markFloat32S_hO mixed Try.func33 Try.call33 (by kernel_rfl) (LoopsOk_eq (l := [(0, bodyOf Try.f33 0)]) (by kernel_rfl) ⟨laws_markFloat32S_l0_ok v235 v236, trivial⟩) (laws_markFloat32S_den v235 v236) hy hm h0 hA
noncomputable def laws_markFloat32S_F : DFn := fun args L =>
  match args with
  | [a1, .int .i64 v236] =>
    optT (ownF32 L a1) fun qv235 =>
    (match sepB [qv235.1] [] with
    | true =>
    .call (laws_markFloat32S_g qv235.2 v236) fun y => .grd (decide (y.2.length = qv235.2.length)) (.leaf (.int .i64 y.1, setRows L ([qv235.1].zip [.f32 y.2])))
    | false => .fail)
  | _ => .fail
theorem laws_markFloat32S_Fok : COk Try.prog 33 laws_markFloat32S_F false := by
  intro F L H args r L' hs ha hr
  unfold laws_markFloat32S_F at hr
  split at hr
  · rename_i a1 v236
    obtain ⟨⟨jv235, v235⟩, hqv235, hr⟩ := optT_run hr
    simp only at hr
    split at hr
    · rename_i hsep
      obtain ⟨hnd, hsepv⟩ := sepB_spec hsep
      simp only [Tree.run] at hr
      obtain ⟨y, hy, hr⟩ := Option.bind_eq_some_iff.1 hr
      try simp only [Tree.run] at hr
      obtain ⟨hl0, hr⟩ := ite_run hr
      simp only [Option.some.injEq, Prod.mk.injEq] at hr
      obtain ⟨rfl, rfl⟩ := hr
      obtain ⟨hr0, hu0, ha0, hb0⟩ := (ownR_spec (DVs.okAt ha 0 rfl) (ownF32_or hqv235))
      exact mut_ok hs (fun k => (([a1.av F] : List AV)[k]?).getD .top) [a1, .int .i64 v236] [.own 0 0 v235.length, .int .i64 v236] [jv235] [.f32 v235] [.f32 y.2] hnd rfl rfl (fun i j q h1 h2 => by
          rcases i with _ | i
          · simp at h1 h2; subst h1; subst h2; exact hr0
          · simp at h1) (fun i q q' h1 h2 => by
          rcases i with _ | i
          · simp at h1 h2; subst h1; subst h2; exact of_decide_eq_true hl0
          · simp at h1) (fun j hj => by simp at hj; subst hj; simp [DVs.refs, DV.refs, hu0]) (fun F' h0 hi hρ hst hS => ⟨by (have ab0 : F'.abs 0 = F.abs jv235 := (by simp [Fr.abs, hi]); simp [DVs.av, DV.av, BR.av, hρ, Row.len, ha0, ab0]), by
          obtain ⟨H1, k1, k2, _⟩ := laws_markFloat32S_fn v235 v236 F' (by rw [hi]; rfl) hst ⟨⟨_, rfl, Nat.le_refl _, Nat.le_refl _, fun _ => rfl, (ownR_spec (DVs.okAt ha 0 rfl) (ownF32_or hqv235)).2.2.2⟩, trivial, trivial⟩ hy
          exact ⟨H1, k1, k2⟩⟩) (fun F' => rfl) (fun L' => trivial)
    · cases hr
  · cases hr
/-! laws.markMatrix -/
noncomputable def laws_markMatrix_LO (v252 : Int) (v253 : Int) (v254 : List Nat) (v255 : Int) : LOr := fun id e L =>
  match id with
  | _ => .fail
noncomputable def laws_markMatrix_tab : List (FuncId × DFn × Bool) := [(33, laws_markFloat32S_F, false)]
theorem laws_markMatrix_hO : OrcOk Try.prog (tabD laws_markMatrix_tab) (tabM laws_markMatrix_tab) := tabD_cons laws_markFloat32S_Fok (tabD_nil _)
noncomputable def laws_markMatrix_T (v254 : List Nat) (v255 : Int) : Tree (Int × (List Nat)) :=
  (.call (laws_markFloat32S_g v254 v255) fun v256 =>
  (.grd (decide (v256.2.length = v254.length)) <|
  .leaf (v256.1, v256.2)))

noncomputable def laws_markMatrix_g (v254 : List Nat) (v255 : Int) : Option (Int × (List Nat)) := (laws_markMatrix_T v254 v255).run
def laws_markMatrix_enc (v252 : Int) (v253 : Int) (v254 : List Nat) (v255 : Int) (y : Int × (List Nat)) : Rs := (.int .i64 y.1, [.row (.f32 y.2) 0])
theorem laws_markMatrix_den (v252 : Int) (v253 : Int) (v254 : List Nat) (v255 : Int) : (den TT (tabD laws_markMatrix_tab) (tabM laws_markMatrix_tab) (laws_markMatrix_LO v252 v253 v254 v255) (codeOf Try.f34) ([.agg [.int .i64 v252, .int .i64 v253, .own 0 0 v254.length], .int .i64 v255] ++ List.replicate (Try.f34.ntmps - ([.agg [.int .i64 v252, .int .i64 v253, .own 0 0 v254.length], .int .i64 v255] : List DV).length) .undef) [.row (.f32 v254) 0]).bind (retD TT Try.f34.results.toList 1) = (laws_markMatrix_T v254 v255).bind fun y => .leaf (laws_markMatrix_enc v252 v253 v254 v255 y) := by kernel_rfl
theorem laws_markMatrix_fn (v252 : Int) (v253 : Int) (v254 : List Nat) (v255 : Int) (F : Fr) (hm : F.ids.length = 1) (h0 : St F [.row (.f32 v254) 0] F.H0) (hA : DVs.Ok F [.row (.f32 v254) 0] [.agg [.int .i64 v252, .int .i64 v253, .own 0 0 v254.length], .int .i64 v255]) {y : Int × (List Nat)} (hy : laws_markMatrix_g v254 v255 = some y) : ∃ H', FnOk Try.prog 34 (DVs.av F [.agg [.int .i64 v252, .int .i64 v253, .own 0 0 v254.length], .int .i64 v255]) F.H0 ((laws_markMatrix_enc v252 v253 v254 v255 y).1.av F) H' ∧ St F (laws_markMatrix_enc v252 v253 v254 v255 y).2 H' ∧ (laws_markMatrix_enc v252 v253 v254 v255 y).1.Ok F (laws_markMatrix_enc v252 v253 v254 v255 y).2 :=
  fn_fin tok laws_markMatrix_hO mixed Try.func34 Try.call34 (by kernel_rfl) (LoopsOk_eq (l := []) (by kernel_rfl) trivial) (laws_markMatrix_den v252 v253 v254 v255) hy hm h0 hA
noncomputable def laws_markMatrix_F : DFn := fun args L =>
  match args with
  | [.agg [.int .i64 v252, .int .i64 v253, a1], .int .i64 v255] =>
    optT (ownF32 L a1) fun qv254 =>
    (match sepB [qv254.1] [] with
    | true =>
    .call (laws_markMatrix_g qv254.2 v255) fun y => .grd (decide (y.2.length = qv254.2.length)) (.leaf (.int .i64 y.1, setRows L ([qv254.1].zip [.f32 y.2])))
    | false => .fail)
  | _ => .fail
theorem laws_markMatrix_Fok : COk Try.prog 34 laws_markMatrix_F false := by
  intro F L H args r L' hs ha hr
  unfold laws_markMatrix_F at hr
  split at hr
  · rename_i v252 v253 a1 v255
    obtain ⟨⟨jv254, v254⟩, hqv254, hr⟩ := optT_run hr
    simp only at hr
    split at hr
    · rename_i hsep
      obtain ⟨hnd, hsepv⟩ := sepB_spec hsep
      simp only [Tree.run] at hr
      obtain ⟨y, hy, hr⟩ := Option.bind_eq_some_iff.1 hr
      try simp only [Tree.run] at hr
      obtain ⟨hl0, hr⟩ := ite_run hr
      simp only [Option.some.injEq, Prod.mk.injEq] at hr
      obtain ⟨rfl, rfl⟩ := hr
      obtain ⟨hr0, hu0, ha0, hb0⟩ := (ownR_spec (DVs.okAt (DVs.okAt ha 0 rfl) 2 rfl) (ownF32_or hqv254))
      exact mut_ok hs (fun k => (([a1.av F] : List AV)[k]?).getD .top) [.agg [.int .i64 v252, .int .i64 v253, a1], .int .i64 v255] [.agg [.int .i64 v252, .int .i64 v253, .own 0 0 v254.length], .int .i64 v255] [jv254] [.f32 v254] [.f32 y.2] hnd rfl rfl (fun i j q h1 h2 => by
          rcases i with _ | i
          · simp at h1 h2; subst h1; subst h2; exact hr0
          · simp at h1) (fun i q q' h1 h2 => by
          rcases i with _ | i
          · simp at h1 h2; subst h1; subst h2; exact of_decide_eq_true hl0
          · simp at h1) (fun j hj => by simp at hj; subst hj; simp [DVs.refs, DV.refs, hu0]) (fun F' h0 hi hρ hst hS => ⟨by (have ab0 : F'.abs 0 = F.abs jv254 := (by simp [Fr.abs, hi]); simp [DVs.av, DV.av, BR.av, hρ, Row.len, ha0, ab0]), by
          obtain ⟨H1, k1, k2, _⟩ := laws_markMatrix_fn v252 v253 v254 v255 F' (by rw [hi]; rfl) hst ⟨⟨trivial, trivial, ⟨_, rfl, Nat.le_refl _, Nat.le_refl _, fun _ => rfl, (ownR_spec (DVs.okAt (DVs.okAt ha 0 rfl) 2 rfl) (ownF32_or hqv254)).2.2.2⟩, trivial⟩, trivial, trivial⟩ hy
          exact ⟨H1, k1, k2⟩⟩) (fun F' => rfl) (fun L' => trivial)
    · cases hr
  · cases hr
/-! laws.markFloat32S -/
noncomputable def laws_markFloat32S_i1_l0_T (s : Unit) : Tree ((Unit) ⊕ (Unit)) :=
  (.br (decide ((0 : Int) < (0 : Int))) (
   .fail
  ) (
   .leaf (.inr ())
  ))

noncomputable def laws_markFloat32S_i1_l0_g (s0 : Unit) : Option (Unit) := whileM (fun s => (laws_markFloat32S_i1_l0_T s).run) s0
def laws_markFloat32S_i1_l0_E (v260 : Int) (s : Unit) : Sd := ([.nilslc, .int .i64 v260, .top, .top, .top, .int .i64 (0 : Int), .top, .top, .top, .top, .top, .top, .top, .top, .top, .top, .top, .top, .top, .top], [])
def laws_markFloat32S_i1_l0_X (v260 : Int) (x : Unit) : Out := (.normal, [.top, .int .i64 v260, .top, .top, .top, .top, .top, .top, .top, .top, .top, .top, .top, .top, .top, .top, .top, .top, .top, .top], [])
def laws_markFloat32S_i1_l0_kill : List Nat := [0, 0, 1, 1, 1, 0, 1, 1, 1, 1, 1, 1, 1, 1, 1, 1, 1, 1, 1, 1]
def laws_markFloat32S_i1_l0_nx : Exit → List Nat
  | .exit 0 => [1, 0, 1, 1, 1, 1, 1, 1, 1, 1, 1, 1, 1, 1, 1, 1, 1, 1, 1, 1]
  | .ret => [1, 1, 1, 1, 0, 1, 1, 1, 1, 1, 1, 1, 1, 1, 1, 1, 1, 1, 1, 1]
  | _ => []
noncomputable def laws_markFloat32S_i1_LO (v260 : Int) : LOr := fun id e L =>
  match id with
  | 0 => .need (normA 0 laws_markFloat32S_i1_l0_kill e L = some (laws_markFloat32S_i1_l0_E v260 ())) (.call (laws_markFloat32S_i1_l0_g ()) fun x => .leaf (laws_markFloat32S_i1_l0_X v260 x))
  | _ => .fail
noncomputable def laws_markFloat32S_i1_tab : List (FuncId × DFn × Bool) := []
theorem laws_markFloat32S_i1_hO : OrcOk Try.prog (tabD laws_markFloat32S_i1_tab) (tabM laws_markFloat32S_i1_tab) := tabD_nil _
theorem laws_markFloat32S_i1_l0_be (v260 : Int) (s : Unit) : bodyT TT (tabD laws_markFloat32S_i1_tab) (tabM laws_markFloat32S_i1_tab) (laws_markFloat32S_i1_LO v260) 0 laws_markFloat32S_i1_l0_kill laws_markFloat32S_i1_l0_nx (bodyOf Try.f33 0) 0 (laws_markFloat32S_i1_l0_E v260 s) = (laws_markFloat32S_i1_l0_T s).bind fun y => .leaf (outS (laws_markFloat32S_i1_l0_E v260) (laws_markFloat32S_i1_l0_X v260) y) := by kernel_rfl
theorem laws_markFloat32S_i1_l0_ok (v260 : Int) : LSound Try.prog 0 (laws_markFloat32S_i1_LO v260) 0 (bodyOf Try.f33 0) := by
  intro e L out h
  exact lo_ok (E := laws_markFloat32S_i1_l0_E v260) (gT := laws_markFloat32S_i1_l0_T) (X := laws_markFloat32S_i1_l0_X v260) (s0 := ()) tok laws_markFloat32S_i1_hO mixed (LoopsOk_eq (l := []) (by kernel_rfl) trivial) (laws_markFloat32S_i1_l0_be v260) rfl (by intro x; rfl) h
noncomputable def laws_markFloat32S_i1_T (v260 : Int) : Tree (Int) :=
  (.need (some (laws_markFloat32S_i1_l0_E v260 ()) = some (laws_markFloat32S_i1_l0_E v260 ())) <|
  (.call (laws_markFloat32S_i1_l0_g ()) fun v263 =>
  .leaf v260))

noncomputable def laws_markFloat32S_i1_g (v260 : Int) : Option (Int) := (laws_markFloat32S_i1_T v260).run
def laws_markFloat32S_i1_enc (v260 : Int) (y : Int) : Rs := (.int .i64 y, [])
theorem laws_markFloat32S_i1_den (v260 : Int) : (den TT (tabD laws_markFloat32S_i1_tab) (tabM laws_markFloat32S_i1_tab) (laws_markFloat32S_i1_LO v260) (codeOf Try.f33) ([.nilslc, .int .i64 v260] ++ List.replicate (Try.f33.ntmps - ([.nilslc, .int .i64 v260] : List DV).length) .undef) []).bind (retD TT Try.f33.results.toList 0) = (laws_markFloat32S_i1_T v260).bind fun y => .leaf (laws_markFloat32S_i1_enc v260 y) := by kernel_rfl
theorem laws_markFloat32S_i1_fn (v260 : Int) (F : Fr) (hm : F.ids.length = 0) (h0 : St F [] F.H0) (hA : DVs.Ok F [] [.nilslc, .int .i64 v260]) {y : Int} (hy : laws_markFloat32S_i1_g v260 = some y) : ∃ H', FnOk Try.prog 33 (DVs.av F [.nilslc, .int .i64 v260]) F.H0 ((laws_markFloat32S_i1_enc v260 y).1.av F) H' ∧ St F (laws_markFloat32S_i1_enc v260 y).2 H' ∧ (laws_markFloat32S_i1_enc v260 y).1.Ok F (laws_markFloat32S_i1_enc v260 y).2 :=
  fn_fin tok laws_markFloat32S_i1_hO mixed Try.func33 Try.call33 (by kernel_rfl) (LoopsOk_eq (l := [(0, bodyOf Try.f33 0)]) (by kernel_rfl) ⟨laws_markFloat32S_i1_l0_ok v260, trivial⟩) (laws_markFloat32S_i1_den v260) hy hm h0 hA
noncomputable def laws_markFloat32S_i1_F : DFn := fun args L =>
  match args with
  | [.nilslc, .int .i64 v260] =>
    .call (laws_markFloat32S_i1_g v260) fun y => .leaf (.int .i64 y, L)
  | _ => .fail
theorem laws_markFloat32S_i1_Fok : COk Try.prog 33 laws_markFloat32S_i1_F true := by
  intro F L H args r L' hs ha hr
  unfold laws_markFloat32S_i1_F at hr
  split at hr
  · rename_i v260
    simp only [Tree.run] at hr
    obtain ⟨y, hy, hr⟩ := Option.bind_eq_some_iff.1 hr
    simp only [Tree.run, Option.some.injEq, Prod.mk.injEq] at hr
    obtain ⟨rfl, rfl⟩ := hr
    exact call_ok0 hs (fun k => (([] : List AV)[k]?).getD .top) [.nilslc, .int .i64 v260] [.nilslc, .int .i64 v260] (fun F' h0 hi hρ => ⟨by simp [DVs.av, DV.av, BR.av, hρ], laws_markFloat32S_i1_fn v260 F' (by rw [hi]; rfl) (st_nil hi) ⟨trivial, trivial, trivial⟩ hy⟩) rfl
  · cases hr
/-! laws.markMatrix -/
noncomputable def laws_markMatrix_i1_LO (v257 : Int) (v258 : Int) (v259 : Int) : LOr := fun id e L =>
  match id with
  | _ => .fail
noncomputable def laws_markMatrix_i1_tab : List (FuncId × DFn × Bool) := [(33, laws_markFloat32S_i1_F, true)]
theorem laws_markMatrix_i1_hO : OrcOk Try.prog (tabD laws_markMatrix_i1_tab) (tabM laws_markMatrix_i1_tab) := tabD_cons laws_markFloat32S_i1_Fok (tabD_nil _)
noncomputable def laws_markMatrix_i1_T (v259 : Int) : Tree (Int) :=
  (.call (laws_markFloat32S_i1_g v259) fun v264 =>
  .leaf v264)

noncomputable def laws_markMatrix_i1_g (v259 : Int) : Option (Int) := (laws_markMatrix_i1_T v259).run
def laws_markMatrix_i1_enc (v257 : Int) (v258 : Int) (v259 : Int) (y : Int) : Rs := (.int .i64 y, [])
theorem laws_markMatrix_i1_den (v257 : Int) (v258 : Int) (v259 : Int) : (den TT (tabD laws_markMatrix_i1_tab) (tabM laws_markMatrix_i1_tab) (laws_markMatrix_i1_LO v257 v258 v259) (codeOf Try.f34) ([.agg [.int .i64 v257, .int .i64 v258, .nilslc], .int .i64 v259] ++ List.replicate (Try.f34.ntmps - ([.agg [.int .i64 v257, .int .i64 v258, .nilslc], .int .i64 v259] : List DV).length) .undef) []).bind (retD TT Try.f34.results.toList 0) = (laws_markMatrix_i1_T v259).bind fun y => .leaf (laws_markMatrix_i1_enc v257 v258 v259 y) := by kernel_rfl
theorem laws_markMatrix_i1_fn (v257 : Int) (v258 : Int) (v259 : Int) (F : Fr) (hm : F.ids.length = 0) (h0 : St F [] F.H0) (hA : DVs.Ok F [] [.agg [.int .i64 v257, .int .i64 v258, .nilslc], .int .i64 v259]) {y : Int} (hy : laws_markMatrix_i1_g v259 = some y) : ∃ H', FnOk Try.prog 34 (DVs.av F [.agg [.int .i64 v257, .int .i64 v258, .nilslc], .int .i64 v259]) F.H0 ((laws_markMatrix_i1_enc v257 v258 v259 y).1.av F) H' ∧ St F (laws_markMatrix_i1_enc v257 v258 v259 y).2 H' ∧ (laws_markMatrix_i1_enc v257 v258 v259 y).1.Ok F (laws_markMatrix_i1_enc v257 v258 v259 y).2 :=
  fn_fin tok laws_markMatrix_i1_hO mixed Try.func34 Try.call34 (by kernel_rfl) (LoopsOk_eq (l := []) (by kernel_rfl) trivial) (laws_markMatrix_i1_den v257 v258 v259) hy hm h0 hA
noncomputable def laws_markMatrix_i1_F : DFn := fun args L =>
  match args with
  | [.agg [.int .i64 v257, .int .i64 v258, .nilslc], .int .i64 v259] =>
    .call (laws_markMatrix_i1_g v259) fun y => .leaf (.int .i64 y, L)
  | _ => .fail
theorem laws_markMatrix_i1_Fok : COk Try.prog 34 laws_markMatrix_i1_F true := by
  intro F L H args r L' hs ha hr
  unfold laws_markMatrix_i1_F at hr
  split at hr
  · rename_i v257 v258 v259
    simp only [Tree.run] at hr
    obtain ⟨y, hy, hr⟩ := Option.bind_eq_some_iff.1 hr
    simp only [Tree.run, Option.some.injEq, Prod.mk.injEq] at hr
    obtain ⟨rfl, rfl⟩ := hr
    exact call_ok0 hs (fun k => (([] : List AV)[k]?).getD .top) [.agg [.int .i64 v257, .int .i64 v258, .nilslc], .int .i64 v259] [.agg [.int .i64 v257, .int .i64 v258, .nilslc], .int .i64 v259] (fun F' h0 hi hρ => ⟨by simp [DVs.av, DV.av, BR.av, hρ], laws_markMatrix_i1_fn v257 v258 v259 F' (by rw [hi]; rfl) (st_nil hi) ⟨⟨trivial, trivial, trivial, trivial⟩, trivial, trivial⟩ hy⟩) rfl
  · cases hr
/-! laws.heldFloat32S -/
noncomputable def laws_heldFloat32S_l0_T (v270 : List Nat) (s : Int × Int) : Tree ((Int × Int) ⊕ ((Unit) ⊕ (Int))) :=
  (.br (decide (s.2 < ((v270.length : Nat) : Int))) (
   (.grd (inb s.2 v270.length) <|
   (.br (!feq .f32 (nth v270 (Int.toNat s.2)) (fofint .f32 s.1)) (
    .leaf (.inr (.inl ()))
   ) (
    .leaf (.inl (IntKind.i64.wrap (s.1 + (1 : Int)), IntKind.i64.wrap (s.2 + (1 : Int))))
   )))
  ) (
   .leaf (.inr (.inr s.1))
  ))

noncomputable def laws_heldFloat32S_l0_g (v270 : List Nat) (s0 : Int × Int) : Option ((Unit) ⊕ (Int)) := whileM (fun s => (laws_heldFloat32S_l0_T v270 s).run) s0
def laws_heldFloat32S_l0_E (v270 : List Nat) (v271 : Int) (s : Int × Int) : Sd := ([.bslc (BR.root 0) (.f32 v270), .int .i64 s.1, .top, .top, .top, .int .i64 s.2, .top, .top, .top, .top, .top, .top, .top, .top, .top, .top, .top, .top, .top, .top, .top, .top], [])
def laws_heldFloat32S_l0_X (v270 : List Nat) (v271 : Int) (x : (Unit) ⊕ (Int)) : Out := (match x with | .inl x => (.ret, [.top, .top, .top, .top, .int .i64 (-1 : Int), .top, .top, .top, .top, .top, .top, .top, .top, .top, .top, .top, .top, .top, .top, .top, .top, .top], []) | .inr x => (.normal, [.top, .int .i64 x, .top, .top, .top, .top, .top, .top, .top, .top, .top, .top, .top, .top, .top, .top, .top, .top, .top, .top, .top, .top], []))
def laws_heldFloat32S_l0_kill : List Nat := [0, 0, 1, 1, 1, 0, 1, 1, 1, 1, 1, 1, 1, 1, 1, 1, 1, 1, 1, 1, 1, 1]
def laws_heldFloat32S_l0_nx : Exit → List Nat
  | .exit 0 => [1, 0, 1, 1, 1, 1, 1, 1, 1, 1, 1, 1, 1, 1, 1, 1, 1, 1, 1, 1, 1, 1]
  | .ret => [1, 1, 1, 1, 0, 1, 1, 1, 1, 1, 1, 1, 1, 1, 1, 1, 1, 1, 1, 1, 1, 1]
  | _ => []
noncomputable def laws_heldFloat32S_LO (v270 : List Nat) (v271 : Int) : LOr := fun id e L =>
  match id with
  | 0 => .need (normA 0 laws_heldFloat32S_l0_kill e L = some (laws_heldFloat32S_l0_E v270 v271 ((gI (vAt e 1)), (gI (vAt e 5))))) (.call (laws_heldFloat32S_l0_g v270 ((gI (vAt e 1)), (gI (vAt e 5)))) fun x => .sum x (fun b0 => .leaf (laws_heldFloat32S_l0_X v270 v271 (.inl b0))) (fun c0 => .leaf (laws_heldFloat32S_l0_X v270 v271 (.inr c0))))
  | _ => .fail
noncomputable def laws_heldFloat32S_tab : List (FuncId × DFn × Bool) := []
theorem laws_heldFloat32S_hO : OrcOk Try.prog (tabD laws_heldFloat32S_tab) (tabM laws_heldFloat32S_tab) := tabD_nil _
theorem laws_heldFloat32S_l0_be (v270 : List Nat) (v271 : Int) (s : Int × Int) : bodyT TT (tabD laws_heldFloat32S_tab) (tabM laws_heldFloat32S_tab) (laws_heldFloat32S_LO v270 v271) 0 laws_heldFloat32S_l0_kill laws_heldFloat32S_l0_nx (bodyOf Try.f38 0) 0 (laws_heldFloat32S_l0_E v270 v271 s) = (laws_heldFloat32S_l0_T v270 s).bind fun y => .leaf (outS (laws_heldFloat32S_l0_E v270 v271) (laws_heldFloat32S_l0_X v270 v271) y) := by kernel_rfl
theorem laws_heldFloat32S_l0_ok (v270 : List Nat) (v271 : Int) : LSound Try.prog 0 (laws_heldFloat32S_LO v270 v271) 0 (bodyOf Try.f38 0) := by
  intro e L out h
  exact lo_ok (E := laws_heldFloat32S_l0_E v270 v271) (gT := laws_heldFloat32S_l0_T v270) (X := laws_heldFloat32S_l0_X v270 v271) (s0 := ((gI (vAt e 1)), (gI (vAt e 5)))) tok laws_heldFloat32S_hO mixed (LoopsOk_eq (l := []) (by kernel_rfl) trivial) (laws_heldFloat32S_l0_be v270 v271) rfl (by intro x; (cases x with | inl b => rfl | inr x => exact rfl)) h
noncomputable def laws_heldFloat32S_T (v270 : List Nat) (v271 : Int) : Tree (Int) :=
  (.need (some (laws_heldFloat32S_l0_E v270 v271 (v271, (0 : Int))) = some (laws_heldFloat32S_l0_E v270 v271 (v271, (0 : Int)))) <|
  (.call (laws_heldFloat32S_l0_g v270 (v271, (0 : Int))) fun v278 =>
  (.sum v278 (fun v279 =>
   .leaf (-1 : Int)
  ) (fun v280 =>
   .leaf v280
  ))))

noncomputable def laws_heldFloat32S_g (v270 : List Nat) (v271 : Int) : Option (Int) := (laws_heldFloat32S_T v270 v271).run
def laws_heldFloat32S_enc (v270 : List Nat) (v271 : Int) (y : Int) : Rs := (.int .i64 y, [])
theorem laws_heldFloat32S_den (v270 : List Nat) (v271 : Int) : (den TT (tabD laws_heldFloat32S_tab) (tabM laws_heldFloat32S_tab) (laws_heldFloat32S_LO v270 v271) (codeOf Try.f38) ([.bslc (BR.root 0) (.f32 v270), .int .i64 v271] ++ List.replicate (Try.f38.ntmps - ([.bslc (BR.root 0) (.f32 v270), .int .i64 v271] : List DV).length) .undef) []).bind (retD TT Try.f38.results.toList 0) = (laws_heldFloat32S_T v270 v271).bind fun y => .leaf (laws_heldFloat32S_enc v270 v271 y) := by kernel_rfl
theorem laws_heldFloat32S_fn (v270 : List Nat) (v271 : Int) (F : Fr) (hm : F.ids.length = 0) (h0 : St F [] F.H0) (hA : DVs.Ok F [] [.bslc (BR.root 0) (.f32 v270), .int .i64 v271]) {y : Int} (hy : laws_heldFloat32S_g v270 v271 = some y) : ∃ H', FnOk Try.prog 38 (DVs.av F [.bslc (BR.root 0) (.f32 v270), .int .i64 v271]) F.H0 ((laws_heldFloat32S_enc v270 v271 y).1.av F) H' ∧ St F (laws_heldFloat32S_enc v270 v271 y).2 H' ∧ (laws_heldFloat32S_enc v270 v271 y).1.Ok F (laws_heldFloat32S_enc v270 v271 y).2 :=
  fn_fin tok laws_heldFloat32S_hO mixed Try.func38 Try.call38 (by kernel_rfl) (LoopsOk_eq (l := [(0, bodyOf Try.f38 0)]) (by kernel_rfl) ⟨laws_heldFloat32S_l0_ok v270 v271, trivial⟩) (laws_heldFloat32S_den v270 v271) hy hm h0 hA
noncomputable def laws_heldFloat32S_F : DFn := fun args L =>
  match args with
  | [a1, .int .i64 v271] =>
    optT (rowF32 L a1) fun v270 =>
    .call (laws_heldFloat32S_g v270 v271) fun y => .leaf (.int .i64 y, L)
  | _ => .fail
theorem laws_heldFloat32S_Fok : COk Try.prog 38 laws_heldFloat32S_F true := by
  intro F L H args r L' hs ha hr
  unfold laws_heldFloat32S_F at hr
  split at hr
  · rename_i a1 v271
    obtain ⟨v270, hv270, hr⟩ := optT_run hr
    simp only [Tree.run] at hr
    obtain ⟨y, hy, hr⟩ := Option.bind_eq_some_iff.1 hr
    simp only [Tree.run, Option.some.injEq, Prod.mk.injEq] at hr
    obtain ⟨rfl, rfl⟩ := hr
    exact call_ok0 hs (fun k => (([a1.av F] : List AV)[k]?).getD .top) [a1, .int .i64 v271] [.bslc (BR.root 0) (.f32 v270), .int .i64 v271] (fun F' h0 hi hρ => ⟨by simp [DVs.av, DV.av, BR.av, hρ], laws_heldFloat32S_fn v270 v271 F' (by rw [hi]; rfl) (st_nil hi) ⟨bslc_ok hi (by rw [h0, hρ]; exact rowF32_ok hs (DVs.okAt ha 0 rfl) hv270), trivial, trivial⟩ hy⟩) rfl
  · cases hr
/-! laws.heldMatrix -/
noncomputable def laws_heldMatrix_LO (v266 : Int) (v267 : Int) (v268 : List Nat) (v269 : Int) : LOr := fun id e L =>
  match id with
  | _ => .fail
noncomputable def laws_heldMatrix_tab : List (FuncId × DFn × Bool) := [(38, laws_heldFloat32S_F, true)]
theorem laws_heldMatrix_hO : OrcOk Try.prog (tabD laws_heldMatrix_tab) (tabM laws_heldMatrix_tab) := tabD_cons laws_heldFloat32S_Fok (tabD_nil _)
noncomputable def laws_heldMatrix_T (v268 : List Nat) (v269 : Int) : Tree (Int) :=
  (.call (laws_heldFloat32S_g v268 v269) fun v281 =>
  (.br (decide (v281 < (0 : Int))) (
   .leaf (-1 : Int)
  ) (
   .leaf v281
  )))

noncomputable def laws_heldMatrix_g (v268 : List Nat) (v269 : Int) : Option (Int) := (laws_heldMatrix_T v268 v269).run
def laws_heldMatrix_enc (v266 : Int) (v267 : Int) (v268 : List Nat) (v269 : Int) (y : Int) : Rs := (.int .i64 y, [])
theorem laws_heldMatrix_den (v266 : Int) (v267 : Int) (v268 : List Nat) (v269 : Int) : (den TT (tabD laws_heldMatrix_tab) (tabM laws_heldMatrix_tab) (laws_heldMatrix_LO v266 v267 v268 v269) (codeOf Try.f35) ([.agg [.int .i64 v266, .int .i64 v267, .bslc (BR.root 0) (.f32 v268)], .int .i64 v269] ++ List.replicate (Try.f35.ntmps - ([.agg [.int .i64 v266, .int .i64 v267, .bslc (BR.root 0) (.f32 v268)], .int .i64 v269] : List DV).length) .undef) []).bind (retD TT Try.f35.results.toList 0) = (laws_heldMatrix_T v268 v269).bind fun y => .leaf (laws_heldMatrix_enc v266 v267 v268 v269 y) := by kernel_rfl
theorem laws_heldMatrix_fn (v266 : Int) (v267 : Int) (v268 : List Nat) (v269 : Int) (F : Fr) (hm : F.ids.length = 0) (h0 : St F [] F.H0) (hA : DVs.Ok F [] [.agg [.int .i64 v266, .int .i64 v267, .bslc (BR.root 0) (.f32 v268)], .int .i64 v269]) {y : Int} (hy : laws_heldMatrix_g v268 v269 = some y) : ∃ H', FnOk Try.prog 35 (DVs.av F [.agg [.int .i64 v266, .int .i64 v267, .bslc (BR.root 0) (.f32 v268)], .int .i64 v269]) F.H0 ((laws_heldMatrix_enc v266 v267 v268 v269 y).1.av F) H' ∧ St F (laws_heldMatrix_enc v266 v267 v268 v269 y).2 H' ∧ (laws_heldMatrix_enc v266 v267 v268 v269 y).1.Ok F (laws_heldMatrix_enc v266 v267 v268 v269 y).2 :=
  fn_fin tok laws_heldMatrix_hO mixed Try.func35 Try.call35 (by kernel_rfl) (LoopsOk_eq (l := []) (by kernel_rfl) trivial) (laws_heldMatrix_den v266 v267 v268 v269) hy hm h0 hA
noncomputable def laws_heldMatrix_F : DFn := fun args L =>
  match args with
  | [.agg [.int .i64 v266, .int .i64 v267, a1], .int .i64 v269] =>
    optT (rowF32 L a1) fun v268 =>
    .call (laws_heldMatrix_g v268 v269) fun y => .leaf (.int .i64 y, L)
  | _ => .fail
theorem laws_heldMatrix_Fok : COk Try.prog 35 laws_heldMatrix_F true := by
  intro F L H args r L' hs ha hr
  unfold laws_heldMatrix_F at hr
  split at hr
  · rename_i v266 v267 a1 v269
    obtain ⟨v268, hv268, hr⟩ := optT_run hr
    simp only [Tree.run] at hr
    obtain ⟨y, hy, hr⟩ := Option.bind_eq_some_iff.1 hr
    simp only [Tree.run, Option.some.injEq, Prod.mk.injEq] at hr
    obtain ⟨rfl, rfl⟩ := hr
    exact call_ok0 hs (fun k => (([a1.av F] : List AV)[k]?).getD .top) [.agg [.int .i64 v266, .int .i64 v267, a1], .int .i64 v269] [.agg [.int .i64 v266, .int .i64 v267, .bslc (BR.root 0) (.f32 v268)], .int .i64 v269] (fun F' h0 hi hρ => ⟨by simp [DVs.av, DV.av, BR.av, hρ], laws_heldMatrix_fn v266 v267 v268 v269 F' (by rw [hi]; rfl) (st_nil hi) ⟨⟨trivial, trivial, bslc_ok hi (by rw [h0, hρ]; exact rowF32_ok hs (DVs.okAt (DVs.okAt ha 0 rfl) 2 rfl) hv268), trivial⟩, trivial, trivial⟩ hy⟩) rfl
  · cases hr
/-! laws.FnExactShiftMatrix -/
noncomputable def laws_FnExactShiftMatrix_LO (v1 : List Nat) : LOr := fun id e L =>
  match id with
  | _ => .fail
noncomputable def laws_FnExactShiftMatrix_tab : List (FuncId × DFn × Bool) := [(29, laws_toFloat32S_F, true), (28, spec_ShiftMatrix_F, true), (30, impl_ShiftMatrix_F, true), (31, laws_eqMatrix_F, true), (32, laws_eqFloat32S_F, true), (33, laws_markFloat32S_F, false), (34, (orD (fun args => match args with | [.agg [_, _, .nilslc], _] => true | _ => false) laws_markMatrix_i1_F laws_markMatrix_F), false), (35, laws_heldMatrix_F, true)]
theorem laws_FnExactShiftMatrix_hO : OrcOk Try.prog (tabD laws_FnExactShiftMatrix_tab) (tabM laws_FnExactShiftMatrix_tab) := tabD_cons laws_toFloat32S_Fok (tabD_cons spec_ShiftMatrix_Fok (tabD_cons impl_ShiftMatrix_Fok (tabD_cons laws_eqMatrix_Fok (tabD_cons laws_eqFloat32S_Fok (tabD_cons laws_markFloat32S_Fok (tabD_cons (orD_ok (COk.weak laws_markMatrix_i1_Fok) laws_markMatrix_Fok) (tabD_cons laws_heldMatrix_Fok (tabD_nil _))))))))
noncomputable def laws_FnExactShiftMatrix_T (v1 : List Nat) : Tree (Bool) :=
  (.br (decide ((1048576 : Int) < ((v1.length : Nat) : Int))) (
   .leaf true
  ) (
   (.call (laws_toFloat32S_g v1) fun v9 =>
   (.call (spec_ShiftMatrix_g v9) fun v77 =>
   (.sum v77 (fun v78 =>
    (.call (laws_toFloat32S_g v1) fun v80 =>
    (.call (impl_ShiftMatrix_g v80) fun v208 =>
    (.sum v208 (fun v209 =>
     (.call (laws_eqMatrix_g (0 : Int) (0 : Int) ([] : List Nat) (0 : Int) (0 : Int) ([] : List Nat)) fun v228 =>
     (.br (!v228) (
      .leaf false
     ) (
      (.br (!(false == false)) (
       .leaf false
      ) (
       (.call (laws_toFloat32S_g v1) fun v229 =>
       (.call (laws_eqFloat32S_g v80 v229) fun v230 =>
       (.br (!v230) (
        .leaf false
       ) (
        (.call (laws_markFloat32S_g v80 (1 : Int)) fun v246 =>
        (.grd (decide (v246.2.length = v80.length)) <|
        (.br (decide (v246.1 < (0 : Int))) (
         .leaf false
        ) (
         (.call (laws_eqMatrix_g (0 : Int) (0 : Int) ([] : List Nat) (0 : Int) (0 : Int) ([] : List Nat)) fun v247 =>
         (.br (!v247) (
          .leaf false
         ) (
          (.br (!(false == false)) (
           .leaf false
          ) (
           (.call (laws_markMatrix_i1_g (1 : Int)) fun v265 =>
           (.call (laws_heldMatrix_g ([] : List Nat) (1 : Int)) fun v282 =>
           (.br (decide (v282 < (0 : Int))) (
            .leaf false
           ) (
            (.br (!decide (v282 = v265)) (
             .leaf false
            ) (
             (.call (laws_toFloat32S_g v1) fun v283 =>
             (.call (impl_ShiftMatrix_g v283) fun v284 =>
             (.sum v284 (fun v285 =>
              (.call (laws_eqMatrix_g (0 : Int) (0 : Int) ([] : List Nat) (0 : Int) (0 : Int) ([] : List Nat)) fun v287 =>
              (.br (!v287) (
               .leaf false
              ) (
               (.br (!(false == false)) (
                .leaf false
               ) (
                (.call (laws_heldMatrix_g ([] : List Nat) (1 : Int)) fun v288 =>
                (.br (decide (v288 < (0 : Int))) (
                 .leaf false
                ) (
                 (.br (!decide (v288 = v265)) (
                  .leaf false
                 ) (
                  .leaf true
                 ))
                )))
               ))
              )))
             ) (fun v286 =>
              (.call (laws_eqMatrix_g v286.1 v286.2.1 v286.2.2 (0 : Int) (0 : Int) ([] : List Nat)) fun v289 =>
              (.br (!v289) (
               .leaf false
              ) (
               (.br (!(true == false)) (
                .leaf false
               ) (
                (.call (laws_heldMatrix_g ([] : List Nat) (1 : Int)) fun v290 =>
                (.br (decide (v290 < (0 : Int))) (
                 .leaf false
                ) (
                 (.br (!decide (v290 = v265)) (
                  .leaf false
                 ) (
                  .leaf true
                 ))
                )))
               ))
              )))
             ))))
            ))
           ))))
          ))
         )))
        ))))
       ))))
      ))
     )))
    ) (fun v210 =>
     (.call (laws_eqMatrix_g v210.1 v210.2.1 v210.2.2 (0 : Int) (0 : Int) ([] : List Nat)) fun v291 =>
     (.br (!v291) (
      .leaf false
     ) (
      (.br (!(true == false)) (
       .leaf false
      ) (
       (.call (laws_toFloat32S_g v1) fun v292 =>
       (.call (laws_eqFloat32S_g v80 v292) fun v293 =>
       (.br (!v293) (
        .leaf false
       ) (
        (.call (laws_markFloat32S_g v80 (1 : Int)) fun v294 =>
        (.grd (decide (v294.2.length = v80.length)) <|
        (.br (decide (v294.1 < (0 : Int))) (
         .leaf false
        ) (
         (.call (laws_eqMatrix_g v210.1 v210.2.1 v210.2.2 (0 : Int) (0 : Int) ([] : List Nat)) fun v295 =>
         (.br (!v295) (
          .leaf false
         ) (
          (.br (!(true == false)) (
           .leaf false
          ) (
           (.call (laws_markMatrix_g v210.2.2 (1 : Int)) fun v296 =>
           (.grd (decide (v296.2.length = v210.2.2.length)) <|
           (.call (laws_heldMatrix_g v296.2 (1 : Int)) fun v297 =>
           (.br (decide (v297 < (0 : Int))) (
            .leaf false
           ) (
            (.br (!decide (v297 = v296.1)) (
             .leaf false
            ) (
             (.call (laws_toFloat32S_g v1) fun v298 =>
             (.call (impl_ShiftMatrix_g v298) fun v299 =>
             (.sum v299 (fun v300 =>
              (.call (laws_eqMatrix_g (0 : Int) (0 : Int) ([] : List Nat) (0 : Int) (0 : Int) ([] : List Nat)) fun v302 =>
              (.br (!v302) (
               .leaf false
              ) (
               (.br (!(false == false)) (
                .leaf false
               ) (
                (.call (laws_heldMatrix_g v296.2 (1 : Int)) fun v303 =>
                (.br (decide (v303 < (0 : Int))) (
                 .leaf false
                ) (
                 (.br (!decide (v303 = v296.1)) (
                  .leaf false
                 ) (
                  .leaf true
                 ))
                )))
               ))
              )))
             ) (fun v301 =>
              (.call (laws_eqMatrix_g v301.1 v301.2.1 v301.2.2 (0 : Int) (0 : Int) ([] : List Nat)) fun v304 =>
              (.br (!v304) (
               .leaf false
              ) (
               (.br (!(true == false)) (
                .leaf false
               ) (
                (.call (laws_heldMatrix_g v296.2 (1 : Int)) fun v305 =>
                (.br (decide (v305 < (0 : Int))) (
                 .leaf false
                ) (
                 (.br (!decide (v305 = v296.1)) (
                  .leaf false
                 ) (
                  .leaf true
                 ))
                )))
               ))
              )))
             ))))
            ))
           )))))
          ))
         )))
        ))))
       ))))
      ))
     )))
    ))))
   ) (fun v79 =>
    (.call (laws_toFloat32S_g v1) fun v306 =>
    (.call (impl_ShiftMatrix_g v306) fun v307 =>
    (.sum v307 (fun v308 =>
     (.call (laws_eqMatrix_g (0 : Int) (0 : Int) ([] : List Nat) v79.1 v79.2.1 v79.2.2) fun v310 =>
     (.br (!v310) (
      .leaf false
     ) (
      (.br (!(false == true)) (
       .leaf false
      ) (
       (.call (laws_toFloat32S_g v1) fun v311 =>
       (.call (laws_eqFloat32S_g v306 v311) fun v312 =>
       (.br (!v312) (
        .leaf false
       ) (
        (.call (laws_markFloat32S_g v306 (1 : Int)) fun v313 =>
        (.grd (decide (v313.2.length = v306.length)) <|
        (.br (decide (v313.1 < (0 : Int))) (
         .leaf false
        ) (
         (.call (laws_eqMatrix_g (0 : Int) (0 : Int) ([] : List Nat) v79.1 v79.2.1 v79.2.2) fun v314 =>
         (.br (!v314) (
          .leaf false
         ) (
          (.br (!(false == true)) (
           .leaf false
          ) (
           (.call (laws_markMatrix_i1_g (1 : Int)) fun v315 =>
           (.call (laws_heldMatrix_g ([] : List Nat) (1 : Int)) fun v316 =>
           (.br (decide (v316 < (0 : Int))) (
            .leaf false
           ) (
            (.br (!decide (v316 = v315)) (
             .leaf false
            ) (
             (.call (laws_toFloat32S_g v1) fun v317 =>
             (.call (impl_ShiftMatrix_g v317) fun v318 =>
             (.sum v318 (fun v319 =>
              (.call (laws_eqMatrix_g (0 : Int) (0 : Int) ([] : List Nat) v79.1 v79.2.1 v79.2.2) fun v321 =>
              (.br (!v321) (
               .leaf false
              ) (
               (.br (!(false == true)) (
                .leaf false
               ) (
                (.call (laws_heldMatrix_g ([] : List Nat) (1 : Int)) fun v322 =>
                (.br (decide (v322 < (0 : Int))) (
                 .leaf false
                ) (
                 (.br (!decide (v322 = v315)) (
                  .leaf false
                 ) (
                  .leaf true
                 ))
                )))
               ))
              )))
             ) (fun v320 =>
              (.call (laws_eqMatrix_g v320.1 v320.2.1 v320.2.2 v79.1 v79.2.1 v79.2.2) fun v323 =>
              (.br (!v323) (
               .leaf false
              ) (
               (.br (!(true == true)) (
                .leaf false
               ) (
                (.call (laws_heldMatrix_g ([] : List Nat) (1 : Int)) fun v324 =>
                (.br (decide (v324 < (0 : Int))) (
                 .leaf false
                ) (
                 (.br (!decide (v324 = v315)) (
                  .leaf false
                 ) (
                  .leaf true
                 ))
                )))
               ))
              )))
             ))))
            ))
           ))))
          ))
         )))
        ))))
       ))))
      ))
     )))
    ) (fun v309 =>
     (.call (laws_eqMatrix_g v309.1 v309.2.1 v309.2.2 v79.1 v79.2.1 v79.2.2) fun v325 =>
     (.br (!v325) (
      .leaf false
     ) (
      (.br (!(true == true)) (
       .leaf false
      ) (
       (.call (laws_toFloat32S_g v1) fun v326 =>
       (.call (laws_eqFloat32S_g v306 v326) fun v327 =>
       (.br (!v327) (
        .leaf false
       ) (
        (.call (laws_markFloat32S_g v306 (1 : Int)) fun v328 =>
        (.grd (decide (v328.2.length = v306.length)) <|
        (.br (decide (v328.1 < (0 : Int))) (
         .leaf false
        ) (
         (.call (laws_eqMatrix_g v309.1 v309.2.1 v309.2.2 v79.1 v79.2.1 v79.2.2) fun v329 =>
         (.br (!v329) (
          .leaf false
         ) (
          (.br (!(true == true)) (
           .leaf false
          ) (
           (.call (laws_markMatrix_g v309.2.2 (1 : Int)) fun v330 =>
           (.grd (decide (v330.2.length = v309.2.2.length)) <|
           (.call (laws_heldMatrix_g v330.2 (1 : Int)) fun v331 =>
           (.br (decide (v331 < (0 : Int))) (
            .leaf false
           ) (
            (.br (!decide (v331 = v330.1)) (
             .leaf false
            ) (
             (.call (laws_toFloat32S_g v1) fun v332 =>
             (.call (impl_ShiftMatrix_g v332) fun v333 =>
             (.sum v333 (fun v334 =>
              (.call (laws_eqMatrix_g (0 : Int) (0 : Int) ([] : List Nat) v79.1 v79.2.1 v79.2.2) fun v336 =>
              (.br (!v336) (
               .leaf false
              ) (
               (.br (!(false == true)) (
                .leaf false
               ) (
                (.call (laws_heldMatrix_g v330.2 (1 : Int)) fun v337 =>
                (.br (decide (v337 < (0 : Int))) (
                 .leaf false
                ) (
                 (.br (!decide (v337 = v330.1)) (
                  .leaf false
                 ) (
                  .leaf true
                 ))
                )))
               ))
              )))
             ) (fun v335 =>
              (.call (laws_eqMatrix_g v335.1 v335.2.1 v335.2.2 v79.1 v79.2.1 v79.2.2) fun v338 =>
              (.br (!v338) (
               .leaf false
              ) (
               (.br (!(true == true)) (
                .leaf false
               ) (
                (.call (laws_heldMatrix_g v330.2 (1 : Int)) fun v339 =>
                (.br (decide (v339 < (0 : Int))) (
                 .leaf false
                ) (
                 (.br (!decide (v339 = v330.1)) (
                  .leaf false
                 ) (
                  .leaf true
                 ))
                )))
               ))
              )))
             ))))
            ))
           )))))
          ))
         )))
        ))))
       ))))
      ))
     )))
    ))))
   ))))
  ))

noncomputable def laws_FnExactShiftMatrix_g (v1 : List Nat) : Option (Bool) := (laws_FnExactShiftMatrix_T v1).run
def laws_FnExactShiftMatrix_enc (v1 : List Nat) (y : Bool) : Rs := (.bool y, [])
theorem laws_FnExactShiftMatrix_den (v1 : List Nat) : (den TT (tabD laws_FnExactShiftMatrix_tab) (tabM laws_FnExactShiftMatrix_tab) (laws_FnExactShiftMatrix_LO v1) (codeOf Try.f5) ([.bslc (BR.root 0) (.f32 v1)] ++ List.replicate (Try.f5.ntmps - ([.bslc (BR.root 0) (.f32 v1)] : List DV).length) .undef) []).bind (retD TT Try.f5.results.toList 0) = (laws_FnExactShiftMatrix_T v1).bind fun y => .leaf (laws_FnExactShiftMatrix_enc v1 y) := by kernel_rfl
theorem laws_FnExactShiftMatrix_fn (v1 : List Nat) (F : Fr) (hm : F.ids.length = 0) (h0 : St F [] F.H0) (hA : DVs.Ok F [] [.bslc (BR.root 0) (.f32 v1)]) {y : Bool} (hy : laws_FnExactShiftMatrix_g v1 = some y) : ∃ H', FnOk Try.prog 5 (DVs.av F [.bslc (BR.root 0) (.f32 v1)]) F.H0 ((laws_FnExactShiftMatrix_enc v1 y).1.av F) H' ∧ St F (laws_FnExactShiftMatrix_enc v1 y).2 H' ∧ (laws_FnExactShiftMatrix_enc v1 y).1.Ok F (laws_FnExactShiftMatrix_enc v1 y).2 :=
  fn_fin tok laws_FnExactShiftMatrix_hO mixed Try.func5 Try.call5 (by kernel_rfl) (LoopsOk_eq (l := []) (by kernel_rfl) trivial) (laws_FnExactShiftMatrix_den v1) hy hm h0 hA
noncomputable def laws_FnExactShiftMatrix_F : DFn := fun args L =>
  match args with
  | [a1] =>
    optT (rowF32 L a1) fun v1 =>
    .call (laws_FnExactShiftMatrix_g v1) fun y => .leaf (.bool y, L)
  | _ => .fail
theorem laws_FnExactShiftMatrix_Fok : COk Try.prog 5 laws_FnExactShiftMatrix_F true := by
  intro F L H args r L' hs ha hr
  unfold laws_FnExactShiftMatrix_F at hr
  split at hr
  · rename_i a1
    obtain ⟨v1, hv1, hr⟩ := optT_run hr
    simp only [Tree.run] at hr
    obtain ⟨y, hy, hr⟩ := Option.bind_eq_some_iff.1 hr
    simp only [Tree.run, Option.some.injEq, Prod.mk.injEq] at hr
    obtain ⟨rfl, rfl⟩ := hr
    exact call_ok0 hs (fun k => (([a1.av F] : List AV)[k]?).getD .top) [a1] [.bslc (BR.root 0) (.f32 v1)] (fun F' h0 hi hρ => ⟨by simp [DVs.av, DV.av, BR.av, hρ], laws_FnExactShiftMatrix_fn v1 F' (by rw [hi]; rfl) (st_nil hi) ⟨bslc_ok hi (by rw [h0, hρ]; exact rowF32_ok hs (DVs.okAt ha 0 rfl) hv1), trivial⟩ hy⟩) rfl
  · cases hr
/-! spec.l02Dot -/
noncomputable def spec_l02Dot_l0_T (v354 : List Nat) (v355 : List Nat) (s : Nat × Int) : Tree ((Nat × Int) ⊕ (Nat)) :=
  (.br (decide (s.2 < ((v354.length : Nat) : Int))) (
   (.grd (inb s.2 v354.length) <|
   (.grd (inb s.2 v355.length) <|
   .leaf (.inl (fadd .f32 s.1 (fmul .f32 (nth v354 (Int.toNat s.2)) (nth v355 (Int.toNat s.2))), IntKind.i64.wrap (s.2 + (1 : Int))))))
  ) (
   .leaf (.inr s.1)
  ))

noncomputable def spec_l02Dot_l0_g (v354 : List Nat) (v355 : List Nat) (s0 : Nat × Int) : Option (Nat) := whileM (fun s => (spec_l02Dot_l0_T v354 v355 s).run) s0
def spec_l02Dot_l0_E (v354 : List Nat) (v355 : List Nat) (s : Nat × Int) : Sd := ([.bslc (BR.root 0) (.f32 v354), .bslc (BR.root 1) (.f32 v355), .top, .top, .top, .flt .f32 s.1, .int .i64 s.2, .top, .top, .top, .top, .top, .top, .top, .top, .top, .top, .top, .top, .top, .top, .top, .top, .top, .top], [])
def spec_l02Dot_l0_X (v354 : List Nat) (v355 : List Nat) (x : Nat) : Out := (.normal, [.top, .top, .top, .top, .top, .flt .f32 x, .top, .top, .top, .top, .top, .top, .top, .top, .top, .top, .top, .top, .top, .top, .top, .top, .top, .top, .top], [])
def spec_l02Dot_l0_kill : List Nat := [0, 0, 1, 1, 1, 0, 0, 1, 1, 1, 1, 1, 1, 1, 1, 1, 1, 1, 1, 1, 1, 1, 1, 1, 1]
def spec_l02Dot_l0_nx : Exit → List Nat
  | .exit 0 => [1, 1, 1, 1, 1, 0, 1, 1, 1, 1, 1, 1, 1, 1, 1, 1, 1, 1, 1, 1, 1, 1, 1, 1, 1]
  | .ret => [1, 1, 1, 1, 0, 1, 1, 1, 1, 1, 1, 1, 1, 1, 1, 1, 1, 1, 1, 1, 1, 1, 1, 1, 1]
  | _ => []
noncomputable def spec_l02Dot_LO (v354 : List Nat) (v355 : List Nat) : LOr := fun id e L =>
  match id with
  | 0 => .need (normA 0 spec_l02Dot_l0_kill e L = some (spec_l02Dot_l0_E v354 v355 ((gF (vAt e 5)), (gI (vAt e 6))))) (.call (spec_l02Dot_l0_g v354 v355 ((gF (vAt e 5)), (gI (vAt e 6)))) fun x => .leaf (spec_l02Dot_l0_X v354 v355 x))
  | _ => .fail
noncomputable def spec_l02Dot_tab : List (FuncId × DFn × Bool) := []
theorem spec_l02Dot_hO : OrcOk Try.prog (tabD spec_l02Dot_tab) (tabM spec_l02Dot_tab) := tabD_nil _
theorem spec_l02Dot_l0_be (v354 : List Nat) (v355 : List Nat) (s : Nat × Int) : bodyT TT (tabD spec_l02Dot_tab) (tabM spec_l02Dot_tab) (spec_l02Dot_LO v354 v355) 0 spec_l02Dot_l0_kill spec_l02Dot_l0_nx (bodyOf Try.f149 0) 0 (spec_l02Dot_l0_E v354 v355 s) = (spec_l02Dot_l0_T v354 v355 s).bind fun y => .leaf (outS (spec_l02Dot_l0_E v354 v355) (spec_l02Dot_l0_X v354 v355) y) := by kernel_rfl
theorem spec_l02Dot_l0_ok (v354 : List Nat) (v355 : List Nat) : LSound Try.prog 0 (spec_l02Dot_LO v354 v355) 0 (bodyOf Try.f149 0) := by
  intro e L out h
  exact lo_ok (E := spec_l02Dot_l0_E v354 v355) (gT := spec_l02Dot_l0_T v354 v355) (X := spec_l02Dot_l0_X v354 v355) (s0 := ((gF (vAt e 5)), (gI (vAt e 6)))) tok spec_l02Dot_hO mixed (LoopsOk_eq (l := []) (by kernel_rfl) trivial) (spec_l02Dot_l0_be v354 v355) rfl (by intro x; rfl) h
noncomputable def spec_l02Dot_T (v354 : List Nat) (v355 : List Nat) : Tree (Nat) :=
  (.need (some (spec_l02Dot_l0_E v354 v355 ((0 : Nat), (0 : Int))) = some (spec_l02Dot_l0_E v354 v355 ((0 : Nat), (0 : Int)))) <|
  (.call (spec_l02Dot_l0_g v354 v355 ((0 : Nat), (0 : Int))) fun v362 =>
  .leaf v362))

noncomputable def spec_l02Dot_g (v354 : List Nat) (v355 : List Nat) : Option (Nat) := (spec_l02Dot_T v354 v355).run
def spec_l02Dot_enc (v354 : List Nat) (v355 : List Nat) (y : Nat) : Rs := (.flt .f32 y, [])
theorem spec_l02Dot_den (v354 : List Nat) (v355 : List Nat) : (den TT (tabD spec_l02Dot_tab) (tabM spec_l02Dot_tab) (spec_l02Dot_LO v354 v355) (codeOf Try.f149) ([.bslc (BR.root 0) (.f32 v354), .bslc (BR.root 1) (.f32 v355)] ++ List.replicate (Try.f149.ntmps - ([.bslc (BR.root 0) (.f32 v354), .bslc (BR.root 1) (.f32 v355)] : List DV).length) .undef) []).bind (retD TT Try.f149.results.toList 0) = (spec_l02Dot_T v354 v355).bind fun y => .leaf (spec_l02Dot_enc v354 v355 y) := by kernel_rfl
theorem spec_l02Dot_fn (v354 : List Nat) (v355 : List Nat) (F : Fr) (hm : F.ids.length = 0) (h0 : St F [] F.H0) (hA : DVs.Ok F [] [.bslc (BR.root 0) (.f32 v354), .bslc (BR.root 1) (.f32 v355)]) {y : Nat} (hy : spec_l02Dot_g v354 v355 = some y) : ∃ H', FnOk Try.prog 149 (DVs.av F [.bslc (BR.root 0) (.f32 v354), .bslc (BR.root 1) (.f32 v355)]) F.H0 ((spec_l02Dot_enc v354 v355 y).1.av F) H' ∧ St F (spec_l02Dot_enc v354 v355 y).2 H' ∧ (spec_l02Dot_enc v354 v355 y).1.Ok F (spec_l02Dot_enc v354 v355 y).2 :=
  fn_fin tok spec_l02Dot_hO mixed Try.func149 Try.call149 (by kernel_rfl) (LoopsOk_eq (l := [(0, bodyOf Try.f149 0)]) (by kernel_rfl) ⟨spec_l02Dot_l0_ok v354 v355, trivial⟩) (spec_l02Dot_den v354 v355) hy hm h0 hA
noncomputable def spec_l02Dot_F : DFn := fun args L =>
  match args with
  | [a1, a2] =>
    optT (rowF32 L a1) fun v354 =>
    optT (rowF32 L a2) fun v355 =>
    .call (spec_l02Dot_g v354 v355) fun y => .leaf (.flt .f32 y, L)
  | _ => .fail
theorem spec_l02Dot_Fok : COk Try.prog 149 spec_l02Dot_F true := by
  intro F L H args r L' hs ha hr
  unfold spec_l02Dot_F at hr
  split at hr
  · rename_i a1 a2
    obtain ⟨v354, hv354, hr⟩ := optT_run hr
    obtain ⟨v355, hv355, hr⟩ := optT_run hr
    simp only [Tree.run] at hr
    obtain ⟨y, hy, hr⟩ := Option.bind_eq_some_iff.1 hr
    simp only [Tree.run, Option.some.injEq, Prod.mk.injEq] at hr
    obtain ⟨rfl, rfl⟩ := hr
    exact call_ok0 hs (fun k => (([a1.av F, a2.av F] : List AV)[k]?).getD .top) [a1, a2] [.bslc (BR.root 0) (.f32 v354), .bslc (BR.root 1) (.f32 v355)] (fun F' h0 hi hρ => ⟨by simp [DVs.av, DV.av, BR.av, hρ], spec_l02Dot_fn v354 v355 F' (by rw [hi]; rfl) (st_nil hi) ⟨bslc_ok hi (by rw [h0, hρ]; exact rowF32_ok hs (DVs.okAt ha 0 rfl) hv354), bslc_ok hi (by rw [h0, hρ]; exact rowF32_ok hs (DVs.okAt ha 1 rfl) hv355), trivial⟩ hy⟩) rfl
  · cases hr
/-! spec.l02Times -/
noncomputable def spec_l02Times_l0_T (v349 : Int) (v350 : Int) (v351 : List Nat) (v352 : List Nat) (s : Int × (List Nat)) : Tree ((Int × (List Nat)) ⊕ ((List Nat))) :=
  (.br (decide (s.1 < v349)) (
   (.grd (sok (IntKind.i64.wrap (s.1 * v350)) (IntKind.i64.wrap ((IntKind.i64.wrap (s.1 + (1 : Int))) * v350)) v351.length) <|
   (.call (spec_l02Dot_g (AM.sub v351 (IntKind.i64.wrap (s.1 * v350)) (IntKind.i64.wrap ((IntKind.i64.wrap (s.1 + (1 : Int))) * v350))) v352) fun v369 =>
   (.grd (fits (s.2 ++ ([v369] : List Nat)).length) <|
   .leaf (.inl (IntKind.i64.wrap (s.1 + (1 : Int)), s.2 ++ ([v369] : List Nat))))))
  ) (
   .leaf (.inr s.2)
  ))

noncomputable def spec_l02Times_l0_g (v349 : Int) (v350 : Int) (v351 : List Nat) (v352 : List Nat) (s0 : Int × (List Nat)) : Option ((List Nat)) := whileM (fun s => (spec_l02Times_l0_T v349 v350 v351 v352 s).run) s0
def spec_l02Times_l0_E (v349 : Int) (v350 : Int) (v351 : List Nat) (v352 : List Nat) (s : Int × (List Nat)) : Sd := ([.bptr (BR.root 0) [.int .i64 v349, .int .i64 v350, .bslc (BR.root 1) (.f32 v351)], .bslc (BR.root 2) (.f32 v352), .top, .top, .top, .own 0 0 ((s.2).length), .int .i64 s.1, .top, .top, .top, .top, .top, .top, .top, .top, .top, .top, .top, .top, .top, .top, .top, .top, .top, .top, .top, .top, .top, .top, .top, .top, .top, .top, .top, .top, .top, .top, .top, .top, .top], [.row (.f32 s.2) 0])
def spec_l02Times_l0_X (v349 : Int) (v350 : Int) (v351 : List Nat) (v352 : List Nat) (x : (List Nat)) : Out := (.normal, [.top, .top, .top, .top, .top, .own 0 0 ((x).length), .top, .top, .top, .top, .top, .top, .top, .top, .top, .top, .top, .top, .top, .top, .top, .top, .top, .top, .top, .top, .top, .top, .top, .top, .top, .top, .top, .top, .top, .top, .top, .top, .top, .top], [.row (.f32 x) 0])
def spec_l02Times_l0_kill : List Nat := [0, 0, 1, 1, 1, 0, 0, 1, 1, 1, 1, 1, 1, 1, 1, 1, 1, 1, 1, 1, 1, 1, 1, 1, 1, 1, 1, 1, 1, 1, 1, 1, 1, 1, 1, 1, 1, 1, 1, 1]
def spec_l02Times_l0_nx : Exit → List Nat
  | .exit 0 => [1, 1, 1, 1, 1, 0, 1, 1, 1, 1, 1, 1, 1, 1, 1, 1, 1, 1, 1, 1, 1, 1, 1, 1, 1, 1, 1, 1, 1, 1, 1, 1, 1, 1, 1, 1, 1, 1, 1, 1]
  | .ret => [1, 1, 1, 1, 0, 1, 1, 1, 1, 1, 1, 1, 1, 1, 1, 1, 1, 1, 1, 1, 1, 1, 1, 1, 1, 1, 1, 1, 1, 1, 1, 1, 1, 1, 1, 1, 1, 1, 1, 1]
  | _ => []
noncomputable def spec_l02Times_LO (v349 : Int) (v350 : Int) (v351 : List Nat) (v352 : List Nat) : LOr := fun id e L =>
  match id with
  | 0 => .need (normA 0 spec_l02Times_l0_kill e L = some (spec_l02Times_l0_E v349 v350 v351 v352 ((gI (vAt e 6)), (gRF L (vAt e 5))))) (.call (spec_l02Times_l0_g v349 v350 v351 v352 ((gI (vAt e 6)), (gRF L (vAt e 5)))) fun x => .leaf (spec_l02Times_l0_X v349 v350 v351 v352 x))
  | _ => .fail
noncomputable def spec_l02Times_tab : List (FuncId × DFn × Bool) := [(149, spec_l02Dot_F, true)]
theorem spec_l02Times_hO : OrcOk Try.prog (tabD spec_l02Times_tab) (tabM spec_l02Times_tab) := tabD_cons spec_l02Dot_Fok (tabD_nil _)
theorem spec_l02Times_l0_be (v349 : Int) (v350 : Int) (v351 : List Nat) (v352 : List Nat) (s : Int × (List Nat)) : bodyT TT (tabD spec_l02Times_tab) (tabM spec_l02Times_tab) (spec_l02Times_LO v349 v350 v351 v352) 0 spec_l02Times_l0_kill spec_l02Times_l0_nx (bodyOf Try.f98 0) 0 (spec_l02Times_l0_E v349 v350 v351 v352 s) = (spec_l02Times_l0_T v349 v350 v351 v352 s).bind fun y => .leaf (outS (spec_l02Times_l0_E v349 v350 v351 v352) (spec_l02Times_l0_X v349 v350 v351 v352) y) := by kernel_rfl
theorem spec_l02Times_l0_ok (v349 : Int) (v350 : Int) (v351 : List Nat) (v352 : List Nat) : LSound Try.prog 0 (spec_l02Times_LO v349 v350 v351 v352) 0 (bodyOf Try.f98 0) := by
  intro e L out h
  exact lo_ok (E := spec_l02Times_l0_E v349 v350 v351 v352) (gT := spec_l02Times_l0_T v349 v350 v351 v352) (X := spec_l02Times_l0_X v349 v350 v351 v352) (s0 := ((gI (vAt e 6)), (gRF L (vAt e 5)))) tok spec_l02Times_hO mixed (LoopsOk_eq (l := []) (by kernel_rfl) trivial) (spec_l02Times_l0_be v349 v350 v351 v352) rfl (by intro x; rfl) h
noncomputable def spec_l02Times_T (v349 : Int) (v350 : Int) (v351 : List Nat) (v352 : List Nat) : Tree ((List Nat)) :=
  (.need (some (spec_l02Times_l0_E v349 v350 v351 v352 ((0 : Int), ([] : List Nat))) = some (spec_l02Times_l0_E v349 v350 v351 v352 ((0 : Int), ([] : List Nat)))) <|
  (.call (spec_l02Times_l0_g v349 v350 v351 v352 ((0 : Int), ([] : List Nat))) fun v370 =>
  .leaf v370))

noncomputable def spec_l02Times_g (v349 : Int) (v350 : Int) (v351 : List Nat) (v352 : List Nat) : Option ((List Nat)) := (spec_l02Times_T v349 v350 v351 v352).run
def spec_l02Times_enc (v349 : Int) (v350 : Int) (v351 : List Nat) (v352 : List Nat) (y : (List Nat)) : Rs := (.own 0 0 ((y).length), [.row (.f32 y) 0])
theorem spec_l02Times_den (v349 : Int) (v350 : Int) (v351 : List Nat) (v352 : List Nat) : (den TT (tabD spec_l02Times_tab) (tabM spec_l02Times_tab) (spec_l02Times_LO v349 v350 v351 v352) (codeOf Try.f98) ([.bptr (BR.root 0) [.int .i64 v349, .int .i64 v350, .bslc (BR.root 1) (.f32 v351)], .bslc (BR.root 2) (.f32 v352)] ++ List.replicate (Try.f98.ntmps - ([.bptr (BR.root 0) [.int .i64 v349, .int .i64 v350, .bslc (BR.root 1) (.f32 v351)], .bslc (BR.root 2) (.f32 v352)] : List DV).length) .undef) []).bind (retD TT Try.f98.results.toList 0) = (spec_l02Times_T v349 v350 v351 v352).bind fun y => .leaf (spec_l02Times_enc v349 v350 v351 v352 y) := by kernel_rfl
theorem spec_l02Times_fn (v349 : Int) (v350 : Int) (v351 : List Nat) (v352 : List Nat) (F : Fr) (hm : F.ids.length = 0) (h0 : St F [] F.H0) (hA : DVs.Ok F [] [.bptr (BR.root 0) [.int .i64 v349, .int .i64 v350, .bslc (BR.root 1) (.f32 v351)], .bslc (BR.root 2) (.f32 v352)]) {y : (List Nat)} (hy : spec_l02Times_g v349 v350 v351 v352 = some y) : ∃ H', FnOk Try.prog 98 (DVs.av F [.bptr (BR.root 0) [.int .i64 v349, .int .i64 v350, .bslc (BR.root 1) (.f32 v351)], .bslc (BR.root 2) (.f32 v352)]) F.H0 ((spec_l02Times_enc v349 v350 v351 v352 y).1.av F) H' ∧ St F (spec_l02Times_enc v349 v350 v351 v352 y).2 H' ∧ (spec_l02Times_enc v349 v350 v351 v352 y).1.Ok F (spec_l02Times_enc v349 v350 v351 v352 y).2 :=
  fn_fin tok spec_l02Times_hO mixed Try.func98 Try.call98 (by kernel_rfl) (LoopsOk_eq (l := [(0, bodyOf Try.f98 0)]) (by kernel_rfl) ⟨spec_l02Times_l0_ok v349 v350 v351 v352, trivial⟩) (spec_l02Times_den v349 v350 v351 v352) hy hm h0 hA
noncomputable def spec_l02Times_F : DFn := fun args L =>
  match args with
  | [a1, a3] =>
    optT (cellsOf L 3 a1) fun cs0 =>
    (match cs0 with
    | [.int .i64 v349, .int .i64 v350, a2] =>
    optT (rowF32 L a2) fun v351 =>
    optT (rowF32 L a3) fun v352 =>
    .call (spec_l02Times_g v349 v350 v351 v352) fun y => .leaf (.own (L.length + 0) 0 ((y).length), L ++ [.row (.f32 y) 0])
    | _ => .fail)
  | _ => .fail
theorem spec_l02Times_Fok : COk Try.prog 98 spec_l02Times_F true := by
  intro F L H args r L' hs ha hr
  unfold spec_l02Times_F at hr
  split at hr
  · rename_i a1 a3
    obtain ⟨cs0, hcp0, hr⟩ := optT_run hr
    split at hr
    · rename_i v349 v350 a2
      obtain ⟨v351, hv351, hr⟩ := optT_run hr
      obtain ⟨v352, hv352, hr⟩ := optT_run hr
      simp only [Tree.run] at hr
      obtain ⟨y, hy, hr⟩ := Option.bind_eq_some_iff.1 hr
      simp only [Tree.run, Option.some.injEq, Prod.mk.injEq] at hr
      obtain ⟨rfl, rfl⟩ := hr
      exact call_ok1 hs (fun k => (([a1.av F, a2.av F, a3.av F] : List AV)[k]?).getD .top) [a1, a3] [.bptr (BR.root 0) [.int .i64 v349, .int .i64 v350, .bslc (BR.root 1) (.f32 v351)], .bslc (BR.root 2) (.f32 v352)] (fun F' h0 hi hρ => ⟨by simp [DVs.av, DV.av, BR.av, hρ], spec_l02Times_fn v349 v350 v351 v352 F' (by rw [hi]; rfl) (st_nil hi) ⟨bptr_ok hi (by rw [h0]; simpa [DVs.av, DV.av, BR.av, hρ] using (cellsOf_ok hs (DVs.okAt ha 0 rfl) hcp0).1) ⟨trivial, trivial, bslc_ok hi (by rw [h0, hρ]; exact rowF32_ok hs (DVs.okAt (cellsOf_ok hs (DVs.okAt ha 0 rfl) hcp0).2 2 rfl) hv351), trivial⟩, bslc_ok hi (by rw [h0, hρ]; exact rowF32_ok hs (DVs.okAt ha 1 rfl) hv352), trivial⟩ hy⟩) rfl rfl
    · cases hr
  · cases hr
/-! spec.l02List -/
noncomputable def spec_l02List_LO (v372 : List Nat) : LOr := fun id e L =>
  match id with
  | _ => .fail
noncomputable def spec_l02List_tab : List (FuncId × DFn × Bool) := [(140, spec_l02Finite_F, true)]
theorem spec_l02List_hO : OrcOk Try.prog (tabD spec_l02List_tab) (tabM spec_l02List_tab) := tabD_cons spec_l02Finite_Fok (tabD_nil _)
noncomputable def spec_l02List_T (v372 : List Nat) : Tree ((Unit) ⊕ (Unit)) :=
  (.call (spec_l02Finite_g v372) fun v373 =>
  (.br (!v373) (
   .leaf (.inl ())
  ) (
   .leaf (.inr ())
  )))

noncomputable def spec_l02List_g (v372 : List Nat) : Option ((Unit) ⊕ (Unit)) := (spec_l02List_T v372).run
def spec_l02List_enc (v372 : List Nat) (y : (Unit) ⊕ (Unit)) : Rs := (match y with | .inl y => (.tup [.nilslc, .lit false], []) | .inr y => (.tup [.bslc (BR.root 0) (.f32 v372), .lit true], []))
theorem spec_l02List_den (v372 : List Nat) : (den TT (tabD spec_l02List_tab) (tabM spec_l02List_tab) (spec_l02List_LO v372) (codeOf Try.f92) ([.bslc (BR.root 0) (.f32 v372)] ++ List.replicate (Try.f92.ntmps - ([.bslc (BR.root 0) (.f32 v372)] : List DV).length) .undef) []).bind (retD TT Try.f92.results.toList 0) = (spec_l02List_T v372).bind fun y => .leaf (spec_l02List_enc v372 y) := by kernel_rfl
theorem spec_l02List_fn (v372 : List Nat) (F : Fr) (hm : F.ids.length = 0) (h0 : St F [] F.H0) (hA : DVs.Ok F [] [.bslc (BR.root 0) (.f32 v372)]) {y : (Unit) ⊕ (Unit)} (hy : spec_l02List_g v372 = some y) : ∃ H', FnOk Try.prog 92 (DVs.av F [.bslc (BR.root 0) (.f32 v372)]) F.H0 ((spec_l02List_enc v372 y).1.av F) H' ∧ St F (spec_l02List_enc v372 y).2 H' ∧ (spec_l02List_enc v372 y).1.Ok F (spec_l02List_enc v372 y).2 :=
  fn_fin tok spec_l02List_hO mixed Try.func92 Try.call92 (by kernel_rfl) (LoopsOk_eq (l := []) (by kernel_rfl) trivial) (spec_l02List_den v372) hy hm h0 hA
noncomputable def spec_l02List_F : DFn := fun args L =>
  match args with
  | [a1] =>
    optT (rowF32 L a1) fun v372 =>
    .call (spec_l02List_g v372) fun y => .sum y (fun y0 => .leaf (.tup [.nilslc, .lit false], L)) (fun z0 => .leaf (.tup [a1, .lit true], L))
  | _ => .fail
theorem spec_l02List_Fok : COk Try.prog 92 spec_l02List_F true := by
  intro F L H args r L' hs ha hr
  unfold spec_l02List_F at hr
  split at hr
  · rename_i a1
    obtain ⟨v372, hv372, hr⟩ := optT_run hr
    simp only [Tree.run] at hr
    obtain ⟨y, hy, hr⟩ := Option.bind_eq_some_iff.1 hr
    cases y with
    | inl y =>
      simp only [Tree.run, Option.some.injEq, Prod.mk.injEq] at hr
      obtain ⟨rfl, rfl⟩ := hr
      exact call_ok0 hs (fun k => (([a1.av F] : List AV)[k]?).getD .top) [a1] [.bslc (BR.root 0) (.f32 v372)] (fun F' h0 hi hρ => ⟨by simp [DVs.av, DV.av, BR.av, hρ], spec_l02List_fn v372 F' (by rw [hi]; rfl) (st_nil hi) ⟨bslc_ok hi (by rw [h0, hρ]; exact rowF32_ok hs (DVs.okAt ha 0 rfl) hv372), trivial⟩ hy⟩) rfl
    | inr y =>
      simp only [Tree.run, Option.some.injEq, Prod.mk.injEq] at hr
      obtain ⟨rfl, rfl⟩ := hr
      exact call_al0 hs (fun k => (([a1.av F] : List AV)[k]?).getD .top) [a1] [.bslc (BR.root 0) (.f32 v372)] (fun F' h0 hi hρ => ⟨by simp [DVs.av, DV.av, BR.av, hρ], spec_l02List_fn v372 F' (by rw [hi]; rfl) (st_nil hi) ⟨bslc_ok hi (by rw [h0, hρ]; exact rowF32_ok hs (DVs.okAt ha 0 rfl) hv372), trivial⟩ hy⟩) (fun F' h0 hi hρ => by simp [spec_l02List_enc, DVs.av, DV.av, BR.av, hρ]) ⟨(DVs.okAt ha 0 rfl), trivial, trivial⟩
  · cases hr
/-! spec.ShiftTimes -/
noncomputable def spec_ShiftTimes_LO (v344 : List Nat) (v345 : List Nat) : LOr := fun id e L =>
  match id with
  | _ => .fail
noncomputable def spec_ShiftTimes_tab : List (FuncId × DFn × Bool) := [(85, spec_l07Short_F, true), (87, spec_l07Shift_F, true), (98, spec_l02Times_F, true), (92, spec_l02List_F, true)]
theorem spec_ShiftTimes_hO : OrcOk Try.prog (tabD spec_ShiftTimes_tab) (tabM spec_ShiftTimes_tab) := tabD_cons spec_l07Short_Fok (tabD_cons spec_l07Shift_Fok (tabD_cons spec_l02Times_Fok (tabD_cons spec_l02List_Fok (tabD_nil _))))
noncomputable def spec_ShiftTimes_T (v344 : List Nat) (v345 : List Nat) : Tree ((Unit) ⊕ ((List Nat))) :=
  (.call (spec_l07Short_g v344) fun v346 =>
  (.br (!v346) (
   .leaf (.inl ())
  ) (
   (.call (spec_l07Short_g v345) fun v347 =>
   (.br (!v347) (
    .leaf (.inl ())
   ) (
    (.br (!decide (((v344.length : Nat) : Int) = ((v345.length : Nat) : Int))) (
     .leaf (.inl ())
    ) (
     (.call (spec_l07Shift_g v344) fun v348 =>
     (.call (spec_l02Times_g v348.1 v348.2.1 v348.2.2 v345) fun v371 =>
     (.call (spec_l02List_g v371) fun v374 =>
     (.sum v374 (fun v375 =>
      .leaf (.inl ())
     ) (fun v376 =>
      .leaf (.inr v371)
     )))))
    ))
   )))
  )))

noncomputable def spec_ShiftTimes_g (v344 : List Nat) (v345 : List Nat) : Option ((Unit) ⊕ ((List Nat))) := (spec_ShiftTimes_T v344 v345).run
def spec_ShiftTimes_enc (v344 : List Nat) (v345 : List Nat) (y : (Unit) ⊕ ((List Nat))) : Rs := (match y with | .inl y => (.tup [.nilslc, .lit false], []) | .inr y => (.tup [.own 0 0 ((y).length), .lit true], [.row (.f32 y) 0]))
theorem spec_ShiftTimes_den (v344 : List Nat) (v345 : List Nat) : (den TT (tabD spec_ShiftTimes_tab) (tabM spec_ShiftTimes_tab) (spec_ShiftTimes_LO v344 v345) (codeOf Try.f39) ([.bslc (BR.root 0) (.f32 v344), .bslc (BR.root 1) (.f32 v345)] ++ List.replicate (Try.f39.ntmps - ([.bslc (BR.root 0) (.f32 v344), .bslc (BR.root 1) (.f32 v345)] : List DV).length) .undef) []).bind (retD TT Try.f39.results.toList 0) = (spec_ShiftTimes_T v344 v345).bind fun y => .leaf (spec_ShiftTimes_enc v344 v345 y) := by kernel_rfl
theorem spec_ShiftTimes_fn (v344 : List Nat) (v345 : List Nat) (F : Fr) (hm : F.ids.length = 0) (h0 : St F [] F.H0) (hA : DVs.Ok F [] [.bslc (BR.root 0) (.f32 v344), .bslc (BR.root 1) (.f32 v345)]) {y : (Unit) ⊕ ((List Nat))} (hy : spec_ShiftTimes_g v344 v345 = some y) : ∃ H', FnOk Try.prog 39 (DVs.av F [.bslc (BR.root 0) (.f32 v344), .bslc (BR.root 1) (.f32 v345)]) F.H0 ((spec_ShiftTimes_enc v344 v345 y).1.av F) H' ∧ St F (spec_ShiftTimes_enc v344 v345 y).2 H' ∧ (spec_ShiftTimes_enc v344 v345 y).1.Ok F (spec_ShiftTimes_enc v344 v345 y).2 :=
  fn_fin tok spec_ShiftTimes_hO mixed Try.func39 Try.call39 (by kernel_rfl) (LoopsOk_eq (l := []) (by kernel_rfl) trivial) (spec_ShiftTimes_den v344 v345) hy hm h0 hA
noncomputable def spec_ShiftTimes_F : DFn := fun args L =>
  match args with
  | [a1, a2] =>
    optT (rowF32 L a1) fun v344 =>
    optT (rowF32 L a2) fun v345 =>
    .call (spec_ShiftTimes_g v344 v345) fun y => .sum y (fun y0 => .leaf (.tup [.nilslc, .lit false], L)) (fun z0 => .leaf (.tup [.own (L.length + 0) 0 ((z0).length), .lit true], L ++ [.row (.f32 z0) 0]))
  | _ => .fail
theorem spec_ShiftTimes_Fok : COk Try.prog 39 spec_ShiftTimes_F true := by
  intro F L H args r L' hs ha hr
  unfold spec_ShiftTimes_F at hr
  split at hr
  · rename_i a1 a2
    obtain ⟨v344, hv344, hr⟩ := optT_run hr
    obtain ⟨v345, hv345, hr⟩ := optT_run hr
    simp only [Tree.run] at hr
    obtain ⟨y, hy, hr⟩ := Option.bind_eq_some_iff.1 hr
    cases y with
    | inl y =>
      simp only [Tree.run, Option.some.injEq, Prod.mk.injEq] at hr
      obtain ⟨rfl, rfl⟩ := hr
      exact call_ok0 hs (fun k => (([a1.av F, a2.av F] : List AV)[k]?).getD .top) [a1, a2] [.bslc (BR.root 0) (.f32 v344), .bslc (BR.root 1) (.f32 v345)] (fun F' h0 hi hρ => ⟨by simp [DVs.av, DV.av, BR.av, hρ], spec_ShiftTimes_fn v344 v345 F' (by rw [hi]; rfl) (st_nil hi) ⟨bslc_ok hi (by rw [h0, hρ]; exact rowF32_ok hs (DVs.okAt ha 0 rfl) hv344), bslc_ok hi (by rw [h0, hρ]; exact rowF32_ok hs (DVs.okAt ha 1 rfl) hv345), trivial⟩ hy⟩) rfl
    | inr y =>
      simp only [Tree.run, Option.some.injEq, Prod.mk.injEq] at hr
      obtain ⟨rfl, rfl⟩ := hr
      exact call_ok1 hs (fun k => (([a1.av F, a2.av F] : List AV)[k]?).getD .top) [a1, a2] [.bslc (BR.root 0) (.f32 v344), .bslc (BR.root 1) (.f32 v345)] (fun F' h0 hi hρ => ⟨by simp [DVs.av, DV.av, BR.av, hρ], spec_ShiftTimes_fn v344 v345 F' (by rw [hi]; rfl) (st_nil hi) ⟨bslc_ok hi (by rw [h0, hρ]; exact rowF32_ok hs (DVs.okAt ha 0 rfl) hv344), bslc_ok hi (by rw [h0, hρ]; exact rowF32_ok hs (DVs.okAt ha 1 rfl) hv345), trivial⟩ hy⟩) rfl rfl
  · cases hr
/-! slices.Clone[list of float32,float32] -/
noncomputable def slices_CloneF_LO (v396 : List Nat) : LOr := fun id e L =>
  match id with
  | _ => .fail
noncomputable def slices_CloneF_tab : List (FuncId × DFn × Bool) := []
theorem slices_CloneF_hO : OrcOk Try.prog (tabD slices_CloneF_tab) (tabM slices_CloneF_tab) := tabD_nil _
noncomputable def slices_CloneF_T (v396 : List Nat) : Tree (Unit) :=
  (.grd (decide (0 < v396.length)) <|
  (.grd (fits (([] : List Nat) ++ v396).length) <|
  .leaf ()))

noncomputable def slices_CloneF_g (v396 : List Nat) : Option (Unit) := (slices_CloneF_T v396).run
def slices_CloneF_enc (v396 : List Nat) (y : Unit) : Rs := (.own 0 0 ((([] : List Nat) ++ v396).length), [.row (.f32 (([] : List Nat) ++ v396)) 0])
theorem slices_CloneF_den (v396 : List Nat) : (den TT (tabD slices_CloneF_tab) (tabM slices_CloneF_tab) (slices_CloneF_LO v396) (codeOf Try.f148) ([.bslc (BR.root 0) (.f32 v396)] ++ List.replicate (Try.f148.ntmps - ([.bslc (BR.root 0) (.f32 v396)] : List DV).length) .undef) []).bind (retD TT Try.f148.results.toList 0) = (slices_CloneF_T v396).bind fun y => .leaf (slices_CloneF_enc v396 y) := by kernel_rfl
theorem slices_CloneF_fn (v396 : List Nat) (F : Fr) (hm : F.ids.length = 0) (h0 : St F [] F.H0) (hA : DVs.Ok F [] [.bslc (BR.root 0) (.f32 v396)]) {y : Unit} (hy : slices_CloneF_g v396 = some y) : ∃ H', FnOk Try.prog 148 (DVs.av F [.bslc (BR.root 0) (.f32 v396)]) F.H0 ((slices_CloneF_enc v396 y).1.av F) H' ∧ St F (slices_CloneF_enc v396 y).2 H' ∧ (slices_CloneF_enc v396 y).1.Ok F (slices_CloneF_enc v396 y).2 :=
  fn_fin tok slices_CloneF_hO mixed Try.func148 Try.call148 (by kernel_rfl) (LoopsOk_eq (l := []) (by kernel_rfl) trivial) (slices_CloneF_den v396) hy hm h0 hA
noncomputable def slices_CloneF_F : DFn := fun args L =>
  match args with
  | [a1] =>
    optT (rowF32 L a1) fun v396 =>
    .call (slices_CloneF_g v396) fun y => .leaf (.own (L.length + 0) 0 ((([] : List Nat) ++ v396).length), L ++ [.row (.f32 (([] : List Nat) ++ v396)) 0])
  | _ => .fail
theorem slices_CloneF_Fok : COk Try.prog 148 slices_CloneF_F true := by
  intro F L H args r L' hs ha hr
  unfold slices_CloneF_F at hr
  split at hr
  · rename_i a1
    obtain ⟨v396, hv396, hr⟩ := optT_run hr
    simp only [Tree.run] at hr
    obtain ⟨y, hy, hr⟩ := Option.bind_eq_some_iff.1 hr
    simp only [Tree.run, Option.some.injEq, Prod.mk.injEq] at hr
    obtain ⟨rfl, rfl⟩ := hr
    exact call_ok1 hs (fun k => (([a1.av F] : List AV)[k]?).getD .top) [a1] [.bslc (BR.root 0) (.f32 v396)] (fun F' h0 hi hρ => ⟨by simp [DVs.av, DV.av, BR.av, hρ], slices_CloneF_fn v396 F' (by rw [hi]; rfl) (st_nil hi) ⟨bslc_ok hi (by rw [h0, hρ]; exact rowF32_ok hs (DVs.okAt ha 0 rfl) hv396), trivial⟩ hy⟩) rfl rfl
  · cases hr
/-! (impl.Matrix).row -/
noncomputable def impl_Matrix_row_LO (v392 : Int) (v393 : Int) (v394 : List Nat) (v395 : Int) : LOr := fun id e L =>
  match id with
  | _ => .fail
noncomputable def impl_Matrix_row_tab : List (FuncId × DFn × Bool) := [(148, slices_CloneF_F, true)]
theorem impl_Matrix_row_hO : OrcOk Try.prog (tabD impl_Matrix_row_tab) (tabM impl_Matrix_row_tab) := tabD_cons slices_CloneF_Fok (tabD_nil _)
noncomputable def impl_Matrix_row_T (v393 : Int) (v394 : List Nat) (v395 : Int) : Tree (Unit) :=
  (.grd (sok (IntKind.i64.wrap (v395 * v393)) (IntKind.i64.wrap ((IntKind.i64.wrap (v395 + (1 : Int))) * v393)) v394.length) <|
  (.call (slices_CloneF_g (AM.sub v394 (IntKind.i64.wrap (v395 * v393)) (IntKind.i64.wrap ((IntKind.i64.wrap (v395 + (1 : Int))) * v393)))) fun v397 =>
  .leaf ()))

noncomputable def impl_Matrix_row_g (v393 : Int) (v394 : List Nat) (v395 : Int) : Option (Unit) := (impl_Matrix_row_T v393 v394 v395).run
def impl_Matrix_row_enc (v392 : Int) (v393 : Int) (v394 : List Nat) (v395 : Int) (y : Unit) : Rs := (.own 0 0 ((([] : List Nat) ++ (AM.sub v394 (IntKind.i64.wrap (v395 * v393)) (IntKind.i64.wrap ((IntKind.i64.wrap (v395 + (1 : Int))) * v393)))).length), [.row (.f32 (([] : List Nat) ++ (AM.sub v394 (IntKind.i64.wrap (v395 * v393)) (IntKind.i64.wrap ((IntKind.i64.wrap (v395 + (1 : Int))) * v393))))) 0])
theorem impl_Matrix_row_den (v392 : Int) (v393 : Int) (v394 : List Nat) (v395 : Int) : (den TT (tabD impl_Matrix_row_tab) (tabM impl_Matrix_row_tab) (impl_Matrix_row_LO v392 v393 v394 v395) (codeOf Try.f151) ([.agg [.int .i64 v392, .int .i64 v393, .bslc (BR.root 0) (.f32 v394)], .int .i64 v395] ++ List.replicate (Try.f151.ntmps - ([.agg [.int .i64 v392, .int .i64 v393, .bslc (BR.root 0) (.f32 v394)], .int .i64 v395] : List DV).length) .undef) []).bind (retD TT Try.f151.results.toList 0) = (impl_Matrix_row_T v393 v394 v395).bind fun y => .leaf (impl_Matrix_row_enc v392 v393 v394 v395 y) := by kernel_rfl
theorem impl_Matrix_row_fn (v392 : Int) (v393 : Int) (v394 : List Nat) (v395 : Int) (F : Fr) (hm : F.ids.length = 0) (h0 : St F [] F.H0) (hA : DVs.Ok F [] [.agg [.int .i64 v392, .int .i64 v393, .bslc (BR.root 0) (.f32 v394)], .int .i64 v395]) {y : Unit} (hy : impl_Matrix_row_g v393 v394 v395 = some y) : ∃ H', FnOk Try.prog 151 (DVs.av F [.agg [.int .i64 v392, .int .i64 v393, .bslc (BR.root 0) (.f32 v394)], .int .i64 v395]) F.H0 ((impl_Matrix_row_enc v392 v393 v394 v395 y).1.av F) H' ∧ St F (impl_Matrix_row_enc v392 v393 v394 v395 y).2 H' ∧ (impl_Matrix_row_enc v392 v393 v394 v395 y).1.Ok F (impl_Matrix_row_enc v392 v393 v394 v395 y).2 :=
  fn_fin tok impl_Matrix_row_hO mixed Try.func151 Try.call151 (by kernel_rfl) (LoopsOk_eq (l := []) (by kernel_rfl) trivial) (impl_Matrix_row_den v392 v393 v394 v395) hy hm h0 hA
noncomputable def impl_Matrix_row_F : DFn := fun args L =>
  match args with
  | [.agg [.int .i64 v392, .int .i64 v393, a1], .int .i64 v395] =>
    optT (rowF32 L a1) fun v394 =>
    .call (impl_Matrix_row_g v393 v394 v395) fun y => .leaf (.own (L.length + 0) 0 ((([] : List Nat) ++ (AM.sub v394 (IntKind.i64.wrap (v395 * v393)) (IntKind.i64.wrap ((IntKind.i64.wrap (v395 + (1 : Int))) * v393)))).length), L ++ [.row (.f32 (([] : List Nat) ++ (AM.sub v394 (IntKind.i64.wrap (v395 * v393)) (IntKind.i64.wrap ((IntKind.i64.wrap (v395 + (1 : Int))) * v393))))) 0])
  | _ => .fail
theorem impl_Matrix_row_Fok : COk Try.prog 151 impl_Matrix_row_F true := by
  intro F L H args r L' hs ha hr
  unfold impl_Matrix_row_F at hr
  split at hr
  · rename_i v392 v393 a1 v395
    obtain ⟨v394, hv394, hr⟩ := optT_run hr
    simp only [Tree.run] at hr
    obtain ⟨y, hy, hr⟩ := Option.bind_eq_some_iff.1 hr
    simp only [Tree.run, Option.some.injEq, Prod.mk.injEq] at hr
    obtain ⟨rfl, rfl⟩ := hr
    exact call_ok1 hs (fun k => (([a1.av F] : List AV)[k]?).getD .top) [.agg [.int .i64 v392, .int .i64 v393, a1], .int .i64 v395] [.agg [.int .i64 v392, .int .i64 v393, .bslc (BR.root 0) (.f32 v394)], .int .i64 v395] (fun F' h0 hi hρ => ⟨by simp [DVs.av, DV.av, BR.av, hρ], impl_Matrix_row_fn v392 v393 v394 v395 F' (by rw [hi]; rfl) (st_nil hi) ⟨⟨trivial, trivial, bslc_ok hi (by rw [h0, hρ]; exact rowF32_ok hs (DVs.okAt (DVs.okAt ha 0 rfl) 2 rfl) hv394), trivial⟩, trivial, trivial⟩ hy⟩) rfl rfl
  · cases hr
/-! impl.mul -/
noncomputable def impl_mul_LO (v403 : Nat) (v404 : Nat) : LOr := fun id e L =>
  match id with
  | _ => .fail
noncomputable def impl_mul_tab : List (FuncId × DFn × Bool) := []
theorem impl_mul_hO : OrcOk Try.prog (tabD impl_mul_tab) (tabM impl_mul_tab) := tabD_nil _
noncomputable def impl_mul_T (v403 : Nat) (v404 : Nat) : Tree (Nat) :=
  .leaf (fmul .f32 v403 v404)

noncomputable def impl_mul_g (v403 : Nat) (v404 : Nat) : Option (Nat) := (impl_mul_T v403 v404).run
def impl_mul_enc (v403 : Nat) (v404 : Nat) (y : Nat) : Rs := (.flt .f32 y, [])
theorem impl_mul_den (v403 : Nat) (v404 : Nat) : (den TT (tabD impl_mul_tab) (tabM impl_mul_tab) (impl_mul_LO v403 v404) (codeOf Try.f96) ([.flt .f32 v403, .flt .f32 v404] ++ List.replicate (Try.f96.ntmps - ([.flt .f32 v403, .flt .f32 v404] : List DV).length) .undef) []).bind (retD TT Try.f96.results.toList 0) = (impl_mul_T v403 v404).bind fun y => .leaf (impl_mul_enc v403 v404 y) := by kernel_rfl
theorem impl_mul_fn (v403 : Nat) (v404 : Nat) (F : Fr) (hm : F.ids.length = 0) (h0 : St F [] F.H0) (hA : DVs.Ok F [] [.flt .f32 v403, .flt .f32 v404]) {y : Nat} (hy : impl_mul_g v403 v404 = some y) : ∃ H', FnOk Try.prog 96 (DVs.av F [.flt .f32 v403, .flt .f32 v404]) F.H0 ((impl_mul_enc v403 v404 y).1.av F) H' ∧ St F (impl_mul_enc v403 v404 y).2 H' ∧ (impl_mul_enc v403 v404 y).1.Ok F (impl_mul_enc v403 v404 y).2 :=
  fn_fin tok impl_mul_hO mixed Try.func96 Try.call96 (by kernel_rfl) (LoopsOk_eq (l := []) (by kernel_rfl) trivial) (impl_mul_den v403 v404) hy hm h0 hA
def impl_mul_v (v403 : Nat) (v404 : Nat) : Nat :=
  fmul .f32 v403 v404
theorem impl_mul_tot (v403 : Nat) (v404 : Nat) : impl_mul_g v403 v404 = some (impl_mul_v v403 v404) := by
  unfold impl_mul_g impl_mul_T impl_mul_v
  simp only [Tree.run]
  repeat' (first | rfl | split)
noncomputable def impl_mul_F : DFn := fun args L =>
  match args with
  | [.flt .f32 v403, .flt .f32 v404] =>
    .leaf (.flt .f32 (impl_mul_v v403 v404), L)
  | _ => .fail
theorem impl_mul_Fok : COk Try.prog 96 impl_mul_F true := by
  intro F L H args r L' hs ha hr
  unfold impl_mul_F at hr
  split at hr
  · rename_i v403 v404
    have hy := impl_mul_tot v403 v404
    generalize impl_mul_v v403 v404 = y at hy hr
    simp only [Tree.run, Option.some.injEq, Prod.mk.injEq] at hr
    obtain ⟨rfl, rfl⟩ := hr
    exact call_ok0 hs (fun k => (([] : List AV)[k]?).getD .top) [.flt .f32 v403, .flt .f32 v404] [.flt .f32 v403, .flt .f32 v404] (fun F' h0 hi hρ => ⟨by simp [DVs.av, DV.av, BR.av, hρ], impl_mul_fn v403 v404 F' (by rw [hi]; rfl) (st_nil hi) ⟨trivial, trivial, trivial⟩ hy⟩) rfl
  · cases hr
/-! impl.dot -/
noncomputable def impl_dot_l0_T (v399 : List Nat) (v400 : List Nat) (s : Nat × Int) : Tree ((Nat × Int) ⊕ (Nat)) :=
  (.br (decide (s.2 < ((v399.length : Nat) : Int))) (
   (.grd (inb s.2 v399.length) <|
   (.grd (inb s.2 v400.length) <|
   .leaf (.inl (fadd .f32 s.1 (impl_mul_v (nth v399 (Int.toNat s.2)) (nth v400 (Int.toNat s.2))), IntKind.i64.wrap (s.2 + (1 : Int))))))
  ) (
   .leaf (.inr s.1)
  ))

noncomputable def impl_dot_l0_g (v399 : List Nat) (v400 : List Nat) (s0 : Nat × Int) : Option (Nat) := whileM (fun s => (impl_dot_l0_T v399 v400 s).run) s0
def impl_dot_l0_E (v399 : List Nat) (v400 : List Nat) (s : Nat × Int) : Sd := ([.top, .bslc (BR.root 1) (.f32 v400), .top, .top, .top, .flt .f32 s.1, .top, .top, .bslc (BR.root 0) (.f32 v399), .int .i64 ((v399.length : Nat) : Int), .int .i64 s.2, .top, .top, .top, .top, .top, .top, .top, .top, .top, .top, .top, .top, .top, .top], [])
def impl_dot_l0_X (v399 : List Nat) (v400 : List Nat) (x : Nat) : Out := (.normal, [.top, .top, .top, .top, .top, .flt .f32 x, .top, .top, .top, .top, .top, .top, .top, .top, .top, .top, .top, .top, .top, .top, .top, .top, .top, .top, .top], [])
def impl_dot_l0_kill : List Nat := [1, 0, 1, 1, 1, 0, 1, 1, 0, 0, 0, 1, 1, 1, 1, 1, 1, 1, 1, 1, 1, 1, 1, 1, 1]
def impl_dot_l0_nx : Exit → List Nat
  | .exit 0 => [1, 1, 1, 1, 1, 0, 1, 1, 1, 1, 1, 1, 1, 1, 1, 1, 1, 1, 1, 1, 1, 1, 1, 1, 1]
  | .ret => [1, 1, 1, 1, 0, 1, 1, 1, 1, 1, 1, 1, 1, 1, 1, 1, 1, 1, 1, 1, 1, 1, 1, 1, 1]
  | _ => []
noncomputable def impl_dot_LO (v399 : List Nat) (v400 : List Nat) : LOr := fun id e L =>
  match id with
  | 0 => .need (normA 0 impl_dot_l0_kill e L = some (impl_dot_l0_E v399 v400 ((gF (vAt e 5)), (gI (vAt e 10))))) (.call (impl_dot_l0_g v399 v400 ((gF (vAt e 5)), (gI (vAt e 10)))) fun x => .leaf (impl_dot_l0_X v399 v400 x))
  | _ => .fail
noncomputable def impl_dot_tab : List (FuncId × DFn × Bool) := [(96, impl_mul_F, true)]
theorem impl_dot_hO : OrcOk Try.prog (tabD impl_dot_tab) (tabM impl_dot_tab) := tabD_cons impl_mul_Fok (tabD_nil _)
theorem impl_dot_l0_be (v399 : List Nat) (v400 : List Nat) (s : Nat × Int) : bodyT TT (tabD impl_dot_tab) (tabM impl_dot_tab) (impl_dot_LO v399 v400) 0 impl_dot_l0_kill impl_dot_l0_nx (bodyOf Try.f150 0) 0 (impl_dot_l0_E v399 v400 s) = (impl_dot_l0_T v399 v400 s).bind fun y => .leaf (outS (impl_dot_l0_E v399 v400) (impl_dot_l0_X v399 v400) y) := by kernel_rfl
theorem impl_dot_l0_ok (v399 : List Nat) (v400 : List Nat) : LSound Try.prog 0 (impl_dot_LO v399 v400) 0 (bodyOf Try.f150 0) := by
  intro e L out h
  exact lo_ok (E := impl_dot_l0_E v399 v400) (gT := impl_dot_l0_T v399 v400) (X := impl_dot_l0_X v399 v400) (s0 := ((gF (vAt e 5)), (gI (vAt e 10)))) tok impl_dot_hO mixed (LoopsOk_eq (l := []) (by kernel_rfl) trivial) (impl_dot_l0_be v399 v400) rfl (by intro x; rfl) h
noncomputable def impl_dot_T (v399 : List Nat) (v400 : List Nat) : Tree (Nat) :=
  (.need (some (impl_dot_l0_E v399 v400 ((0 : Nat), (0 : Int))) = some (impl_dot_l0_E v399 v400 ((0 : Nat), (0 : Int)))) <|
  (.call (impl_dot_l0_g v399 v400 ((0 : Nat), (0 : Int))) fun v409 =>
  .leaf v409))

noncomputable def impl_dot_g (v399 : List Nat) (v400 : List Nat) : Option (Nat) := (impl_dot_T v399 v400).run
def impl_dot_enc (v399 : List Nat) (v400 : List Nat) (y : Nat) : Rs := (.flt .f32 y, [])
theorem impl_dot_den (v399 : List Nat) (v400 : List Nat) : (den TT (tabD impl_dot_tab) (tabM impl_dot_tab) (impl_dot_LO v399 v400) (codeOf Try.f150) ([.bslc (BR.root 0) (.f32 v399), .bslc (BR.root 1) (.f32 v400)] ++ List.replicate (Try.f150.ntmps - ([.bslc (BR.root 0) (.f32 v399), .bslc (BR.root 1) (.f32 v400)] : List DV).length) .undef) []).bind (retD TT Try.f150.results.toList 0) = (impl_dot_T v399 v400).bind fun y => .leaf (impl_dot_enc v399 v400 y) := by kernel_rfl
theorem impl_dot_fn (v399 : List Nat) (v400 : List Nat) (F : Fr) (hm : F.ids.length = 0) (h0 : St F [] F.H0) (hA : DVs.Ok F [] [.bslc (BR.root 0) (.f32 v399), .bslc (BR.root 1) (.f32 v400)]) {y : Nat} (hy : impl_dot_g v399 v400 = some y) : ∃ H', FnOk Try.prog 150 (DVs.av F [.bslc (BR.root 0) (.f32 v399), .bslc (BR.root 1) (.f32 v400)]) F.H0 ((impl_dot_enc v399 v400 y).1.av F) H' ∧ St F (impl_dot_enc v399 v400 y).2 H' ∧ (impl_dot_enc v399 v400 y).1.Ok F (impl_dot_enc v399 v400 y).2 :=
  fn_fin tok impl_dot_hO mixed Try.func150 Try.call150 (by kernel_rfl) (LoopsOk_eq (l := [(0, bodyOf Try.f150 0)]) (by kernel_rfl) ⟨impl_dot_l0_ok v399 v400, trivial⟩) (impl_dot_den v399 v400) hy hm h0 hA
noncomputable def impl_dot_F : DFn := fun args L =>
  match args with
  | [a1, a2] =>
    optT (rowF32 L a1) fun v399 =>
    optT (rowF32 L a2) fun v400 =>
    .call (impl_dot_g v399 v400) fun y => .leaf (.flt .f32 y, L)
  | _ => .fail
theorem impl_dot_Fok : COk Try.prog 150 impl_dot_F true := by
  intro F L H args r L' hs ha hr
  unfold impl_dot_F at hr
  split at hr
  · rename_i a1 a2
    obtain ⟨v399, hv399, hr⟩ := optT_run hr
    obtain ⟨v400, hv400, hr⟩ := optT_run hr
    simp only [Tree.run] at hr
    obtain ⟨y, hy, hr⟩ := Option.bind_eq_some_iff.1 hr
    simp only [Tree.run, Option.some.injEq, Prod.mk.injEq] at hr
    obtain ⟨rfl, rfl⟩ := hr
    exact call_ok0 hs (fun k => (([a1.av F, a2.av F] : List AV)[k]?).getD .top) [a1, a2] [.bslc (BR.root 0) (.f32 v399), .bslc (BR.root 1) (.f32 v400)] (fun F' h0 hi hρ => ⟨by simp [DVs.av, DV.av, BR.av, hρ], impl_dot_fn v399 v400 F' (by rw [hi]; rfl) (st_nil hi) ⟨bslc_ok hi (by rw [h0, hρ]; exact rowF32_ok hs (DVs.okAt ha 0 rfl) hv399), bslc_ok hi (by rw [h0, hρ]; exact rowF32_ok hs (DVs.okAt ha 1 rfl) hv400), trivial⟩ hy⟩) rfl
  · cases hr
/-! (impl.Matrix).timesVector -/
noncomputable def impl_Matrix_timesVector_l0_T (v387 : Int) (v388 : Int) (v389 : List Nat) (v390 : List Nat) (s : Int × (List Nat)) : Tree ((Int × (List Nat)) ⊕ ((List Nat))) :=
  (.br (decide (s.1 < v387)) (
   (.call (impl_Matrix_row_g v388 v389 s.1) fun v417 =>
   (.call (impl_dot_g (([] : List Nat) ++ (AM.sub v389 (IntKind.i64.wrap (s.1 * v388)) (IntKind.i64.wrap ((IntKind.i64.wrap (s.1 + (1 : Int))) * v388)))) v390) fun v418 =>
   (.grd (fits (s.2 ++ ([v418] : List Nat)).length) <|
   .leaf (.inl (IntKind.i64.wrap (s.1 + (1 : Int)), s.2 ++ ([v418] : List Nat))))))
  ) (
   .leaf (.inr s.2)
  ))

noncomputable def impl_Matrix_timesVector_l0_g (v387 : Int) (v388 : Int) (v389 : List Nat) (v390 : List Nat) (s0 : Int × (List Nat)) : Option ((List Nat)) := whileM (fun s => (impl_Matrix_timesVector_l0_T v387 v388 v389 v390 s).run) s0
def impl_Matrix_timesVector_l0_E (v387 : Int) (v388 : Int) (v389 : List Nat) (v390 : List Nat) (s : Int × (List Nat)) : Sd := ([.top, .bslc (BR.root 1) (.f32 v390), .ptr 0 (0 : Nat) 0 (3 : Nat), .top, .top, .own 1 0 ((s.2).length), .top, .top, .top, .int .i64 v387, .int .i64 s.1, .top, .top, .top, .top, .top, .top, .top, .top, .top, .top, .top, .top], [.gen [.int .i64 v387, .int .i64 v388, .bslc (BR.root 0) (.f32 v389)] false 0, .row (.f32 s.2) 0])
def impl_Matrix_timesVector_l0_X (v387 : Int) (v388 : Int) (v389 : List Nat) (v390 : List Nat) (x : (List Nat)) : Out := (.normal, [.top, .top, .top, .top, .top, .own 0 0 ((x).length), .top, .top, .top, .top, .top, .top, .top, .top, .top, .top, .top, .top, .top, .top, .top, .top, .top], [.row (.f32 x) 0])
def impl_Matrix_timesVector_l0_kill : List Nat := [1, 0, 0, 1, 1, 0, 1, 1, 1, 0, 0, 1, 1, 1, 1, 1, 1, 1, 1, 1, 1, 1, 1]
def impl_Matrix_timesVector_l0_nx : Exit → List Nat
  | .exit 0 => [1, 1, 1, 1, 1, 0, 1, 1, 1, 1, 1, 1, 1, 1, 1, 1, 1, 1, 1, 1, 1, 1, 1]
  | .ret => [1, 1, 1, 1, 0, 1, 1, 1, 1, 1, 1, 1, 1, 1, 1, 1, 1, 1, 1, 1, 1, 1, 1]
  | _ => []
noncomputable def impl_Matrix_timesVector_LO (v387 : Int) (v388 : Int) (v389 : List Nat) (v390 : List Nat) : LOr := fun id e L =>
  match id with
  | 0 => .need (normA 0 impl_Matrix_timesVector_l0_kill e L = some (impl_Matrix_timesVector_l0_E v387 v388 v389 v390 ((gI (vAt e 10)), (gRF L (vAt e 5))))) (.call (impl_Matrix_timesVector_l0_g v387 v388 v389 v390 ((gI (vAt e 10)), (gRF L (vAt e 5)))) fun x => .leaf (impl_Matrix_timesVector_l0_X v387 v388 v389 v390 x))
  | _ => .fail
noncomputable def impl_Matrix_timesVector_tab : List (FuncId × DFn × Bool) := [(151, impl_Matrix_row_F, true), (150, impl_dot_F, true)]
theorem impl_Matrix_timesVector_hO : OrcOk Try.prog (tabD impl_Matrix_timesVector_tab) (tabM impl_Matrix_timesVector_tab) := tabD_cons impl_Matrix_row_Fok (tabD_cons impl_dot_Fok (tabD_nil _))
theorem impl_Matrix_timesVector_l0_be (v387 : Int) (v388 : Int) (v389 : List Nat) (v390 : List Nat) (s : Int × (List Nat)) : bodyT TT (tabD impl_Matrix_timesVector_tab) (tabM impl_Matrix_timesVector_tab) (impl_Matrix_timesVector_LO v387 v388 v389 v390) 0 impl_Matrix_timesVector_l0_kill impl_Matrix_timesVector_l0_nx (bodyOf Try.f99 0) 0 (impl_Matrix_timesVector_l0_E v387 v388 v389 v390 s) = (impl_Matrix_timesVector_l0_T v387 v388 v389 v390 s).bind fun y => .leaf (outS (impl_Matrix_timesVector_l0_E v387 v388 v389 v390) (impl_Matrix_timesVector_l0_X v387 v388 v389 v390) y) := by kernel_rfl
theorem impl_Matrix_timesVector_l0_ok (v387 : Int) (v388 : Int) (v389 : List Nat) (v390 : List Nat) : LSound Try.prog 0 (impl_Matrix_timesVector_LO v387 v388 v389 v390) 0 (bodyOf Try.f99 0) := by
  intro e L out h
  exact lo_ok (E := impl_Matrix_timesVector_l0_E v387 v388 v389 v390) (gT := impl_Matrix_timesVector_l0_T v387 v388 v389 v390) (X := impl_Matrix_timesVector_l0_X v387 v388 v389 v390) (s0 := ((gI (vAt e 10)), (gRF L (vAt e 5)))) tok impl_Matrix_timesVector_hO mixed (LoopsOk_eq (l := []) (by kernel_rfl) trivial) (impl_Matrix_timesVector_l0_be v387 v388 v389 v390) rfl (by intro x; rfl) h
noncomputable def impl_Matrix_timesVector_T (v387 : Int) (v388 : Int) (v389 : List Nat) (v390 : List Nat) : Tree ((List Nat)) :=
  (.need (some (impl_Matrix_timesVector_l0_E v387 v388 v389 v390 ((0 : Int), ([] : List Nat))) = some (impl_Matrix_timesVector_l0_E v387 v388 v389 v390 ((0 : Int), ([] : List Nat)))) <|
  (.call (impl_Matrix_timesVector_l0_g v387 v388 v389 v390 ((0 : Int), ([] : List Nat))) fun v419 =>
  .leaf v419))

noncomputable def impl_Matrix_timesVector_g (v387 : Int) (v388 : Int) (v389 : List Nat) (v390 : List Nat) : Option ((List Nat)) := (impl_Matrix_timesVector_T v387 v388 v389 v390).run
def impl_Matrix_timesVector_enc (v387 : Int) (v388 : Int) (v389 : List Nat) (v390 : List Nat) (y : (List Nat)) : Rs := (.own 0 0 ((y).length), [.row (.f32 y) 0])
theorem impl_Matrix_timesVector_den (v387 : Int) (v388 : Int) (v389 : List Nat) (v390 : List Nat) : (den TT (tabD impl_Matrix_timesVector_tab) (tabM impl_Matrix_timesVector_tab) (impl_Matrix_timesVector_LO v387 v388 v389 v390) (codeOf Try.f99) ([.agg [.int .i64 v387, .int .i64 v388, .bslc (BR.root 0) (.f32 v389)], .bslc (BR.root 1) (.f32 v390)] ++ List.replicate (Try.f99.ntmps - ([.agg [.int .i64 v387, .int .i64 v388, .bslc (BR.root 0) (.f32 v389)], .bslc (BR.root 1) (.f32 v390)] : List DV).length) .undef) []).bind (retD TT Try.f99.results.toList 0) = (impl_Matrix_timesVector_T v387 v388 v389 v390).bind fun y => .leaf (impl_Matrix_timesVector_enc v387 v388 v389 v390 y) := by kernel_rfl
theorem impl_Matrix_timesVector_fn (v387 : Int) (v388 : Int) (v389 : List Nat) (v390 : List Nat) (F : Fr) (hm : F.ids.length = 0) (h0 : St F [] F.H0) (hA : DVs.Ok F [] [.agg [.int .i64 v387, .int .i64 v388, .bslc (BR.root 0) (.f32 v389)], .bslc (BR.root 1) (.f32 v390)]) {y : (List Nat)} (hy : impl_Matrix_timesVector_g v387 v388 v389 v390 = some y) : ∃ H', FnOk Try.prog 99 (DVs.av F [.agg [.int .i64 v387, .int .i64 v388, .bslc (BR.root 0) (.f32 v389)], .bslc (BR.root 1) (.f32 v390)]) F.H0 ((impl_Matrix_timesVector_enc v387 v388 v389 v390 y).1.av F) H' ∧ St F (impl_Matrix_timesVector_enc v387 v388 v389 v390 y).2 H' ∧ (impl_Matrix_timesVector_enc v387 v388 v389 v390 y).1.Ok F (impl_Matrix_timesVector_enc v387 v388 v389 v390 y).2 :=
  fn_fin tok impl_Matrix_timesVector_hO mixed Try.func99 Try.call99 (by kernel_rfl) (LoopsOk_eq (l := [(0, bodyOf Try.f99 0)]) (by kernel_rfl) ⟨impl_Matrix_timesVector_l0_ok v387 v388 v389 v390, trivial⟩) (impl_Matrix_timesVector_den v387 v388 v389 v390) hy hm h0 hA
noncomputable def impl_Matrix_timesVector_F : DFn := fun args L =>
  match args with
  | [.agg [.int .i64 v387, .int .i64 v388, a1], a2] =>
    optT (rowF32 L a1) fun v389 =>
    optT (rowF32 L a2) fun v390 =>
    .call (impl_Matrix_timesVector_g v387 v388 v389 v390) fun y => .leaf (.own (L.length + 0) 0 ((y).length), L ++ [.row (.f32 y) 0])
  | _ => .fail
theorem impl_Matrix_timesVector_Fok : COk Try.prog 99 impl_Matrix_timesVector_F true := by
  intro F L H args r L' hs ha hr
  unfold impl_Matrix_timesVector_F at hr
  split at hr
  · rename_i v387 v388 a1 a2
    obtain ⟨v389, hv389, hr⟩ := optT_run hr
    obtain ⟨v390, hv390, hr⟩ := optT_run hr
    simp only [Tree.run] at hr
    obtain ⟨y, hy, hr⟩ := Option.bind_eq_some_iff.1 hr
    simp only [Tree.run, Option.some.injEq, Prod.mk.injEq] at hr
    obtain ⟨rfl, rfl⟩ := hr
    exact call_ok1 hs (fun k => (([a1.av F, a2.av F] : List AV)[k]?).getD .top) [.agg [.int .i64 v387, .int .i64 v388, a1], a2] [.agg [.int .i64 v387, .int .i64 v388, .bslc (BR.root 0) (.f32 v389)], .bslc (BR.root 1) (.f32 v390)] (fun F' h0 hi hρ => ⟨by simp [DVs.av, DV.av, BR.av, hρ], impl_Matrix_timesVector_fn v387 v388 v389 v390 F' (by rw [hi]; rfl) (st_nil hi) ⟨⟨trivial, trivial, bslc_ok hi (by rw [h0, hρ]; exact rowF32_ok hs (DVs.okAt (DVs.okAt ha 0 rfl) 2 rfl) hv389), trivial⟩, bslc_ok hi (by rw [h0, hρ]; exact rowF32_ok hs (DVs.okAt ha 1 rfl) hv390), trivial⟩ hy⟩) rfl rfl
  · cases hr
/-! impl.allFinite -/
noncomputable def impl_allFinite_LO (v421 : List Nat) : LOr := fun id e L =>
  match id with
  | _ => .fail
noncomputable def impl_allFinite_tab : List (FuncId × DFn × Bool) := [(94, impl_areFinite_F, true)]
theorem impl_allFinite_hO : OrcOk Try.prog (tabD impl_allFinite_tab) (tabM impl_allFinite_tab) := tabD_cons impl_areFinite_Fok (tabD_nil _)
noncomputable def impl_allFinite_T (v421 : List Nat) : Tree ((Unit) ⊕ (Unit)) :=
  (.call (impl_areFinite_g v421) fun v422 =>
  (.br (!v422) (
   .leaf (.inl ())
  ) (
   .leaf (.inr ())
  )))

noncomputable def impl_allFinite_g (v421 : List Nat) : Option ((Unit) ⊕ (Unit)) := (impl_allFinite_T v421).run
def impl_allFinite_enc (v421 : List Nat) (y : (Unit) ⊕ (Unit)) : Rs := (match y with | .inl y => (.tup [.nilslc, .lit false], []) | .inr y => (.tup [.bslc (BR.root 0) (.f32 v421), .lit true], []))
theorem impl_allFinite_den (v421 : List Nat) : (den TT (tabD impl_allFinite_tab) (tabM impl_allFinite_tab) (impl_allFinite_LO v421) (codeOf Try.f97) ([.bslc (BR.root 0) (.f32 v421)] ++ List.replicate (Try.f97.ntmps - ([.bslc (BR.root 0) (.f32 v421)] : List DV).length) .undef) []).bind (retD TT Try.f97.results.toList 0) = (impl_allFinite_T v421).bind fun y => .leaf (impl_allFinite_enc v421 y) := by kernel_rfl
theorem impl_allFinite_fn (v421 : List Nat) (F : Fr) (hm : F.ids.length = 0) (h0 : St F [] F.H0) (hA : DVs.Ok F [] [.bslc (BR.root 0) (.f32 v421)]) {y : (Unit) ⊕ (Unit)} (hy : impl_allFinite_g v421 = some y) : ∃ H', FnOk Try.prog 97 (DVs.av F [.bslc (BR.root 0) (.f32 v421)]) F.H0 ((impl_allFinite_enc v421 y).1.av F) H' ∧ St F (impl_allFinite_enc v421 y).2 H' ∧ (impl_allFinite_enc v421 y).1.Ok F (impl_allFinite_enc v421 y).2 :=
  fn_fin tok impl_allFinite_hO mixed Try.func97 Try.call97 (by kernel_rfl) (LoopsOk_eq (l := []) (by kernel_rfl) trivial) (impl_allFinite_den v421) hy hm h0 hA
noncomputable def impl_allFinite_F : DFn := fun args L =>
  match args with
  | [a1] =>
    optT (rowF32 L a1) fun v421 =>
    .call (impl_allFinite_g v421) fun y => .sum y (fun y0 => .leaf (.tup [.nilslc, .lit false], L)) (fun z0 => .leaf (.tup [a1, .lit true], L))
  | _ => .fail
theorem impl_allFinite_Fok : COk Try.prog 97 impl_allFinite_F true := by
  intro F L H args r L' hs ha hr
  unfold impl_allFinite_F at hr
  split at hr
  · rename_i a1
    obtain ⟨v421, hv421, hr⟩ := optT_run hr
    simp only [Tree.run] at hr
    obtain ⟨y, hy, hr⟩ := Option.bind_eq_some_iff.1 hr
    cases y with
    | inl y =>
      simp only [Tree.run, Option.some.injEq, Prod.mk.injEq] at hr
      obtain ⟨rfl, rfl⟩ := hr
      exact call_ok0 hs (fun k => (([a1.av F] : List AV)[k]?).getD .top) [a1] [.bslc (BR.root 0) (.f32 v421)] (fun F' h0 hi hρ => ⟨by simp [DVs.av, DV.av, BR.av, hρ], impl_allFinite_fn v421 F' (by rw [hi]; rfl) (st_nil hi) ⟨bslc_ok hi (by rw [h0, hρ]; exact rowF32_ok hs (DVs.okAt ha 0 rfl) hv421), trivial⟩ hy⟩) rfl
    | inr y =>
      simp only [Tree.run, Option.some.injEq, Prod.mk.injEq] at hr
      obtain ⟨rfl, rfl⟩ := hr
      exact call_al0 hs (fun k => (([a1.av F] : List AV)[k]?).getD .top) [a1] [.bslc (BR.root 0) (.f32 v421)] (fun F' h0 hi hρ => ⟨by simp [DVs.av, DV.av, BR.av, hρ], impl_allFinite_fn v421 F' (by rw [hi]; rfl) (st_nil hi) ⟨bslc_ok hi (by rw [h0, hρ]; exact rowF32_ok hs (DVs.okAt ha 0 rfl) hv421), trivial⟩ hy⟩) (fun F' h0 hi hρ => by simp [impl_allFinite_enc, DVs.av, DV.av, BR.av, hρ]) ⟨(DVs.okAt ha 0 rfl), trivial, trivial⟩
  · cases hr
/-! impl.ShiftTimes -/
noncomputable def impl_ShiftTimes_LO (v382 : List Nat) (v383 : List Nat) : LOr := fun id e L =>
  match id with
  | _ => .fail
noncomputable def impl_ShiftTimes_tab : List (FuncId × DFn × Bool) := [(88, impl_isList_F, true), (94, impl_areFinite_F, true), (89, impl_shift_F, true), (99, impl_Matrix_timesVector_F, true), (97, impl_allFinite_F, true)]
theorem impl_ShiftTimes_hO : OrcOk Try.prog (tabD impl_ShiftTimes_tab) (tabM impl_ShiftTimes_tab) := tabD_cons impl_isList_Fok (tabD_cons impl_areFinite_Fok (tabD_cons impl_shift_Fok (tabD_cons impl_Matrix_timesVector_Fok (tabD_cons impl_allFinite_Fok (tabD_nil _)))))
noncomputable def impl_ShiftTimes_T (v382 : List Nat) (v383 : List Nat) : Tree ((Unit) ⊕ ((List Nat))) :=
  (.call (impl_isList_g v382 (12 : Int)) fun v384 =>
  (.br (!v384) (
   .leaf (.inl ())
  ) (
   (.br (!decide (((v383.length : Nat) : Int) = ((v382.length : Nat) : Int))) (
    .leaf (.inl ())
   ) (
    (.call (impl_areFinite_g v383) fun v385 =>
    (.br (!v385) (
     .leaf (.inl ())
    ) (
     (.call (impl_shift_g v382) fun v386 =>
     (.call (impl_Matrix_timesVector_g v386.1 v386.2.1 v386.2.2 v383) fun v420 =>
     (.call (impl_allFinite_g v420) fun v423 =>
     (.sum v423 (fun v424 =>
      .leaf (.inl ())
     ) (fun v425 =>
      .leaf (.inr v420)
     )))))
    )))
   ))
  )))

noncomputable def impl_ShiftTimes_g (v382 : List Nat) (v383 : List Nat) : Option ((Unit) ⊕ ((List Nat))) := (impl_ShiftTimes_T v382 v383).run
def impl_ShiftTimes_enc (v382 : List Nat) (v383 : List Nat) (y : (Unit) ⊕ ((List Nat))) : Rs := (match y with | .inl y => (.tup [.nilslc, .lit false], []) | .inr y => (.tup [.own 0 0 ((y).length), .lit true], [.row (.f32 y) 0]))
theorem impl_ShiftTimes_den (v382 : List Nat) (v383 : List Nat) : (den TT (tabD impl_ShiftTimes_tab) (tabM impl_ShiftTimes_tab) (impl_ShiftTimes_LO v382 v383) (codeOf Try.f40) ([.bslc (BR.root 0) (.f32 v382), .bslc (BR.root 1) (.f32 v383)] ++ List.replicate (Try.f40.ntmps - ([.bslc (BR.root 0) (.f32 v382), .bslc (BR.root 1) (.f32 v383)] : List DV).length) .undef) []).bind (retD TT Try.f40.results.toList 0) = (impl_ShiftTimes_T v382 v383).bind fun y => .leaf (impl_ShiftTimes_enc v382 v383 y) := by kernel_rfl
theorem impl_ShiftTimes_fn (v382 : List Nat) (v383 : List Nat) (F : Fr) (hm : F.ids.length = 0) (h0 : St F [] F.H0) (hA : DVs.Ok F [] [.bslc (BR.root 0) (.f32 v382), .bslc (BR.root 1) (.f32 v383)]) {y : (Unit) ⊕ ((List Nat))} (hy : impl_ShiftTimes_g v382 v383 = some y) : ∃ H', FnOk Try.prog 40 (DVs.av F [.bslc (BR.root 0) (.f32 v382), .bslc (BR.root 1) (.f32 v383)]) F.H0 ((impl_ShiftTimes_enc v382 v383 y).1.av F) H' ∧ St F (impl_ShiftTimes_enc v382 v383 y).2 H' ∧ (impl_ShiftTimes_enc v382 v383 y).1.Ok F (impl_ShiftTimes_enc v382 v383 y).2 :=
  fn_fin tok impl_ShiftTimes_hO mixed Try.func40 Try.call40 (by kernel_rfl) (LoopsOk_eq (l := []) (by kernel_rfl) trivial) (impl_ShiftTimes_den v382 v383) hy hm h0 hA
noncomputable def impl_ShiftTimes_F : DFn := fun args L =>
  match args with
  | [a1, a2] =>
    optT (rowF32 L a1) fun v382 =>
    optT (rowF32 L a2) fun v383 =>
    .call (impl_ShiftTimes_g v382 v383) fun y => .sum y (fun y0 => .leaf (.tup [.nilslc, .lit false], L)) (fun z0 => .leaf (.tup [.own (L.length + 0) 0 ((z0).length), .lit true], L ++ [.row (.f32 z0) 0]))
  | _ => .fail
theorem impl_ShiftTimes_Fok : COk Try.prog 40 impl_ShiftTimes_F true := by
  intro F L H args r L' hs ha hr
  unfold impl_ShiftTimes_F at hr
  split at hr
  · rename_i a1 a2
    obtain ⟨v382, hv382, hr⟩ := optT_run hr
    obtain ⟨v383, hv383, hr⟩ := optT_run hr
    simp only [Tree.run] at hr
    obtain ⟨y, hy, hr⟩ := Option.bind_eq_some_iff.1 hr
    cases y with
    | inl y =>
      simp only [Tree.run, Option.some.injEq, Prod.mk.injEq] at hr
      obtain ⟨rfl, rfl⟩ := hr
      exact call_ok0 hs (fun k => (([a1.av F, a2.av F] : List AV)[k]?).getD .top) [a1, a2] [.bslc (BR.root 0) (.f32 v382), .bslc (BR.root 1) (.f32 v383)] (fun F' h0 hi hρ => ⟨by simp [DVs.av, DV.av, BR.av, hρ], impl_ShiftTimes_fn v382 v383 F' (by rw [hi]; rfl) (st_nil hi) ⟨bslc_ok hi (by rw [h0, hρ]; exact rowF32_ok hs (DVs.okAt ha 0 rfl) hv382), bslc_ok hi (by rw [h0, hρ]; exact rowF32_ok hs (DVs.okAt ha 1 rfl) hv383), trivial⟩ hy⟩) rfl
    | inr y =>
      simp only [Tree.run, Option.some.injEq, Prod.mk.injEq] at hr
      obtain ⟨rfl, rfl⟩ := hr
      exact call_ok1 hs (fun k => (([a1.av F, a2.av F] : List AV)[k]?).getD .top) [a1, a2] [.bslc (BR.root 0) (.f32 v382), .bslc (BR.root 1) (.f32 v383)] (fun F' h0 hi hρ => ⟨by simp [DVs.av, DV.av, BR.av, hρ], impl_ShiftTimes_fn v382 v383 F' (by rw [hi]; rfl) (st_nil hi) ⟨bslc_ok hi (by rw [h0, hρ]; exact rowF32_ok hs (DVs.okAt ha 0 rfl) hv382), bslc_ok hi (by rw [h0, hρ]; exact rowF32_ok hs (DVs.okAt ha 1 rfl) hv383), trivial⟩ hy⟩) rfl rfl
  · cases hr
/-! laws.FnExactShiftTimes -/
noncomputable def laws_FnExactShiftTimes_LO (v340 : List Nat) (v341 : List Nat) : LOr := fun id e L =>
  match id with
  | _ => .fail
noncomputable def laws_FnExactShiftTimes_tab : List (FuncId × DFn × Bool) := [(29, laws_toFloat32S_F, true), (39, spec_ShiftTimes_F, true), (40, impl_ShiftTimes_F, true), (32, laws_eqFloat32S_F, true), (33, (orD (fun args => match args with | [.nilslc, _] => true | _ => false) laws_markFloat32S_i1_F laws_markFloat32S_F), false), (38, laws_heldFloat32S_F, true)]
theorem laws_FnExactShiftTimes_hO : OrcOk Try.prog (tabD laws_FnExactShiftTimes_tab) (tabM laws_FnExactShiftTimes_tab) := tabD_cons laws_toFloat32S_Fok (tabD_cons spec_ShiftTimes_Fok (tabD_cons impl_ShiftTimes_Fok (tabD_cons laws_eqFloat32S_Fok (tabD_cons (orD_ok (COk.weak laws_markFloat32S_i1_Fok) laws_markFloat32S_Fok) (tabD_cons laws_heldFloat32S_Fok (tabD_nil _))))))
noncomputable def laws_FnExactShiftTimes_T (v340 : List Nat) (v341 : List Nat) : Tree (Bool) :=
  (.br (decide ((1048576 : Int) < ((v340.length : Nat) : Int))) (
   .leaf true
  ) (
   (.br (decide ((1048576 : Int) < ((v341.length : Nat) : Int))) (
    .leaf true
   ) (
    (.call (laws_toFloat32S_g v340) fun v342 =>
    (.call (laws_toFloat32S_g v341) fun v343 =>
    (.call (spec_ShiftTimes_g v342 v343) fun v377 =>
    (.sum v377 (fun v378 =>
     (.call (laws_toFloat32S_g v340) fun v380 =>
     (.call (laws_toFloat32S_g v341) fun v381 =>
     (.call (impl_ShiftTimes_g v380 v381) fun v426 =>
     (.sum v426 (fun v427 =>
      (.call (laws_eqFloat32S_g ([] : List Nat) ([] : List Nat)) fun v429 =>
      (.br (!v429) (
       .leaf false
      ) (
       (.br (!(false == false)) (
        .leaf false
       ) (
        (.call (laws_toFloat32S_g v340) fun v430 =>
        (.call (laws_eqFloat32S_g v380 v430) fun v431 =>
        (.br (!v431) (
         .leaf false
        ) (
         (.call (laws_toFloat32S_g v341) fun v432 =>
         (.call (laws_eqFloat32S_g v381 v432) fun v433 =>
         (.br (!v433) (
          .leaf false
         ) (
          (.call (laws_markFloat32S_g v380 (1 : Int)) fun v434 =>
          (.grd (decide (v434.2.length = v380.length)) <|
          (.call (laws_markFloat32S_g v381 v434.1) fun v435 =>
          (.grd (decide (v435.2.length = v381.length)) <|
          (.br (decide (v435.1 < (0 : Int))) (
           .leaf false
          ) (
           (.call (laws_eqFloat32S_g ([] : List Nat) ([] : List Nat)) fun v436 =>
           (.br (!v436) (
            .leaf false
           ) (
            (.br (!(false == false)) (
             .leaf false
            ) (
             (.call (laws_markFloat32S_i1_g (1 : Int)) fun v437 =>
             (.call (laws_heldFloat32S_g ([] : List Nat) (1 : Int)) fun v438 =>
             (.br (decide (v438 < (0 : Int))) (
              .leaf false
             ) (
              (.br (!decide (v438 = v437)) (
               .leaf false
              ) (
               (.call (laws_toFloat32S_g v340) fun v439 =>
               (.call (laws_toFloat32S_g v341) fun v440 =>
               (.call (impl_ShiftTimes_g v439 v440) fun v441 =>
               (.sum v441 (fun v442 =>
                (.call (laws_eqFloat32S_g ([] : List Nat) ([] : List Nat)) fun v444 =>
                (.br (!v444) (
                 .leaf false
                ) (
                 (.br (!(false == false)) (
                  .leaf false
                 ) (
                  (.call (laws_heldFloat32S_g ([] : List Nat) (1 : Int)) fun v445 =>
                  (.br (decide (v445 < (0 : Int))) (
                   .leaf false
                  ) (
                   (.br (!decide (v445 = v437)) (
                    .leaf false
                   ) (
                    .leaf true
                   ))
                  )))
                 ))
                )))
               ) (fun v443 =>
                (.call (laws_eqFloat32S_g v443 ([] : List Nat)) fun v446 =>
                (.br (!v446) (
                 .leaf false
                ) (
                 (.br (!(true == false)) (
                  .leaf false
                 ) (
                  (.call (laws_heldFloat32S_g ([] : List Nat) (1 : Int)) fun v447 =>
                  (.br (decide (v447 < (0 : Int))) (
                   .leaf false
                  ) (
                   (.br (!decide (v447 = v437)) (
                    .leaf false
                   ) (
                    .leaf true
                   ))
                  )))
                 ))
                )))
               )))))
              ))
             ))))
            ))
           )))
          ))))))
         ))))
        ))))
       ))
      )))
     ) (fun v428 =>
      (.call (laws_eqFloat32S_g v428 ([] : List Nat)) fun v448 =>
      (.br (!v448) (
       .leaf false
      ) (
       (.br (!(true == false)) (
        .leaf false
       ) (
        (.call (laws_toFloat32S_g v340) fun v449 =>
        (.call (laws_eqFloat32S_g v380 v449) fun v450 =>
        (.br (!v450) (
         .leaf false
        ) (
         (.call (laws_toFloat32S_g v341) fun v451 =>
         (.call (laws_eqFloat32S_g v381 v451) fun v452 =>
         (.br (!v452) (
          .leaf false
         ) (
          (.call (laws_markFloat32S_g v380 (1 : Int)) fun v453 =>
          (.grd (decide (v453.2.length = v380.length)) <|
          (.call (laws_markFloat32S_g v381 v453.1) fun v454 =>
          (.grd (decide (v454.2.length = v381.length)) <|
          (.br (decide (v454.1 < (0 : Int))) (
           .leaf false
          ) (
           (.call (laws_eqFloat32S_g v428 ([] : List Nat)) fun v455 =>
           (.br (!v455) (
            .leaf false
           ) (
            (.br (!(true == false)) (
             .leaf false
            ) (
             (.call (laws_markFloat32S_g v428 (1 : Int)) fun v456 =>
             (.grd (decide (v456.2.length = v428.length)) <|
             (.call (laws_heldFloat32S_g v456.2 (1 : Int)) fun v457 =>
             (.br (decide (v457 < (0 : Int))) (
              .leaf false
             ) (
              (.br (!decide (v457 = v456.1)) (
               .leaf false
              ) (
               (.call (laws_toFloat32S_g v340) fun v458 =>
               (.call (laws_toFloat32S_g v341) fun v459 =>
               (.call (impl_ShiftTimes_g v458 v459) fun v460 =>
               (.sum v460 (fun v461 =>
                (.call (laws_eqFloat32S_g ([] : List Nat) ([] : List Nat)) fun v463 =>
                (.br (!v463) (
                 .leaf false
                ) (
                 (.br (!(false == false)) (
                  .leaf false
                 ) (
                  (.call (laws_heldFloat32S_g v456.2 (1 : Int)) fun v464 =>
                  (.br (decide (v464 < (0 : Int))) (
                   .leaf false
                  ) (
                   (.br (!decide (v464 = v456.1)) (
                    .leaf false
                   ) (
                    .leaf true
                   ))
                  )))
                 ))
                )))
               ) (fun v462 =>
                (.call (laws_eqFloat32S_g v462 ([] : List Nat)) fun v465 =>
                (.br (!v465) (
                 .leaf false
                ) (
                 (.br (!(true == false)) (
                  .leaf false
                 ) (
                  (.call (laws_heldFloat32S_g v456.2 (1 : Int)) fun v466 =>
                  (.br (decide (v466 < (0 : Int))) (
                   .leaf false
                  ) (
                   (.br (!decide (v466 = v456.1)) (
                    .leaf false
                   ) (
                    .leaf true
                   ))
                  )))
                 ))
                )))
               )))))
              ))
             )))))
            ))
           )))
          ))))))
         ))))
        ))))
       ))
      )))
     )))))
    ) (fun v379 =>
     (.call (laws_toFloat32S_g v340) fun v467 =>
     (.call (laws_toFloat32S_g v341) fun v468 =>
     (.call (impl_ShiftTimes_g v467 v468) fun v469 =>
     (.sum v469 (fun v470 =>
      (.call (laws_eqFloat32S_g ([] : List Nat) v379) fun v472 =>
      (.br (!v472) (
       .leaf false
      ) (
       (.br (!(false == true)) (
        .leaf false
       ) (
        (.call (laws_toFloat32S_g v340) fun v473 =>
        (.call (laws_eqFloat32S_g v467 v473) fun v474 =>
        (.br (!v474) (
         .leaf false
        ) (
         (.call (laws_toFloat32S_g v341) fun v475 =>
         (.call (laws_eqFloat32S_g v468 v475) fun v476 =>
         (.br (!v476) (
          .leaf false
         ) (
          (.call (laws_markFloat32S_g v467 (1 : Int)) fun v477 =>
          (.grd (decide (v477.2.length = v467.length)) <|
          (.call (laws_markFloat32S_g v468 v477.1) fun v478 =>
          (.grd (decide (v478.2.length = v468.length)) <|
          (.br (decide (v478.1 < (0 : Int))) (
           .leaf false
          ) (
           (.call (laws_eqFloat32S_g ([] : List Nat) v379) fun v479 =>
           (.br (!v479) (
            .leaf false
           ) (
            (.br (!(false == true)) (
             .leaf false
            ) (
             (.call (laws_markFloat32S_i1_g (1 : Int)) fun v480 =>
             (.call (laws_heldFloat32S_g ([] : List Nat) (1 : Int)) fun v481 =>
             (.br (decide (v481 < (0 : Int))) (
              .leaf false
             ) (
              (.br (!decide (v481 = v480)) (
               .leaf false
              ) (
               (.call (laws_toFloat32S_g v340) fun v482 =>
               (.call (laws_toFloat32S_g v341) fun v483 =>
               (.call (impl_ShiftTimes_g v482 v483) fun v484 =>
               (.sum v484 (fun v485 =>
                (.call (laws_eqFloat32S_g ([] : List Nat) v379) fun v487 =>
                (.br (!v487) (
                 .leaf false
                ) (
                 (.br (!(false == true)) (
                  .leaf false
                 ) (
                  (.call (laws_heldFloat32S_g ([] : List Nat) (1 : Int)) fun v488 =>
                  (.br (decide (v488 < (0 : Int))) (
                   .leaf false
                  ) (
                   (.br (!decide (v488 = v480)) (
                    .leaf false
                   ) (
                    .leaf true
                   ))
                  )))
                 ))
                )))
               ) (fun v486 =>
                (.call (laws_eqFloat32S_g v486 v379) fun v489 =>
                (.br (!v489) (
                 .leaf false
                ) (
                 (.br (!(true == true)) (
                  .leaf false
                 ) (
                  (.call (laws_heldFloat32S_g ([] : List Nat) (1 : Int)) fun v490 =>
                  (.br (decide (v490 < (0 : Int))) (
                   .leaf false
                  ) (
                   (.br (!decide (v490 = v480)) (
                    .leaf false
                   ) (
                    .leaf true
                   ))
                  )))
                 ))
                )))
               )))))
              ))
             ))))
            ))
           )))
          ))))))
         ))))
        ))))
       ))
      )))
     ) (fun v471 =>
      (.call (laws_eqFloat32S_g v471 v379) fun v491 =>
      (.br (!v491) (
       .leaf false
      ) (
       (.br (!(true == true)) (
        .leaf false
       ) (
        (.call (laws_toFloat32S_g v340) fun v492 =>
        (.call (laws_eqFloat32S_g v467 v492) fun v493 =>
        (.br (!v493) (
         .leaf false
        ) (
         (.call (laws_toFloat32S_g v341) fun v494 =>
         (.call (laws_eqFloat32S_g v468 v494) fun v495 =>
         (.br (!v495) (
          .leaf false
         ) (
          (.call (laws_markFloat32S_g v467 (1 : Int)) fun v496 =>
          (.grd (decide (v496.2.length = v467.length)) <|
          (.call (laws_markFloat32S_g v468 v496.1) fun v497 =>
          (.grd (decide (v497.2.length = v468.length)) <|
          (.br (decide (v497.1 < (0 : Int))) (
           .leaf false
          ) (
           (.call (laws_eqFloat32S_g v471 v379) fun v498 =>
           (.br (!v498) (
            .leaf false
           ) (
            (.br (!(true == true)) (
             .leaf false
            ) (
             (.call (laws_markFloat32S_g v471 (1 : Int)) fun v499 =>
             (.grd (decide (v499.2.length = v471.length)) <|
             (.call (laws_heldFloat32S_g v499.2 (1 : Int)) fun v500 =>
             (.br (decide (v500 < (0 : Int))) (
              .leaf false
             ) (
              (.br (!decide (v500 = v499.1)) (
               .leaf false
              ) (
               (.call (laws_toFloat32S_g v340) fun v501 =>
               (.call (laws_toFloat32S_g v341) fun v502 =>
               (.call (impl_ShiftTimes_g v501 v502) fun v503 =>
               (.sum v503 (fun v504 =>
                (.call (laws_eqFloat32S_g ([] : List Nat) v379) fun v506 =>
                (.br (!v506) (
                 .leaf false
                ) (
                 (.br (!(false == true)) (
                  .leaf false
                 ) (
                  (.call (laws_heldFloat32S_g v499.2 (1 : Int)) fun v507 =>
                  (.br (decide (v507 < (0 : Int))) (
                   .leaf false
                  ) (
                   (.br (!decide (v507 = v499.1)) (
                    .leaf false
                   ) (
                    .leaf true
                   ))
                  )))
                 ))
                )))
               ) (fun v505 =>
                (.call (laws_eqFloat32S_g v505 v379) fun v508 =>
                (.br (!v508) (
                 .leaf false
                ) (
                 (.br (!(true == true)) (
                  .leaf false
                 ) (
                  (.call (laws_heldFloat32S_g v499.2 (1 : Int)) fun v509 =>
                  (.br (decide (v509 < (0 : Int))) (
                   .leaf false
                  ) (
                   (.br (!decide (v509 = v499.1)) (
                    .leaf false
                   ) (
                    .leaf true
                   ))
                  )))
                 ))
                )))
               )))))
              ))
             )))))
            ))
           )))
          ))))))
         ))))
        ))))
       ))
      )))
     )))))
    )))))
   ))
  ))

noncomputable def laws_FnExactShiftTimes_g (v340 : List Nat) (v341 : List Nat) : Option (Bool) := (laws_FnExactShiftTimes_T v340 v341).run
def laws_FnExactShiftTimes_enc (v340 : List Nat) (v341 : List Nat) (y : Bool) : Rs := (.bool y, [])
theorem laws_FnExactShiftTimes_den (v340 : List Nat) (v341 : List Nat) : (den TT (tabD laws_FnExactShiftTimes_tab) (tabM laws_FnExactShiftTimes_tab) (laws_FnExactShiftTimes_LO v340 v341) (codeOf Try.f7) ([.bslc (BR.root 0) (.f32 v340), .bslc (BR.root 1) (.f32 v341)] ++ List.replicate (Try.f7.ntmps - ([.bslc (BR.root 0) (.f32 v340), .bslc (BR.root 1) (.f32 v341)] : List DV).length) .undef) []).bind (retD TT Try.f7.results.toList 0) = (laws_FnExactShiftTimes_T v340 v341).bind fun y => .leaf (laws_FnExactShiftTimes_enc v340 v341 y) := by kernel_rfl
theorem laws_FnExactShiftTimes_fn (v340 : List Nat) (v341 : List Nat) (F : Fr) (hm : F.ids.length = 0) (h0 : St F [] F.H0) (hA : DVs.Ok F [] [.bslc (BR.root 0) (.f32 v340), .bslc (BR.root 1) (.f32 v341)]) {y : Bool} (hy : laws_FnExactShiftTimes_g v340 v341 = some y) : ∃ H', FnOk Try.prog 7 (DVs.av F [.bslc (BR.root 0) (.f32 v340), .bslc (BR.root 1) (.f32 v341)]) F.H0 ((laws_FnExactShiftTimes_enc v340 v341 y).1.av F) H' ∧ St F (laws_FnExactShiftTimes_enc v340 v341 y).2 H' ∧ (laws_FnExactShiftTimes_enc v340 v341 y).1.Ok F (laws_FnExactShiftTimes_enc v340 v341 y).2 :=
  fn_fin tok laws_FnExactShiftTimes_hO mixed Try.func7 Try.call7 (by kernel_rfl) (LoopsOk_eq (l := []) (by kernel_rfl) trivial) (laws_FnExactShiftTimes_den v340 v341) hy hm h0 hA
noncomputable def laws_FnExactShiftTimes_F : DFn := fun args L =>
  match args with
  | [a1, a2] =>
    optT (rowF32 L a1) fun v340 =>
    optT (rowF32 L a2) fun v341 =>
    .call (laws_FnExactShiftTimes_g v340 v341) fun y => .leaf (.bool y, L)
  | _ => .fail
theorem laws_FnExactShiftTimes_Fok : COk Try.prog 7 laws_FnExactShiftTimes_F true := by
  intro F L H args r L' hs ha hr
  unfold laws_FnExactShiftTimes_F at hr
  split at hr
  · rename_i a1 a2
    obtain ⟨v340, hv340, hr⟩ := optT_run hr
    obtain ⟨v341, hv341, hr⟩ := optT_run hr
    simp only [Tree.run] at hr
    obtain ⟨y, hy, hr⟩ := Option.bind_eq_some_iff.1 hr
    simp only [Tree.run, Option.some.injEq, Prod.mk.injEq] at hr
    obtain ⟨rfl, rfl⟩ := hr
    exact call_ok0 hs (fun k => (([a1.av F, a2.av F] : List AV)[k]?).getD .top) [a1, a2] [.bslc (BR.root 0) (.f32 v340), .bslc (BR.root 1) (.f32 v341)] (fun F' h0 hi hρ => ⟨by simp [DVs.av, DV.av, BR.av, hρ], laws_FnExactShiftTimes_fn v340 v341 F' (by rw [hi]; rfl) (st_nil hi) ⟨bslc_ok hi (by rw [h0, hρ]; exact rowF32_ok hs (DVs.okAt ha 0 rfl) hv340), bslc_ok hi (by rw [h0, hρ]; exact rowF32_ok hs (DVs.okAt ha 1 rfl) hv341), trivial⟩ hy⟩) rfl
  · cases hr
end Go.Proofs.Ytjniaobboclniaa.AM
