/- Functions: what they come to. -/
import Derived.Test.YtbhmllcnfdndhaaBase
set_option maxRecDepth 100000
set_option maxHeartbeats 4000000
set_option linter.unusedSimpArgs false
set_option linter.unusedVariables false
namespace Go.Proofs.Ytbhmllcnfdndhaa.AM
open Go.Proofs
/-! laws.toFloat32S -/
noncomputable def laws_toFloat32S_l0_T (v3 : List Nat) (s : Int × (List Nat)) : Tree ((Int × (List Nat)) ⊕ ((List Nat))) :=
  (.br (decide (s.1 < ((v3.length : Nat) : Int))) (
   (.grd (inb s.1 v3.length) <|
   (.grd (inb s.1 ((s.2).length)) <|
   .leaf (.inl (IntKind.i64.wrap (s.1 + (1 : Int)), List.set s.2 (Int.toNat s.1) (nth v3 (Int.toNat s.1))))))
  ) (
   .leaf (.inr s.2)
  ))

noncomputable def laws_toFloat32S_l0_g (v3 : List Nat) (s0 : Int × (List Nat)) : Option ((List Nat)) := whileM (fun s => (laws_toFloat32S_l0_T v3 s).run) s0
def laws_toFloat32S_l0_E (v3 : List Nat) (s : Int × (List Nat)) : Sd := ([.bslc (BR.root 0) (.f32 v3), .top, .top, .own 0 0 ((s.2).length), .int .i64 s.1, .top, .top, .top, .top, .top, .top, .top, .top, .top, .top, .top, .top, .top, .top, .top, .top, .top], [.row (.f32 s.2) 0])
def laws_toFloat32S_l0_X (v3 : List Nat) (x : (List Nat)) : Out := (.normal, [.top, .top, .top, .own 0 0 ((x).length), .top, .top, .top, .top, .top, .top, .top, .top, .top, .top, .top, .top, .top, .top, .top, .top, .top, .top], [.row (.f32 x) 0])
def laws_toFloat32S_l0_kill : List Nat := [0, 1, 1, 0, 0, 1, 1, 1, 1, 1, 1, 1, 1, 1, 1, 1, 1, 1, 1, 1, 1, 1]
def laws_toFloat32S_l0_nx : Exit → List Nat
  | .exit 0 => [1, 1, 1, 0, 1, 1, 1, 1, 1, 1, 1, 1, 1, 1, 1, 1, 1, 1, 1, 1, 1, 1]
  | .ret => [1, 1, 0, 1, 1, 1, 1, 1, 1, 1, 1, 1, 1, 1, 1, 1, 1, 1, 1, 1, 1, 1]
  | _ => []
noncomputable def laws_toFloat32S_LO (v3 : List Nat) : LOr := fun id e L =>
  match id with
  | 0 => .need (normA 0 laws_toFloat32S_l0_kill e L = some (laws_toFloat32S_l0_E v3 ((gI (vAt e 4)), (gRF L (vAt e 3))))) (.call (laws_toFloat32S_l0_g v3 ((gI (vAt e 4)), (gRF L (vAt e 3)))) fun x => .leaf (laws_toFloat32S_l0_X v3 x))
  | _ => .fail
noncomputable def laws_toFloat32S_tab : List (FuncId × DFn × Bool) := []
theorem laws_toFloat32S_hO : OrcOk Try.prog (tabD laws_toFloat32S_tab) (tabM laws_toFloat32S_tab) := tabD_nil _
theorem laws_toFloat32S_l0_be (v3 : List Nat) (s : Int × (List Nat)) : bodyT TT (tabD laws_toFloat32S_tab) (tabM laws_toFloat32S_tab) (laws_toFloat32S_LO v3) 0 laws_toFloat32S_l0_kill laws_toFloat32S_l0_nx (bodyOf Try.f10 0) 0 (laws_toFloat32S_l0_E v3 s) = (laws_toFloat32S_l0_T v3 s).bind fun y => .leaf (outS (laws_toFloat32S_l0_E v3) (laws_toFloat32S_l0_X v3) y) := by kernel_rfl
theorem laws_toFloat32S_l0_ok (v3 : List Nat) : LSound Try.prog 0 (laws_toFloat32S_LO v3) 0 (bodyOf Try.f10 0) := by
  intro e L out h
  exact lo_ok (E := laws_toFloat32S_l0_E v3) (gT := laws_toFloat32S_l0_T v3) (X := laws_toFloat32S_l0_X v3) (s0 := ((gI (vAt e 4)), (gRF L (vAt e 3)))) tok laws_toFloat32S_hO mixed (LoopsOk_eq (l := []) (by kernel_rfl) trivial) (laws_toFloat32S_l0_be v3) rfl (by intro x; rfl) h
noncomputable def laws_toFloat32S_T (v3 : List Nat) : Tree ((List Nat)) :=
  (.need (((v3.length : Nat) : Int) = ((v3.length : Nat) : Int)) <|
  (.grd (inb ((v3.length : Nat) : Int) (maxN + 1)) <|
  (.need (some (laws_toFloat32S_l0_E v3 ((0 : Int), List.replicate (Int.toNat ((v3.length : Nat) : Int)) (0 : Nat))) = some (laws_toFloat32S_l0_E v3 ((0 : Int), List.replicate (Int.toNat ((v3.length : Nat) : Int)) (0 : Nat)))) <|
  (.call (laws_toFloat32S_l0_g v3 ((0 : Int), List.replicate (Int.toNat ((v3.length : Nat) : Int)) (0 : Nat))) fun v9 =>
  .leaf v9))))

noncomputable def laws_toFloat32S_g (v3 : List Nat) : Option ((List Nat)) := (laws_toFloat32S_T v3).run
def laws_toFloat32S_enc (v3 : List Nat) (y : (List Nat)) : Rs := (.own 0 0 ((y).length), [.row (.f32 y) 0])
theorem laws_toFloat32S_den (v3 : List Nat) : (den TT (tabD laws_toFloat32S_tab) (tabM laws_toFloat32S_tab) (laws_toFloat32S_LO v3) (codeOf Try.f10) ([.bslc (BR.root 0) (.f32 v3)] ++ List.replicate (Try.f10.ntmps - ([.bslc (BR.root 0) (.f32 v3)] : List DV).length) .undef) []).bind (retD TT Try.f10.results.toList 0) = (laws_toFloat32S_T v3).bind fun y => .leaf (laws_toFloat32S_enc v3 y) := by kernel_rfl
theorem laws_toFloat32S_fn (v3 : List Nat) (F : Fr) (hm : F.ids.length = 0) (h0 : St F [] F.H0) (hA : DVs.Ok F [] [.bslc (BR.root 0) (.f32 v3)]) {y : (List Nat)} (hy : laws_toFloat32S_g v3 = some y) : ∃ H', FnOk Try.prog 10 (DVs.av F [.bslc (BR.root 0) (.f32 v3)]) F.H0 ((laws_toFloat32S_enc v3 y).1.av F) H' ∧ St F (laws_toFloat32S_enc v3 y).2 H' ∧ (laws_toFloat32S_enc v3 y).1.Ok F (laws_toFloat32S_enc v3 y).2 :=
  fn_fin tok laws_toFloat32S_hO mixed Try.func10 Try.call10 (by kernel_rfl) (LoopsOk_eq (l := [(0, bodyOf Try.f10 0)]) (by kernel_rfl) ⟨laws_toFloat32S_l0_ok v3, trivial⟩) (laws_toFloat32S_den v3) hy hm h0 hA
noncomputable def laws_toFloat32S_F : DFn := fun args L =>
  match args with
  | [a1] =>
    optT (rowF32 L a1) fun v3 =>
    .call (laws_toFloat32S_g v3) fun y => .leaf (.own (L.length + 0) 0 ((y).length), L ++ [.row (.f32 y) 0])
  | _ => .fail
theorem laws_toFloat32S_Fok : COk Try.prog 10 laws_toFloat32S_F true := by
  intro F L H args r L' hs ha hr
  unfold laws_toFloat32S_F at hr
  split at hr
  · rename_i a1
    obtain ⟨v3, hv3, hr⟩ := optT_run hr
    simp only [Tree.run] at hr
    obtain ⟨y, hy, hr⟩ := Option.bind_eq_some_iff.1 hr
    simp only [Tree.run, Option.some.injEq, Prod.mk.injEq] at hr
    obtain ⟨rfl, rfl⟩ := hr
    exact call_ok1 hs (fun k => (([a1.av F] : List AV)[k]?).getD .top) [a1] [.bslc (BR.root 0) (.f32 v3)] (fun F' h0 hi hρ => ⟨by simp [DVs.av, DV.av, BR.av, hρ], laws_toFloat32S_fn v3 F' (by rw [hi]; rfl) (st_nil hi) ⟨bslc_ok hi (by rw [h0, hρ]; exact rowF32_ok hs (DVs.okAt ha 0 rfl) hv3), trivial⟩ hy⟩) rfl rfl
  · cases hr
/-! spec.l01Finite -/
noncomputable def spec_l01Finite_LO (v16 : Nat) : LOr := fun id e L =>
  match id with
  | _ => .fail
noncomputable def spec_l01Finite_tab : List (FuncId × DFn × Bool) := []
theorem spec_l01Finite_hO : OrcOk Try.prog (tabD spec_l01Finite_tab) (tabM spec_l01Finite_tab) := tabD_nil _
noncomputable def spec_l01Finite_T (v16 : Nat) : Tree (Bool) :=
  .leaf (feq .f32 (fsub .f32 v16 v16) (0 : Nat))

noncomputable def spec_l01Finite_g (v16 : Nat) : Option (Bool) := (spec_l01Finite_T v16).run
def spec_l01Finite_enc (v16 : Nat) (y : Bool) : Rs := (.bool y, [])
theorem spec_l01Finite_den (v16 : Nat) : (den TT (tabD spec_l01Finite_tab) (tabM spec_l01Finite_tab) (spec_l01Finite_LO v16) (codeOf Try.f36) ([.flt .f32 v16] ++ List.replicate (Try.f36.ntmps - ([.flt .f32 v16] : List DV).length) .undef) []).bind (retD TT Try.f36.results.toList 0) = (spec_l01Finite_T v16).bind fun y => .leaf (spec_l01Finite_enc v16 y) := by kernel_rfl
theorem spec_l01Finite_fn (v16 : Nat) (F : Fr) (hm : F.ids.length = 0) (h0 : St F [] F.H0) (hA : DVs.Ok F [] [.flt .f32 v16]) {y : Bool} (hy : spec_l01Finite_g v16 = some y) : ∃ H', FnOk Try.prog 36 (DVs.av F [.flt .f32 v16]) F.H0 ((spec_l01Finite_enc v16 y).1.av F) H' ∧ St F (spec_l01Finite_enc v16 y).2 H' ∧ (spec_l01Finite_enc v16 y).1.Ok F (spec_l01Finite_enc v16 y).2 :=
  fn_fin tok spec_l01Finite_hO mixed Try.func36 Try.call36 (by kernel_rfl) (LoopsOk_eq (l := []) (by kernel_rfl) trivial) (spec_l01Finite_den v16) hy hm h0 hA
def spec_l01Finite_v (v16 : Nat) : Bool :=
  feq .f32 (fsub .f32 v16 v16) (0 : Nat)
theorem spec_l01Finite_tot (v16 : Nat) : spec_l01Finite_g v16 = some (spec_l01Finite_v v16) := by
  unfold spec_l01Finite_g spec_l01Finite_T spec_l01Finite_v
  simp only [Tree.run]
  repeat' (first | rfl | split)
noncomputable def spec_l01Finite_F : DFn := fun args L =>
  match args with
  | [.flt .f32 v16] =>
    .leaf (.bool (spec_l01Finite_v v16), L)
  | _ => .fail
theorem spec_l01Finite_Fok : COk Try.prog 36 spec_l01Finite_F true := by
  intro F L H args r L' hs ha hr
  unfold spec_l01Finite_F at hr
  split at hr
  · rename_i v16
    have hy := spec_l01Finite_tot v16
    generalize spec_l01Finite_v v16 = y at hy hr
    simp only [Tree.run, Option.some.injEq, Prod.mk.injEq] at hr
    obtain ⟨rfl, rfl⟩ := hr
    exact call_ok0 hs (fun k => (([] : List AV)[k]?).getD .top) [.flt .f32 v16] [.flt .f32 v16] (fun F' h0 hi hρ => ⟨by simp [DVs.av, DV.av, BR.av, hρ], spec_l01Finite_fn v16 F' (by rw [hi]; rfl) (st_nil hi) ⟨trivial, trivial⟩ hy⟩) rfl
  · cases hr
/-! spec.l02Finite -/
noncomputable def spec_l02Finite_l0_T (v14 : List Nat) (s : Int) : Tree ((Int) ⊕ ((Unit) ⊕ (Unit))) :=
  (.br (decide (s < ((v14.length : Nat) : Int))) (
   (.grd (inb s v14.length) <|
   (.br (!(spec_l01Finite_v (nth v14 (Int.toNat s)))) (
    .leaf (.inr (.inl ()))
   ) (
    .leaf (.inl (IntKind.i64.wrap (s + (1 : Int))))
   )))
  ) (
   .leaf (.inr (.inr ()))
  ))

noncomputable def spec_l02Finite_l0_g (v14 : List Nat) (s0 : Int) : Option ((Unit) ⊕ (Unit)) := whileM (fun s => (spec_l02Finite_l0_T v14 s).run) s0
def spec_l02Finite_l0_E (v14 : List Nat) (s : Int) : Sd := ([.bslc (BR.root 0) (.f32 v14), .top, .top, .int .i64 s, .top, .top, .top, .top, .top, .top, .top, .top, .top, .top, .top, .top], [])
def spec_l02Finite_l0_X (v14 : List Nat) (x : (Unit) ⊕ (Unit)) : Out := (match x with | .inl x => (.ret, [.top, .top, .lit false, .top, .top, .top, .top, .top, .top, .top, .top, .top, .top, .top, .top, .top], []) | .inr x => (.normal, [.top, .top, .top, .top, .top, .top, .top, .top, .top, .top, .top, .top, .top, .top, .top, .top], []))
def spec_l02Finite_l0_kill : List Nat := [0, 1, 1, 0, 1, 1, 1, 1, 1, 1, 1, 1, 1, 1, 1, 1]
def spec_l02Finite_l0_nx : Exit → List Nat
  | .exit 0 => [1, 1, 1, 1, 1, 1, 1, 1, 1, 1, 1, 1, 1, 1, 1, 1]
  | .ret => [1, 1, 0, 1, 1, 1, 1, 1, 1, 1, 1, 1, 1, 1, 1, 1]
  | _ => []
noncomputable def spec_l02Finite_LO (v14 : List Nat) : LOr := fun id e L =>
  match id with
  | 0 => .need (normA 0 spec_l02Finite_l0_kill e L = some (spec_l02Finite_l0_E v14 (gI (vAt e 3)))) (.call (spec_l02Finite_l0_g v14 (gI (vAt e 3))) fun x => .sum x (fun b0 => .leaf (spec_l02Finite_l0_X v14 (.inl b0))) (fun c0 => .leaf (spec_l02Finite_l0_X v14 (.inr c0))))
  | _ => .fail
noncomputable def spec_l02Finite_tab : List (FuncId × DFn × Bool) := [(36, spec_l01Finite_F, true)]
theorem spec_l02Finite_hO : OrcOk Try.prog (tabD spec_l02Finite_tab) (tabM spec_l02Finite_tab) := tabD_cons spec_l01Finite_Fok (tabD_nil _)
theorem spec_l02Finite_l0_be (v14 : List Nat) (s : Int) : bodyT TT (tabD spec_l02Finite_tab) (tabM spec_l02Finite_tab) (spec_l02Finite_LO v14) 0 spec_l02Finite_l0_kill spec_l02Finite_l0_nx (bodyOf Try.f35 0) 0 (spec_l02Finite_l0_E v14 s) = (spec_l02Finite_l0_T v14 s).bind fun y => .leaf (outS (spec_l02Finite_l0_E v14) (spec_l02Finite_l0_X v14) y) := by kernel_rfl
theorem spec_l02Finite_l0_ok (v14 : List Nat) : LSound Try.prog 0 (spec_l02Finite_LO v14) 0 (bodyOf Try.f35 0) := by
  intro e L out h
  exact lo_ok (E := spec_l02Finite_l0_E v14) (gT := spec_l02Finite_l0_T v14) (X := spec_l02Finite_l0_X v14) (s0 := (gI (vAt e 3))) tok spec_l02Finite_hO mixed (LoopsOk_eq (l := []) (by kernel_rfl) trivial) (spec_l02Finite_l0_be v14) rfl (by intro x; (cases x with | inl b => rfl | inr x => exact rfl)) h
noncomputable def spec_l02Finite_T (v14 : List Nat) : Tree (Bool) :=
  (.need (some (spec_l02Finite_l0_E v14 (0 : Int)) = some (spec_l02Finite_l0_E v14 (0 : Int))) <|
  (.call (spec_l02Finite_l0_g v14 (0 : Int)) fun v19 =>
  (.sum v19 (fun v20 =>
   .leaf false
  ) (fun v21 =>
   .leaf true
  ))))

noncomputable def spec_l02Finite_g (v14 : List Nat) : Option (Bool) := (spec_l02Finite_T v14).run
def spec_l02Finite_enc (v14 : List Nat) (y : Bool) : Rs := (.bool y, [])
theorem spec_l02Finite_den (v14 : List Nat) : (den TT (tabD spec_l02Finite_tab) (tabM spec_l02Finite_tab) (spec_l02Finite_LO v14) (codeOf Try.f35) ([.bslc (BR.root 0) (.f32 v14)] ++ List.replicate (Try.f35.ntmps - ([.bslc (BR.root 0) (.f32 v14)] : List DV).length) .undef) []).bind (retD TT Try.f35.results.toList 0) = (spec_l02Finite_T v14).bind fun y => .leaf (spec_l02Finite_enc v14 y) := by kernel_rfl
theorem spec_l02Finite_fn (v14 : List Nat) (F : Fr) (hm : F.ids.length = 0) (h0 : St F [] F.H0) (hA : DVs.Ok F [] [.bslc (BR.root 0) (.f32 v14)]) {y : Bool} (hy : spec_l02Finite_g v14 = some y) : ∃ H', FnOk Try.prog 35 (DVs.av F [.bslc (BR.root 0) (.f32 v14)]) F.H0 ((spec_l02Finite_enc v14 y).1.av F) H' ∧ St F (spec_l02Finite_enc v14 y).2 H' ∧ (spec_l02Finite_enc v14 y).1.Ok F (spec_l02Finite_enc v14 y).2 :=
  fn_fin tok spec_l02Finite_hO mixed Try.func35 Try.call35 (by kernel_rfl) (LoopsOk_eq (l := [(0, bodyOf Try.f35 0)]) (by kernel_rfl) ⟨spec_l02Finite_l0_ok v14, trivial⟩) (spec_l02Finite_den v14) hy hm h0 hA
noncomputable def spec_l02Finite_F : DFn := fun args L =>
  match args with
  | [a1] =>
    optT (rowF32 L a1) fun v14 =>
    .call (spec_l02Finite_g v14) fun y => .leaf (.bool y, L)
  | _ => .fail
theorem spec_l02Finite_Fok : COk Try.prog 35 spec_l02Finite_F true := by
  intro F L H args r L' hs ha hr
  unfold spec_l02Finite_F at hr
  split at hr
  · rename_i a1
    obtain ⟨v14, hv14, hr⟩ := optT_run hr
    simp only [Tree.run] at hr
    obtain ⟨y, hy, hr⟩ := Option.bind_eq_some_iff.1 hr
    simp only [Tree.run, Option.some.injEq, Prod.mk.injEq] at hr
    obtain ⟨rfl, rfl⟩ := hr
    exact call_ok0 hs (fun k => (([a1.av F] : List AV)[k]?).getD .top) [a1] [.bslc (BR.root 0) (.f32 v14)] (fun F' h0 hi hρ => ⟨by simp [DVs.av, DV.av, BR.av, hρ], spec_l02Finite_fn v14 F' (by rw [hi]; rfl) (st_nil hi) ⟨bslc_ok hi (by rw [h0, hρ]; exact rowF32_ok hs (DVs.okAt ha 0 rfl) hv14), trivial⟩ hy⟩) rfl
  · cases hr
/-! spec.l02List -/
noncomputable def spec_l02List_LO (v92 : List Nat) : LOr := fun id e L =>
  match id with
  | _ => .fail
noncomputable def spec_l02List_tab : List (FuncId × DFn × Bool) := [(35, spec_l02Finite_F, true)]
theorem spec_l02List_hO : OrcOk Try.prog (tabD spec_l02List_tab) (tabM spec_l02List_tab) := tabD_cons spec_l02Finite_Fok (tabD_nil _)
noncomputable def spec_l02List_T (v92 : List Nat) : Tree ((Unit) ⊕ (Unit)) :=
  (.call (spec_l02Finite_g v92) fun v93 =>
  (.br (!v93) (
   .leaf (.inl ())
  ) (
   .leaf (.inr ())
  )))

noncomputable def spec_l02List_g (v92 : List Nat) : Option ((Unit) ⊕ (Unit)) := (spec_l02List_T v92).run
def spec_l02List_enc (v92 : List Nat) (y : (Unit) ⊕ (Unit)) : Rs := (match y with | .inl y => (.tup [.nilslc, .lit false], []) | .inr y => (.tup [.bslc (BR.root 0) (.f32 v92), .lit true], []))
theorem spec_l02List_den (v92 : List Nat) : (den TT (tabD spec_l02List_tab) (tabM spec_l02List_tab) (spec_l02List_LO v92) (codeOf Try.f45) ([.bslc (BR.root 0) (.f32 v92)] ++ List.replicate (Try.f45.ntmps - ([.bslc (BR.root 0) (.f32 v92)] : List DV).length) .undef) []).bind (retD TT Try.f45.results.toList 0) = (spec_l02List_T v92).bind fun y => .leaf (spec_l02List_enc v92 y) := by kernel_rfl
theorem spec_l02List_fn (v92 : List Nat) (F : Fr) (hm : F.ids.length = 0) (h0 : St F [] F.H0) (hA : DVs.Ok F [] [.bslc (BR.root 0) (.f32 v92)]) {y : (Unit) ⊕ (Unit)} (hy : spec_l02List_g v92 = some y) : ∃ H', FnOk Try.prog 45 (DVs.av F [.bslc (BR.root 0) (.f32 v92)]) F.H0 ((spec_l02List_enc v92 y).1.av F) H' ∧ St F (spec_l02List_enc v92 y).2 H' ∧ (spec_l02List_enc v92 y).1.Ok F (spec_l02List_enc v92 y).2 :=
  fn_fin tok spec_l02List_hO mixed Try.func45 Try.call45 (by kernel_rfl) (LoopsOk_eq (l := []) (by kernel_rfl) trivial) (spec_l02List_den v92) hy hm h0 hA
noncomputable def spec_l02List_F : DFn := fun args L =>
  match args with
  | [a1] =>
    optT (rowF32 L a1) fun v92 =>
    .call (spec_l02List_g v92) fun y => .sum y (fun y0 => .leaf (.tup [.nilslc, .lit false], L)) (fun z0 => .leaf (.tup [a1, .lit true], L))
  | _ => .fail
theorem spec_l02List_Fok : COk Try.prog 45 spec_l02List_F true := by
  intro F L H args r L' hs ha hr
  unfold spec_l02List_F at hr
  split at hr
  · rename_i a1
    obtain ⟨v92, hv92, hr⟩ := optT_run hr
    simp only [Tree.run] at hr
    obtain ⟨y, hy, hr⟩ := Option.bind_eq_some_iff.1 hr
    cases y with
    | inl y =>
      simp only [Tree.run, Option.some.injEq, Prod.mk.injEq] at hr
      obtain ⟨rfl, rfl⟩ := hr
      exact call_ok0 hs (fun k => (([a1.av F] : List AV)[k]?).getD .top) [a1] [.bslc (BR.root 0) (.f32 v92)] (fun F' h0 hi hρ => ⟨by simp [DVs.av, DV.av, BR.av, hρ], spec_l02List_fn v92 F' (by rw [hi]; rfl) (st_nil hi) ⟨bslc_ok hi (by rw [h0, hρ]; exact rowF32_ok hs (DVs.okAt ha 0 rfl) hv92), trivial⟩ hy⟩) rfl
    | inr y =>
      simp only [Tree.run, Option.some.injEq, Prod.mk.injEq] at hr
      obtain ⟨rfl, rfl⟩ := hr
      exact call_al0 hs (fun k => (([a1.av F] : List AV)[k]?).getD .top) [a1] [.bslc (BR.root 0) (.f32 v92)] (fun F' h0 hi hρ => ⟨by simp [DVs.av, DV.av, BR.av, hρ], spec_l02List_fn v92 F' (by rw [hi]; rfl) (st_nil hi) ⟨bslc_ok hi (by rw [h0, hρ]; exact rowF32_ok hs (DVs.okAt ha 0 rfl) hv92), trivial⟩ hy⟩) (fun F' h0 hi hρ => by simp [spec_l02List_enc, DVs.av, DV.av, BR.av, hρ]) ⟨(DVs.okAt ha 0 rfl), trivial, trivial⟩
  · cases hr
/-! spec.DividedOf -/
noncomputable def spec_DividedOf_l2_T (v12 : List Nat) (v49 : Int) (s : Int) : Tree ((Int) ⊕ ((Unit) ⊕ (Unit))) :=
  (.br (decide (s < v49)) (
   (.grd (inb v49 v12.length) <|
   (.grd (inb s v12.length) <|
   (.br (feq .f32 (nth v12 (Int.toNat v49)) (nth v12 (Int.toNat s))) (
    .leaf (.inr (.inl ()))
   ) (
    .leaf (.inl (IntKind.i64.wrap (s + (1 : Int))))
   ))))
  ) (
   .leaf (.inr (.inr ()))
  ))

noncomputable def spec_DividedOf_l2_g (v12 : List Nat) (v49 : Int) (s0 : Int) : Option ((Unit) ⊕ (Unit)) := whileM (fun s => (spec_DividedOf_l2_T v12 v49 s).run) s0
def spec_DividedOf_l2_E (v12 : List Nat) (v13 : List Nat) (v49 : Int) (s : Int) : Sd := ([.bslc (BR.root 0) (.f32 v12), .bslc (BR.root 1) (.f32 v13), .top, .top, .top, .top, .int .i64 ((v12.length : Nat) : Int), .int .i64 v49, .int .i64 s, .top, .top, .top, .top, .top, .top, .top, .top, .top, .top, .top, .top, .top, .top, .top, .top, .top, .top, .top, .top, .top, .top, .top, .top, .top, .top, .top, .top, .int .i64 ((v12.length : Nat) : Int), .int .i64 v49, .top, .top, .top, .top, .top, .top, .top, .top, .top, .top, .top, .top, .top, .top, .top, .top, .top, .top, .top, .top, .top, .top, .top, .top, .top, .top, .top, .top, .top, .top, .top, .top, .top, .top, .top, .top, .top, .top, .top, .top, .top, .top, .top, .top, .top, .top, .top, .top, .top, .top, .top, .top, .top, .top, .top, .top, .top, .top, .top, .top, .top], [])
def spec_DividedOf_l2_X (v12 : List Nat) (v13 : List Nat) (v49 : Int) (x : (Unit) ⊕ (Unit)) : Out := (match x with | .inl x => (.ret, [.top, .top, .top, .top, .nilslc, .lit false, .top, .top, .top, .top, .top, .top, .top, .top, .top, .top, .top, .top, .top, .top, .top, .top, .top, .top, .top, .top, .top, .top, .top, .top, .top, .top, .top, .top, .top, .top, .top, .top, .top, .top, .top, .top, .top, .top, .top, .top, .top, .top, .top, .top, .top, .top, .top, .top, .top, .top, .top, .top, .top, .top, .top, .top, .top, .top, .top, .top, .top, .top, .top, .top, .top, .top, .top, .top, .top, .top, .top, .top, .top, .top, .top, .top, .top, .top, .top, .top, .top, .top, .top, .top, .top, .top, .top, .top, .top, .top, .top, .top, .top, .top], []) | .inr x => (.normal, [.bslc (BR.root 0) (.f32 v12), .bslc (BR.root 1) (.f32 v13), .top, .top, .top, .top, .int .i64 ((v12.length : Nat) : Int), .top, .top, .top, .top, .top, .top, .top, .top, .top, .top, .top, .top, .top, .top, .top, .top, .top, .top, .top, .top, .top, .top, .top, .top, .top, .top, .top, .top, .top, .top, .int .i64 ((v12.length : Nat) : Int), .int .i64 v49, .top, .top, .top, .top, .top, .top, .top, .top, .top, .top, .top, .top, .top, .top, .top, .top, .top, .top, .top, .top, .top, .top, .top, .top, .top, .top, .top, .top, .top, .top, .top, .top, .top, .top, .top, .top, .top, .top, .top, .top, .top, .top, .top, .top, .top, .top, .top, .top, .top, .top, .top, .top, .top, .top, .top, .top, .top, .top, .top, .top, .top], []))
def spec_DividedOf_l2_kill : List Nat := [0, 0, 1, 1, 1, 1, 0, 0, 0, 1, 1, 1, 1, 1, 1, 1, 1, 1, 1, 1, 1, 1, 1, 1, 1, 1, 1, 1, 1, 1, 1, 1, 1, 1, 1, 1, 1, 0, 0, 1, 1, 1, 1, 1, 1, 1, 1, 1, 1, 1, 1, 1, 1, 1, 1, 1, 1, 1, 1, 1, 1, 1, 1, 1, 1, 1, 1, 1, 1, 1, 1, 1, 1, 1, 1, 1, 1, 1, 1, 1, 1, 1, 1, 1, 1, 1, 1, 1, 1, 1, 1, 1, 1, 1, 1, 1, 1, 1, 1, 1]
def spec_DividedOf_l2_nx : Exit → List Nat
  | .exit 0 => [0, 0, 1, 1, 1, 1, 0, 1, 1, 1, 1, 1, 1, 1, 1, 1, 1, 1, 1, 1, 1, 1, 1, 1, 1, 1, 1, 1, 1, 1, 1, 1, 1, 1, 1, 1, 1, 1, 1, 1, 1, 1, 1, 1, 1, 1, 1, 1, 1, 1, 1, 1, 1, 1, 1, 1, 1, 1, 1, 1, 1, 1, 1, 1, 1, 1, 1, 1, 1, 1, 1, 1, 1, 1, 1, 1, 1, 1, 1, 1, 1, 1, 1, 1, 1, 1, 1, 1, 1, 1, 1, 1, 1, 1, 1, 1, 1, 1, 1, 1]
  | .exit 1 => [0, 0, 1, 1, 1, 1, 0, 1, 1, 1, 1, 1, 1, 1, 1, 1, 1, 1, 1, 1, 1, 1, 1, 1, 1, 1, 1, 1, 1, 1, 1, 1, 1, 1, 1, 1, 1, 0, 0, 1, 1, 1, 1, 1, 1, 1, 1, 1, 1, 1, 1, 1, 1, 1, 1, 1, 1, 1, 1, 1, 1, 1, 1, 1, 1, 1, 1, 1, 1, 1, 1, 1, 1, 1, 1, 1, 1, 1, 1, 1, 1, 1, 1, 1, 1, 1, 1, 1, 1, 1, 1, 1, 1, 1, 1, 1, 1, 1, 1, 1]
  | .exit 2 => [0, 0, 1, 1, 1, 1, 0, 1, 1, 1, 1, 1, 1, 1, 1, 1, 1, 1, 1, 1, 1, 1, 1, 1, 1, 1, 1, 1, 1, 1, 1, 1, 1, 1, 1, 1, 1, 0, 0, 1, 1, 1, 1, 1, 1, 1, 1, 1, 1, 1, 1, 1, 1, 1, 1, 1, 1, 1, 1, 1, 1, 1, 1, 1, 1, 1, 1, 1, 1, 1, 1, 1, 1, 1, 1, 1, 1, 1, 1, 1, 1, 1, 1, 1, 1, 1, 1, 1, 1, 1, 1, 1, 1, 1, 1, 1, 1, 1, 1, 1]
  | .ret => [1, 1, 1, 1, 0, 0, 1, 1, 1, 1, 1, 1, 1, 1, 1, 1, 1, 1, 1, 1, 1, 1, 1, 1, 1, 1, 1, 1, 1, 1, 1, 1, 1, 1, 1, 1, 1, 1, 1, 1, 1, 1, 1, 1, 1, 1, 1, 1, 1, 1, 1, 1, 1, 1, 1, 1, 1, 1, 1, 1, 1, 1, 1, 1, 1, 1, 1, 1, 1, 1, 1, 1, 1, 1, 1, 1, 1, 1, 1, 1, 1, 1, 1, 1, 1, 1, 1, 1, 1, 1, 1, 1, 1, 1, 1, 1, 1, 1, 1, 1]
  | _ => []
noncomputable def spec_DividedOf_l0_T (v12 : List Nat) (v13 : List Nat) (s : Int) : Tree ((Int) ⊕ ((Unit) ⊕ (Unit))) :=
  (.br (decide (s < ((v12.length : Nat) : Int))) (
   (.need (some (spec_DividedOf_l2_E v12 v13 s (0 : Int)) = some (spec_DividedOf_l2_E v12 v13 s (0 : Int))) <|
   (.call (spec_DividedOf_l2_g v12 s (0 : Int)) fun v51 =>
   (.sum v51 (fun v52 =>
    .leaf (.inr (.inl ()))
   ) (fun v53 =>
    .leaf (.inl (IntKind.i64.wrap (s + (1 : Int))))
   ))))
  ) (
   .leaf (.inr (.inr ()))
  ))

noncomputable def spec_DividedOf_l0_g (v12 : List Nat) (v13 : List Nat) (s0 : Int) : Option ((Unit) ⊕ (Unit)) := whileM (fun s => (spec_DividedOf_l0_T v12 v13 s).run) s0
def spec_DividedOf_l0_E (v12 : List Nat) (v13 : List Nat) (s : Int) : Sd := ([.bslc (BR.root 0) (.f32 v12), .bslc (BR.root 1) (.f32 v13), .top, .top, .top, .top, .int .i64 ((v12.length : Nat) : Int), .top, .top, .top, .top, .top, .top, .top, .top, .top, .top, .top, .top, .top, .top, .top, .top, .top, .top, .top, .top, .top, .top, .top, .top, .top, .top, .top, .top, .top, .top, .int .i64 ((v12.length : Nat) : Int), .int .i64 s, .top, .top, .top, .top, .top, .top, .top, .top, .top, .top, .top, .top, .top, .top, .top, .top, .top, .top, .top, .top, .top, .top, .top, .top, .top, .top, .top, .top, .top, .top, .top, .top, .top, .top, .top, .top, .top, .top, .top, .top, .top, .top, .top, .top, .top, .top, .top, .top, .top, .top, .top, .top, .top, .top, .top, .top, .top, .top, .top, .top, .top], [])
def spec_DividedOf_l0_X (v12 : List Nat) (v13 : List Nat) (x : (Unit) ⊕ (Unit)) : Out := (match x with | .inl x => (.ret, [.top, .top, .top, .top, .nilslc, .lit false, .top, .top, .top, .top, .top, .top, .top, .top, .top, .top, .top, .top, .top, .top, .top, .top, .top, .top, .top, .top, .top, .top, .top, .top, .top, .top, .top, .top, .top, .top, .top, .top, .top, .top, .top, .top, .top, .top, .top, .top, .top, .top, .top, .top, .top, .top, .top, .top, .top, .top, .top, .top, .top, .top, .top, .top, .top, .top, .top, .top, .top, .top, .top, .top, .top, .top, .top, .top, .top, .top, .top, .top, .top, .top, .top, .top, .top, .top, .top, .top, .top, .top, .top, .top, .top, .top, .top, .top, .top, .top, .top, .top, .top, .top], []) | .inr x => (.normal, [.bslc (BR.root 0) (.f32 v12), .bslc (BR.root 1) (.f32 v13), .top, .top, .top, .top, .int .i64 ((v12.length : Nat) : Int), .top, .top, .top, .top, .top, .top, .top, .top, .top, .top, .top, .top, .top, .top, .top, .top, .top, .top, .top, .top, .top, .top, .top, .top, .top, .top, .top, .top, .top, .top, .top, .top, .top, .top, .top, .top, .top, .top, .top, .top, .top, .top, .top, .top, .top, .top, .top, .top, .top, .top, .top, .top, .top, .top, .top, .top, .top, .top, .top, .top, .top, .top, .top, .top, .top, .top, .top, .top, .top, .top, .top, .top, .top, .top, .top, .top, .top, .top, .top, .top, .top, .top, .top, .top, .top, .top, .top, .top, .top, .top, .top, .top, .top], []))
def spec_DividedOf_l0_kill : List Nat := [0, 0, 1, 1, 1, 1, 0, 1, 1, 1, 1, 1, 1, 1, 1, 1, 1, 1, 1, 1, 1, 1, 1, 1, 1, 1, 1, 1, 1, 1, 1, 1, 1, 1, 1, 1, 1, 0, 0, 1, 1, 1, 1, 1, 1, 1, 1, 1, 1, 1, 1, 1, 1, 1, 1, 1, 1, 1, 1, 1, 1, 1, 1, 1, 1, 1, 1, 1, 1, 1, 1, 1, 1, 1, 1, 1, 1, 1, 1, 1, 1, 1, 1, 1, 1, 1, 1, 1, 1, 1, 1, 1, 1, 1, 1, 1, 1, 1, 1, 1]
def spec_DividedOf_l0_nx : Exit → List Nat
  | .exit 0 => [0, 0, 1, 1, 1, 1, 0, 1, 1, 1, 1, 1, 1, 1, 1, 1, 1, 1, 1, 1, 1, 1, 1, 1, 1, 1, 1, 1, 1, 1, 1, 1, 1, 1, 1, 1, 1, 1, 1, 1, 1, 1, 1, 1, 1, 1, 1, 1, 1, 1, 1, 1, 1, 1, 1, 1, 1, 1, 1, 1, 1, 1, 1, 1, 1, 1, 1, 1, 1, 1, 1, 1, 1, 1, 1, 1, 1, 1, 1, 1, 1, 1, 1, 1, 1, 1, 1, 1, 1, 1, 1, 1, 1, 1, 1, 1, 1, 1, 1, 1]
  | .ret => [1, 1, 1, 1, 0, 0, 1, 1, 1, 1, 1, 1, 1, 1, 1, 1, 1, 1, 1, 1, 1, 1, 1, 1, 1, 1, 1, 1, 1, 1, 1, 1, 1, 1, 1, 1, 1, 1, 1, 1, 1, 1, 1, 1, 1, 1, 1, 1, 1, 1, 1, 1, 1, 1, 1, 1, 1, 1, 1, 1, 1, 1, 1, 1, 1, 1, 1, 1, 1, 1, 1, 1, 1, 1, 1, 1, 1, 1, 1, 1, 1, 1, 1, 1, 1, 1, 1, 1, 1, 1, 1, 1, 1, 1, 1, 1, 1, 1, 1, 1]
  | _ => []
noncomputable def spec_DividedOf_l6_T (v12 : List Nat) (v87 : Int) (s : Int × (List Nat)) : Tree ((Int × (List Nat)) ⊕ ((List Nat))) :=
  (.br (decide (v87 ≤ s.1)) (
   (.grd (inb s.1 ((s.2).length)) <|
   (.grd (inb (IntKind.i64.wrap (s.1 - (1 : Int))) ((s.2).length)) <|
   (.grd (inb s.1 v12.length) <|
   (.grd (inb (IntKind.i64.wrap (s.1 - v87)) v12.length) <|
   (.grd (inb s.1 ((s.2).length)) <|
   .leaf (.inl (IntKind.i64.wrap (s.1 - (1 : Int)), List.set s.2 (Int.toNat s.1) (fdiv .f32 (fsub .f32 (nth s.2 (Int.toNat s.1)) (nth s.2 (Int.toNat (IntKind.i64.wrap (s.1 - (1 : Int)))))) (fsub .f32 (nth v12 (Int.toNat s.1)) (nth v12 (Int.toNat (IntKind.i64.wrap (s.1 - v87)))))))))))))
  ) (
   .leaf (.inr s.2)
  ))

noncomputable def spec_DividedOf_l6_g (v12 : List Nat) (v87 : Int) (s0 : Int × (List Nat)) : Option ((List Nat)) := whileM (fun s => (spec_DividedOf_l6_T v12 v87 s).run) s0
def spec_DividedOf_l6_E (v12 : List Nat) (v13 : List Nat) (v87 : Int) (s : Int × (List Nat)) : Sd := ([.bslc (BR.root 0) (.f32 v12), .top, .top, .top, .top, .top, .int .i64 ((v12.length : Nat) : Int), .top, .top, .own 0 0 ((s.2).length), .int .i64 v87, .int .i64 s.1, .top, .top, .top, .top, .top, .top, .top, .top, .top, .top, .top, .top, .top, .top, .top, .top, .top, .top, .top, .top, .top, .top, .top, .top, .top, .top, .top, .top, .top, .top, .top, .top, .top, .top, .top, .top, .top, .top, .top, .top, .top, .top, .top, .top, .top, .top, .top, .top, .top, .top, .top, .top, .top, .top, .top, .top, .top, .top, .top, .top, .top, .top, .top, .top, .top, .top, .top, .top, .top, .top, .top, .top, .top, .top, .top, .top, .top, .top, .top, .top, .top, .top, .top, .top, .top, .top, .top, .top], [.row (.f32 s.2) 0])
def spec_DividedOf_l6_X (v12 : List Nat) (v13 : List Nat) (v87 : Int) (x : (List Nat)) : Out := (.normal, [.bslc (BR.root 0) (.f32 v12), .top, .top, .top, .top, .top, .int .i64 ((v12.length : Nat) : Int), .top, .top, .own 0 0 ((x).length), .int .i64 v87, .top, .top, .top, .top, .top, .top, .top, .top, .top, .top, .top, .top, .top, .top, .top, .top, .top, .top, .top, .top, .top, .top, .top, .top, .top, .top, .top, .top, .top, .top, .top, .top, .top, .top, .top, .top, .top, .top, .top, .top, .top, .top, .top, .top, .top, .top, .top, .top, .top, .top, .top, .top, .top, .top, .top, .top, .top, .top, .top, .top, .top, .top, .top, .top, .top, .top, .top, .top, .top, .top, .top, .top, .top, .top, .top, .top, .top, .top, .top, .top, .top, .top, .top, .top, .top, .top, .top, .top, .top], [.row (.f32 x) 0])
def spec_DividedOf_l6_kill : List Nat := [0, 1, 1, 1, 1, 1, 0, 1, 1, 0, 0, 0, 1, 1, 1, 1, 1, 1, 1, 1, 1, 1, 1, 1, 1, 1, 1, 1, 1, 1, 1, 1, 1, 1, 1, 1, 1, 1, 1, 1, 1, 1, 1, 1, 1, 1, 1, 1, 1, 1, 1, 1, 1, 1, 1, 1, 1, 1, 1, 1, 1, 1, 1, 1, 1, 1, 1, 1, 1, 1, 1, 1, 1, 1, 1, 1, 1, 1, 1, 1, 1, 1, 1, 1, 1, 1, 1, 1, 1, 1, 1, 1, 1, 1, 1, 1, 1, 1, 1, 1]
def spec_DividedOf_l6_nx : Exit → List Nat
  | .exit 4 => [1, 1, 1, 1, 1, 1, 1, 1, 1, 0, 1, 1, 1, 1, 1, 1, 1, 1, 1, 1, 1, 1, 1, 1, 1, 1, 1, 1, 1, 1, 1, 1, 1, 1, 1, 1, 1, 1, 1, 1, 1, 1, 1, 1, 1, 1, 1, 1, 1, 1, 1, 1, 1, 1, 1, 1, 1, 1, 1, 1, 1, 1, 1, 1, 1, 1, 1, 1, 1, 1, 1, 1, 1, 1, 1, 1, 1, 1, 1, 1, 1, 1, 1, 1, 1, 1, 1, 1, 1, 1, 1, 1, 1, 1, 1, 1, 1, 1, 1, 1]
  | .exit 5 => [0, 1, 1, 1, 1, 1, 0, 1, 1, 0, 0, 1, 1, 1, 1, 1, 1, 1, 1, 1, 1, 1, 1, 1, 1, 1, 1, 1, 1, 1, 1, 1, 1, 1, 1, 1, 1, 1, 1, 1, 1, 1, 1, 1, 1, 1, 1, 1, 1, 1, 1, 1, 1, 1, 1, 1, 1, 1, 1, 1, 1, 1, 1, 1, 1, 1, 1, 1, 1, 1, 1, 1, 1, 1, 1, 1, 1, 1, 1, 1, 1, 1, 1, 1, 1, 1, 1, 1, 1, 1, 1, 1, 1, 1, 1, 1, 1, 1, 1, 1]
  | .exit 6 => [0, 1, 1, 1, 1, 1, 0, 1, 1, 0, 0, 1, 1, 1, 1, 1, 1, 1, 1, 1, 1, 1, 1, 1, 1, 1, 1, 1, 1, 1, 1, 1, 1, 1, 1, 1, 1, 1, 1, 1, 1, 1, 1, 1, 1, 1, 1, 1, 1, 1, 1, 1, 1, 1, 1, 1, 1, 1, 1, 1, 1, 1, 1, 1, 1, 1, 1, 1, 1, 1, 1, 1, 1, 1, 1, 1, 1, 1, 1, 1, 1, 1, 1, 1, 1, 1, 1, 1, 1, 1, 1, 1, 1, 1, 1, 1, 1, 1, 1, 1]
  | .ret => [1, 1, 1, 1, 0, 0, 1, 1, 1, 1, 1, 1, 1, 1, 1, 1, 1, 1, 1, 1, 1, 1, 1, 1, 1, 1, 1, 1, 1, 1, 1, 1, 1, 1, 1, 1, 1, 1, 1, 1, 1, 1, 1, 1, 1, 1, 1, 1, 1, 1, 1, 1, 1, 1, 1, 1, 1, 1, 1, 1, 1, 1, 1, 1, 1, 1, 1, 1, 1, 1, 1, 1, 1, 1, 1, 1, 1, 1, 1, 1, 1, 1, 1, 1, 1, 1, 1, 1, 1, 1, 1, 1, 1, 1, 1, 1, 1, 1, 1, 1]
  | _ => []
noncomputable def spec_DividedOf_l4_T (v12 : List Nat) (v13 : List Nat) (s : Int × (List Nat)) : Tree ((Int × (List Nat)) ⊕ ((List Nat))) :=
  (.br (decide (s.1 < ((v12.length : Nat) : Int))) (
   (.need (some (spec_DividedOf_l6_E v12 v13 s.1 (IntKind.i64.wrap (((v12.length : Nat) : Int) - (1 : Int)), s.2)) = some (spec_DividedOf_l6_E v12 v13 s.1 (IntKind.i64.wrap (((v12.length : Nat) : Int) - (1 : Int)), s.2))) <|
   (.call (spec_DividedOf_l6_g v12 s.1 (IntKind.i64.wrap (((v12.length : Nat) : Int) - (1 : Int)), s.2)) fun v90 =>
   .leaf (.inl (IntKind.i64.wrap (s.1 + (1 : Int)), v90))))
  ) (
   .leaf (.inr s.2)
  ))

noncomputable def spec_DividedOf_l4_g (v12 : List Nat) (v13 : List Nat) (s0 : Int × (List Nat)) : Option ((List Nat)) := whileM (fun s => (spec_DividedOf_l4_T v12 v13 s).run) s0
def spec_DividedOf_l4_E (v12 : List Nat) (v13 : List Nat) (s : Int × (List Nat)) : Sd := ([.bslc (BR.root 0) (.f32 v12), .top, .top, .top, .top, .top, .int .i64 ((v12.length : Nat) : Int), .top, .top, .own 0 0 ((s.2).length), .int .i64 s.1, .top, .top, .top, .top, .top, .top, .top, .top, .top, .top, .top, .top, .top, .top, .top, .top, .top, .top, .top, .top, .top, .top, .top, .top, .top, .top, .top, .top, .top, .top, .top, .top, .top, .top, .top, .top, .top, .top, .top, .top, .top, .top, .top, .top, .top, .top, .top, .top, .top, .top, .top, .top, .top, .top, .top, .top, .top, .top, .top, .top, .top, .top, .top, .top, .top, .top, .top, .top, .top, .top, .top, .top, .top, .top, .top, .top, .top, .top, .top, .top, .top, .top, .top, .top, .top, .top, .top, .top, .top], [.row (.f32 s.2) 0])
def spec_DividedOf_l4_X (v12 : List Nat) (v13 : List Nat) (x : (List Nat)) : Out := (.normal, [.top, .top, .top, .top, .top, .top, .top, .top, .top, .own 0 0 ((x).length), .top, .top, .top, .top, .top, .top, .top, .top, .top, .top, .top, .top, .top, .top, .top, .top, .top, .top, .top, .top, .top, .top, .top, .top, .top, .top, .top, .top, .top, .top, .top, .top, .top, .top, .top, .top, .top, .top, .top, .top, .top, .top, .top, .top, .top, .top, .top, .top, .top, .top, .top, .top, .top, .top, .top, .top, .top, .top, .top, .top, .top, .top, .top, .top, .top, .top, .top, .top, .top, .top, .top, .top, .top, .top, .top, .top, .top, .top, .top, .top, .top, .top, .top, .top, .top, .top, .top, .top, .top, .top], [.row (.f32 x) 0])
def spec_DividedOf_l4_kill : List Nat := [0, 1, 1, 1, 1, 1, 0, 1, 1, 0, 0, 1, 1, 1, 1, 1, 1, 1, 1, 1, 1, 1, 1, 1, 1, 1, 1, 1, 1, 1, 1, 1, 1, 1, 1, 1, 1, 1, 1, 1, 1, 1, 1, 1, 1, 1, 1, 1, 1, 1, 1, 1, 1, 1, 1, 1, 1, 1, 1, 1, 1, 1, 1, 1, 1, 1, 1, 1, 1, 1, 1, 1, 1, 1, 1, 1, 1, 1, 1, 1, 1, 1, 1, 1, 1, 1, 1, 1, 1, 1, 1, 1, 1, 1, 1, 1, 1, 1, 1, 1]
def spec_DividedOf_l4_nx : Exit → List Nat
  | .exit 4 => [1, 1, 1, 1, 1, 1, 1, 1, 1, 0, 1, 1, 1, 1, 1, 1, 1, 1, 1, 1, 1, 1, 1, 1, 1, 1, 1, 1, 1, 1, 1, 1, 1, 1, 1, 1, 1, 1, 1, 1, 1, 1, 1, 1, 1, 1, 1, 1, 1, 1, 1, 1, 1, 1, 1, 1, 1, 1, 1, 1, 1, 1, 1, 1, 1, 1, 1, 1, 1, 1, 1, 1, 1, 1, 1, 1, 1, 1, 1, 1, 1, 1, 1, 1, 1, 1, 1, 1, 1, 1, 1, 1, 1, 1, 1, 1, 1, 1, 1, 1]
  | .ret => [1, 1, 1, 1, 0, 0, 1, 1, 1, 1, 1, 1, 1, 1, 1, 1, 1, 1, 1, 1, 1, 1, 1, 1, 1, 1, 1, 1, 1, 1, 1, 1, 1, 1, 1, 1, 1, 1, 1, 1, 1, 1, 1, 1, 1, 1, 1, 1, 1, 1, 1, 1, 1, 1, 1, 1, 1, 1, 1, 1, 1, 1, 1, 1, 1, 1, 1, 1, 1, 1, 1, 1, 1, 1, 1, 1, 1, 1, 1, 1, 1, 1, 1, 1, 1, 1, 1, 1, 1, 1, 1, 1, 1, 1, 1, 1, 1, 1, 1, 1]
  | _ => []
noncomputable def spec_DividedOf_LO (v12 : List Nat) (v13 : List Nat) : LOr := fun id e L =>
  match id with
  | 2 => .need (normA 0 spec_DividedOf_l2_kill e L = some (spec_DividedOf_l2_E v12 v13 (gI (vAt e 7)) (gI (vAt e 8)))) (.call (spec_DividedOf_l2_g v12 (gI (vAt e 7)) (gI (vAt e 8))) fun x => .sum x (fun b0 => .leaf (spec_DividedOf_l2_X v12 v13 (gI (vAt e 7)) (.inl b0))) (fun c0 => .leaf (spec_DividedOf_l2_X v12 v13 (gI (vAt e 7)) (.inr c0))))
  | 0 => .need (normA 0 spec_DividedOf_l0_kill e L = some (spec_DividedOf_l0_E v12 v13 (gI (vAt e 38)))) (.call (spec_DividedOf_l0_g v12 v13 (gI (vAt e 38))) fun x => .sum x (fun b0 => .leaf (spec_DividedOf_l0_X v12 v13 (.inl b0))) (fun c0 => .leaf (spec_DividedOf_l0_X v12 v13 (.inr c0))))
  | 6 => .need (normA 0 spec_DividedOf_l6_kill e L = some (spec_DividedOf_l6_E v12 v13 (gI (vAt e 10)) ((gI (vAt e 11)), (gRF L (vAt e 9))))) (.call (spec_DividedOf_l6_g v12 (gI (vAt e 10)) ((gI (vAt e 11)), (gRF L (vAt e 9)))) fun x => .leaf (spec_DividedOf_l6_X v12 v13 (gI (vAt e 10)) x))
  | 4 => .need (normA 0 spec_DividedOf_l4_kill e L = some (spec_DividedOf_l4_E v12 v13 ((gI (vAt e 10)), (gRF L (vAt e 9))))) (.call (spec_DividedOf_l4_g v12 v13 ((gI (vAt e 10)), (gRF L (vAt e 9)))) fun x => .leaf (spec_DividedOf_l4_X v12 v13 x))
  | _ => .fail
noncomputable def spec_DividedOf_tab : List (FuncId × DFn × Bool) := [(35, spec_l02Finite_F, true), (45, spec_l02List_F, true)]
theorem spec_DividedOf_hO : OrcOk Try.prog (tabD spec_DividedOf_tab) (tabM spec_DividedOf_tab) := tabD_cons spec_l02Finite_Fok (tabD_cons spec_l02List_Fok (tabD_nil _))
theorem spec_DividedOf_l2_be (v12 : List Nat) (v13 : List Nat) (v49 : Int) (s : Int) : bodyT TT (tabD spec_DividedOf_tab) (tabM spec_DividedOf_tab) (spec_DividedOf_LO v12 v13) 0 spec_DividedOf_l2_kill spec_DividedOf_l2_nx (bodyOf Try.f19 2) 2 (spec_DividedOf_l2_E v12 v13 v49 s) = (spec_DividedOf_l2_T v12 v49 s).bind fun y => .leaf (outS (spec_DividedOf_l2_E v12 v13 v49) (spec_DividedOf_l2_X v12 v13 v49) y) := by kernel_rfl
theorem spec_DividedOf_l2_ok (v12 : List Nat) (v13 : List Nat) : LSound Try.prog 0 (spec_DividedOf_LO v12 v13) 2 (bodyOf Try.f19 2) := by
  intro e L out h
  exact lo_ok (E := spec_DividedOf_l2_E v12 v13 (gI (vAt e 7))) (gT := spec_DividedOf_l2_T v12 (gI (vAt e 7))) (X := spec_DividedOf_l2_X v12 v13 (gI (vAt e 7))) (s0 := (gI (vAt e 8))) tok spec_DividedOf_hO mixed (LoopsOk_eq (l := []) (by kernel_rfl) trivial) (spec_DividedOf_l2_be v12 v13 (gI (vAt e 7))) rfl (by intro x; (cases x with | inl b => rfl | inr x => exact rfl)) h
theorem spec_DividedOf_l0_be (v12 : List Nat) (v13 : List Nat) (s : Int) : bodyT TT (tabD spec_DividedOf_tab) (tabM spec_DividedOf_tab) (spec_DividedOf_LO v12 v13) 0 spec_DividedOf_l0_kill spec_DividedOf_l0_nx (bodyOf Try.f19 0) 0 (spec_DividedOf_l0_E v12 v13 s) = (spec_DividedOf_l0_T v12 v13 s).bind fun y => .leaf (outS (spec_DividedOf_l0_E v12 v13) (spec_DividedOf_l0_X v12 v13) y) := by kernel_rfl
theorem spec_DividedOf_l0_ok (v12 : List Nat) (v13 : List Nat) : LSound Try.prog 0 (spec_DividedOf_LO v12 v13) 0 (bodyOf Try.f19 0) := by
  intro e L out h
  exact lo_ok (E := spec_DividedOf_l0_E v12 v13) (gT := spec_DividedOf_l0_T v12 v13) (X := spec_DividedOf_l0_X v12 v13) (s0 := (gI (vAt e 38))) tok spec_DividedOf_hO mixed (LoopsOk_eq (l := [(2, bodyOf Try.f19 2)]) (by kernel_rfl) ⟨spec_DividedOf_l2_ok v12 v13, trivial⟩) (spec_DividedOf_l0_be v12 v13) rfl (by intro x; (cases x with | inl b => rfl | inr x => exact rfl)) h
theorem spec_DividedOf_l6_be (v12 : List Nat) (v13 : List Nat) (v87 : Int) (s : Int × (List Nat)) : bodyT TT (tabD spec_DividedOf_tab) (tabM spec_DividedOf_tab) (spec_DividedOf_LO v12 v13) 0 spec_DividedOf_l6_kill spec_DividedOf_l6_nx (bodyOf Try.f19 6) 6 (spec_DividedOf_l6_E v12 v13 v87 s) = (spec_DividedOf_l6_T v12 v87 s).bind fun y => .leaf (outS (spec_DividedOf_l6_E v12 v13 v87) (spec_DividedOf_l6_X v12 v13 v87) y) := by kernel_rfl
theorem spec_DividedOf_l6_ok (v12 : List Nat) (v13 : List Nat) : LSound Try.prog 0 (spec_DividedOf_LO v12 v13) 6 (bodyOf Try.f19 6) := by
  intro e L out h
  exact lo_ok (E := spec_DividedOf_l6_E v12 v13 (gI (vAt e 10))) (gT := spec_DividedOf_l6_T v12 (gI (vAt e 10))) (X := spec_DividedOf_l6_X v12 v13 (gI (vAt e 10))) (s0 := ((gI (vAt e 11)), (gRF L (vAt e 9)))) tok spec_DividedOf_hO mixed (LoopsOk_eq (l := []) (by kernel_rfl) trivial) (spec_DividedOf_l6_be v12 v13 (gI (vAt e 10))) rfl (by intro x; rfl) h
theorem spec_DividedOf_l4_be (v12 : List Nat) (v13 : List Nat) (s : Int × (List Nat)) : bodyT TT (tabD spec_DividedOf_tab) (tabM spec_DividedOf_tab) (spec_DividedOf_LO v12 v13) 0 spec_DividedOf_l4_kill spec_DividedOf_l4_nx (bodyOf Try.f19 4) 4 (spec_DividedOf_l4_E v12 v13 s) = (spec_DividedOf_l4_T v12 v13 s).bind fun y => .leaf (outS (spec_DividedOf_l4_E v12 v13) (spec_DividedOf_l4_X v12 v13) y) := by kernel_rfl
theorem spec_DividedOf_l4_ok (v12 : List Nat) (v13 : List Nat) : LSound Try.prog 0 (spec_DividedOf_LO v12 v13) 4 (bodyOf Try.f19 4) := by
  intro e L out h
  exact lo_ok (E := spec_DividedOf_l4_E v12 v13) (gT := spec_DividedOf_l4_T v12 v13) (X := spec_DividedOf_l4_X v12 v13) (s0 := ((gI (vAt e 10)), (gRF L (vAt e 9)))) tok spec_DividedOf_hO mixed (LoopsOk_eq (l := [(6, bodyOf Try.f19 6)]) (by kernel_rfl) ⟨spec_DividedOf_l6_ok v12 v13, trivial⟩) (spec_DividedOf_l4_be v12 v13) rfl (by intro x; rfl) h
noncomputable def spec_DividedOf_T (v12 : List Nat) (v13 : List Nat) : Tree ((Unit) ⊕ ((List Nat))) :=
  (.br (decide (((v12.length : Nat) : Int) < (1 : Int))) (
   .leaf (.inl ())
  ) (
   (.br (decide ((32 : Int) < ((v12.length : Nat) : Int))) (
    .leaf (.inl ())
   ) (
    (.br (!decide (((v13.length : Nat) : Int) = ((v12.length : Nat) : Int))) (
     .leaf (.inl ())
    ) (
     (.call (spec_l02Finite_g v12) fun v22 =>
     (.br (!v22) (
      .leaf (.inl ())
     ) (
      (.call (spec_l02Finite_g v13) fun v23 =>
      (.br (!v23) (
       .leaf (.inl ())
      ) (
       (.need (some (spec_DividedOf_l0_E v12 v13 (0 : Int)) = some (spec_DividedOf_l0_E v12 v13 (0 : Int))) <|
       (.call (spec_DividedOf_l0_g v12 v13 (0 : Int)) fun v54 =>
       (.sum v54 (fun v55 =>
        .leaf (.inl ())
       ) (fun v56 =>
        (.grd (fits (([] : List Nat) ++ v13).length) <|
        (.need (some (spec_DividedOf_l4_E v12 v13 ((1 : Int), ([] : List Nat) ++ v13)) = some (spec_DividedOf_l4_E v12 v13 ((1 : Int), ([] : List Nat) ++ v13))) <|
        (.call (spec_DividedOf_l4_g v12 v13 ((1 : Int), ([] : List Nat) ++ v13)) fun v91 =>
        (.call (spec_l02List_g v91) fun v94 =>
        (.sum v94 (fun v95 =>
         .leaf (.inl ())
        ) (fun v96 =>
         .leaf (.inr v91)
        ))))))
       ))))
      )))
     )))
    ))
   ))
  ))

noncomputable def spec_DividedOf_g (v12 : List Nat) (v13 : List Nat) : Option ((Unit) ⊕ ((List Nat))) := (spec_DividedOf_T v12 v13).run
def spec_DividedOf_enc (v12 : List Nat) (v13 : List Nat) (y : (Unit) ⊕ ((List Nat))) : Rs := (match y with | .inl y => (.tup [.nilslc, .lit false], []) | .inr y => (.tup [.own 0 0 ((y).length), .lit true], [.row (.f32 y) 0]))
theorem spec_DividedOf_den (v12 : List Nat) (v13 : List Nat) : (den TT (tabD spec_DividedOf_tab) (tabM spec_DividedOf_tab) (spec_DividedOf_LO v12 v13) (codeOf Try.f19) ([.bslc (BR.root 0) (.f32 v12), .bslc (BR.root 1) (.f32 v13)] ++ List.replicate (Try.f19.ntmps - ([.bslc (BR.root 0) (.f32 v12), .bslc (BR.root 1) (.f32 v13)] : List DV).length) .undef) []).bind (retD TT Try.f19.results.toList 0) = (spec_DividedOf_T v12 v13).bind fun y => .leaf (spec_DividedOf_enc v12 v13 y) := by kernel_rfl
theorem spec_DividedOf_fn (v12 : List Nat) (v13 : List Nat) (F : Fr) (hm : F.ids.length = 0) (h0 : St F [] F.H0) (hA : DVs.Ok F [] [.bslc (BR.root 0) (.f32 v12), .bslc (BR.root 1) (.f32 v13)]) {y : (Unit) ⊕ ((List Nat))} (hy : spec_DividedOf_g v12 v13 = some y) : ∃ H', FnOk Try.prog 19 (DVs.av F [.bslc (BR.root 0) (.f32 v12), .bslc (BR.root 1) (.f32 v13)]) F.H0 ((spec_DividedOf_enc v12 v13 y).1.av F) H' ∧ St F (spec_DividedOf_enc v12 v13 y).2 H' ∧ (spec_DividedOf_enc v12 v13 y).1.Ok F (spec_DividedOf_enc v12 v13 y).2 :=
  fn_fin tok spec_DividedOf_hO mixed Try.func19 Try.call19 (by kernel_rfl) (LoopsOk_eq (l := [(0, bodyOf Try.f19 0), (4, bodyOf Try.f19 4)]) (by kernel_rfl) ⟨spec_DividedOf_l0_ok v12 v13, spec_DividedOf_l4_ok v12 v13, trivial⟩) (spec_DividedOf_den v12 v13) hy hm h0 hA
noncomputable def spec_DividedOf_F : DFn := fun args L =>
  match args with
  | [a1, a2] =>
    optT (rowF32 L a1) fun v12 =>
    optT (rowF32 L a2) fun v13 =>
    .call (spec_DividedOf_g v12 v13) fun y => .sum y (fun y0 => .leaf (.tup [.nilslc, .lit false], L)) (fun z0 => .leaf (.tup [.own (L.length + 0) 0 ((z0).length), .lit true], L ++ [.row (.f32 z0) 0]))
  | _ => .fail
theorem spec_DividedOf_Fok : COk Try.prog 19 spec_DividedOf_F true := by
  intro F L H args r L' hs ha hr
  unfold spec_DividedOf_F at hr
  split at hr
  · rename_i a1 a2
    obtain ⟨v12, hv12, hr⟩ := optT_run hr
    obtain ⟨v13, hv13, hr⟩ := optT_run hr
    simp only [Tree.run] at hr
    obtain ⟨y, hy, hr⟩ := Option.bind_eq_some_iff.1 hr
    cases y with
    | inl y =>
      simp only [Tree.run, Option.some.injEq, Prod.mk.injEq] at hr
      obtain ⟨rfl, rfl⟩ := hr
      exact call_ok0 hs (fun k => (([a1.av F, a2.av F] : List AV)[k]?).getD .top) [a1, a2] [.bslc (BR.root 0) (.f32 v12), .bslc (BR.root 1) (.f32 v13)] (fun F' h0 hi hρ => ⟨by simp [DVs.av, DV.av, BR.av, hρ], spec_DividedOf_fn v12 v13 F' (by rw [hi]; rfl) (st_nil hi) ⟨bslc_ok hi (by rw [h0, hρ]; exact rowF32_ok hs (DVs.okAt ha 0 rfl) hv12), bslc_ok hi (by rw [h0, hρ]; exact rowF32_ok hs (DVs.okAt ha 1 rfl) hv13), trivial⟩ hy⟩) rfl
    | inr y =>
      simp only [Tree.run, Option.some.injEq, Prod.mk.injEq] at hr
      obtain ⟨rfl, rfl⟩ := hr
      exact call_ok1 hs (fun k => (([a1.av F, a2.av F] : List AV)[k]?).getD .top) [a1, a2] [.bslc (BR.root 0) (.f32 v12), .bslc (BR.root 1) (.f32 v13)] (fun F' h0 hi hρ => ⟨by simp [DVs.av, DV.av, BR.av, hρ], spec_DividedOf_fn v12 v13 F' (by rw [hi]; rfl) (st_nil hi) ⟨bslc_ok hi (by rw [h0, hρ]; exact rowF32_ok hs (DVs.okAt ha 0 rfl) hv12), bslc_ok hi (by rw [h0, hρ]; exact rowF32_ok hs (DVs.okAt ha 1 rfl) hv13), trivial⟩ hy⟩) rfl rfl
  · cases hr
/-! impl.length[float32] -/
noncomputable def impl_lengthF_LO (v106 : List Nat) : LOr := fun id e L =>
  match id with
  | _ => .fail
noncomputable def impl_lengthF_tab : List (FuncId × DFn × Bool) := []
theorem impl_lengthF_hO : OrcOk Try.prog (tabD impl_lengthF_tab) (tabM impl_lengthF_tab) := tabD_nil _
noncomputable def impl_lengthF_T (v106 : List Nat) : Tree (Int) :=
  .leaf ((v106.length : Nat) : Int)

noncomputable def impl_lengthF_g (v106 : List Nat) : Option (Int) := (impl_lengthF_T v106).run
def impl_lengthF_enc (v106 : List Nat) (y : Int) : Rs := (.int .i64 y, [])
theorem impl_lengthF_den (v106 : List Nat) : (den TT (tabD impl_lengthF_tab) (tabM impl_lengthF_tab) (impl_lengthF_LO v106) (codeOf Try.f57) ([.bslc (BR.root 0) (.f32 v106)] ++ List.replicate (Try.f57.ntmps - ([.bslc (BR.root 0) (.f32 v106)] : List DV).length) .undef) []).bind (retD TT Try.f57.results.toList 0) = (impl_lengthF_T v106).bind fun y => .leaf (impl_lengthF_enc v106 y) := by kernel_rfl
theorem impl_lengthF_fn (v106 : List Nat) (F : Fr) (hm : F.ids.length = 0) (h0 : St F [] F.H0) (hA : DVs.Ok F [] [.bslc (BR.root 0) (.f32 v106)]) {y : Int} (hy : impl_lengthF_g v106 = some y) : ∃ H', FnOk Try.prog 57 (DVs.av F [.bslc (BR.root 0) (.f32 v106)]) F.H0 ((impl_lengthF_enc v106 y).1.av F) H' ∧ St F (impl_lengthF_enc v106 y).2 H' ∧ (impl_lengthF_enc v106 y).1.Ok F (impl_lengthF_enc v106 y).2 :=
  fn_fin tok impl_lengthF_hO mixed Try.func57 Try.call57 (by kernel_rfl) (LoopsOk_eq (l := []) (by kernel_rfl) trivial) (impl_lengthF_den v106) hy hm h0 hA
def impl_lengthF_v (v106 : List Nat) : Int :=
  ((v106.length : Nat) : Int)
theorem impl_lengthF_tot (v106 : List Nat) : impl_lengthF_g v106 = some (impl_lengthF_v v106) := by
  unfold impl_lengthF_g impl_lengthF_T impl_lengthF_v
  simp only [Tree.run]
  repeat' (first | rfl | split)
noncomputable def impl_lengthF_F : DFn := fun args L =>
  match args with
  | [a1] =>
    optT (rowF32 L a1) fun v106 =>
    .leaf (.int .i64 (impl_lengthF_v v106), L)
  | _ => .fail
theorem impl_lengthF_Fok : COk Try.prog 57 impl_lengthF_F true := by
  intro F L H args r L' hs ha hr
  unfold impl_lengthF_F at hr
  split at hr
  · rename_i a1
    obtain ⟨v106, hv106, hr⟩ := optT_run hr
    have hy := impl_lengthF_tot v106
    generalize impl_lengthF_v v106 = y at hy hr
    simp only [Tree.run, Option.some.injEq, Prod.mk.injEq] at hr
    obtain ⟨rfl, rfl⟩ := hr
    exact call_ok0 hs (fun k => (([a1.av F] : List AV)[k]?).getD .top) [a1] [.bslc (BR.root 0) (.f32 v106)] (fun F' h0 hi hρ => ⟨by simp [DVs.av, DV.av, BR.av, hρ], impl_lengthF_fn v106 F' (by rw [hi]; rfl) (st_nil hi) ⟨bslc_ok hi (by rw [h0, hρ]; exact rowF32_ok hs (DVs.okAt ha 0 rfl) hv106), trivial⟩ hy⟩) rfl
  · cases hr
/-! impl.inRange -/
noncomputable def impl_inRange_LO (v107 : Int) (v108 : Int) (v109 : Int) : LOr := fun id e L =>
  match id with
  | _ => .fail
noncomputable def impl_inRange_tab : List (FuncId × DFn × Bool) := []
theorem impl_inRange_hO : OrcOk Try.prog (tabD impl_inRange_tab) (tabM impl_inRange_tab) := tabD_nil _
noncomputable def impl_inRange_T (v107 : Int) (v108 : Int) (v109 : Int) : Tree (Bool) :=
  (.br (decide (v108 ≤ v107)) (
   .leaf (decide (v107 ≤ v109))
  ) (
   .leaf false
  ))

noncomputable def impl_inRange_g (v107 : Int) (v108 : Int) (v109 : Int) : Option (Bool) := (impl_inRange_T v107 v108 v109).run
def impl_inRange_enc (v107 : Int) (v108 : Int) (v109 : Int) (y : Bool) : Rs := (.bool y, [])
theorem impl_inRange_den (v107 : Int) (v108 : Int) (v109 : Int) : (den TT (tabD impl_inRange_tab) (tabM impl_inRange_tab) (impl_inRange_LO v107 v108 v109) (codeOf Try.f63) ([.int .i64 v107, .int .i64 v108, .int .i64 v109] ++ List.replicate (Try.f63.ntmps - ([.int .i64 v107, .int .i64 v108, .int .i64 v109] : List DV).length) .undef) []).bind (retD TT Try.f63.results.toList 0) = (impl_inRange_T v107 v108 v109).bind fun y => .leaf (impl_inRange_enc v107 v108 v109 y) := by kernel_rfl
theorem impl_inRange_fn (v107 : Int) (v108 : Int) (v109 : Int) (F : Fr) (hm : F.ids.length = 0) (h0 : St F [] F.H0) (hA : DVs.Ok F [] [.int .i64 v107, .int .i64 v108, .int .i64 v109]) {y : Bool} (hy : impl_inRange_g v107 v108 v109 = some y) : ∃ H', FnOk Try.prog 63 (DVs.av F [.int .i64 v107, .int .i64 v108, .int .i64 v109]) F.H0 ((impl_inRange_enc v107 v108 v109 y).1.av F) H' ∧ St F (impl_inRange_enc v107 v108 v109 y).2 H' ∧ (impl_inRange_enc v107 v108 v109 y).1.Ok F (impl_inRange_enc v107 v108 v109 y).2 :=
  fn_fin tok impl_inRange_hO mixed Try.func63 Try.call63 (by kernel_rfl) (LoopsOk_eq (l := []) (by kernel_rfl) trivial) (impl_inRange_den v107 v108 v109) hy hm h0 hA
def impl_inRange_v (v107 : Int) (v108 : Int) (v109 : Int) : Bool :=
  if (decide (v108 ≤ v107)) = true then (
   decide (v107 ≤ v109)
  ) else (
   false
  )
theorem impl_inRange_tot (v107 : Int) (v108 : Int) (v109 : Int) : impl_inRange_g v107 v108 v109 = some (impl_inRange_v v107 v108 v109) := by
  unfold impl_inRange_g impl_inRange_T impl_inRange_v
  simp only [Tree.run]
  repeat' (first | rfl | split)
noncomputable def impl_inRange_F : DFn := fun args L =>
  match args with
  | [.int .i64 v107, .int .i64 v108, .int .i64 v109] =>
    .leaf (.bool (impl_inRange_v v107 v108 v109), L)
  | _ => .fail
theorem impl_inRange_Fok : COk Try.prog 63 impl_inRange_F true := by
  intro F L H args r L' hs ha hr
  unfold impl_inRange_F at hr
  split at hr
  · rename_i v107 v108 v109
    have hy := impl_inRange_tot v107 v108 v109
    generalize impl_inRange_v v107 v108 v109 = y at hy hr
    simp only [Tree.run, Option.some.injEq, Prod.mk.injEq] at hr
    obtain ⟨rfl, rfl⟩ := hr
    exact call_ok0 hs (fun k => (([] : List AV)[k]?).getD .top) [.int .i64 v107, .int .i64 v108, .int .i64 v109] [.int .i64 v107, .int .i64 v108, .int .i64 v109] (fun F' h0 hi hρ => ⟨by simp [DVs.av, DV.av, BR.av, hρ], impl_inRange_fn v107 v108 v109 F' (by rw [hi]; rfl) (st_nil hi) ⟨trivial, trivial, trivial, trivial⟩ hy⟩) rfl
  · cases hr
/-! math.IsNaN -/
noncomputable def math_IsNaN_LO (v117 : Nat) : LOr := fun id e L =>
  match id with
  | _ => .fail
noncomputable def math_IsNaN_tab : List (FuncId × DFn × Bool) := []
theorem math_IsNaN_hO : OrcOk Try.prog (tabD math_IsNaN_tab) (tabM math_IsNaN_tab) := tabD_nil _
noncomputable def math_IsNaN_T (v117 : Nat) : Tree (Bool) :=
  .leaf (!feq .f64 v117 v117)

noncomputable def math_IsNaN_g (v117 : Nat) : Option (Bool) := (math_IsNaN_T v117).run
def math_IsNaN_enc (v117 : Nat) (y : Bool) : Rs := (.bool y, [])
theorem math_IsNaN_den (v117 : Nat) : (den TT (tabD math_IsNaN_tab) (tabM math_IsNaN_tab) (math_IsNaN_LO v117) (codeOf Try.f73) ([.flt .f64 v117] ++ List.replicate (Try.f73.ntmps - ([.flt .f64 v117] : List DV).length) .undef) []).bind (retD TT Try.f73.results.toList 0) = (math_IsNaN_T v117).bind fun y => .leaf (math_IsNaN_enc v117 y) := by kernel_rfl
theorem math_IsNaN_fn (v117 : Nat) (F : Fr) (hm : F.ids.length = 0) (h0 : St F [] F.H0) (hA : DVs.Ok F [] [.flt .f64 v117]) {y : Bool} (hy : math_IsNaN_g v117 = some y) : ∃ H', FnOk Try.prog 73 (DVs.av F [.flt .f64 v117]) F.H0 ((math_IsNaN_enc v117 y).1.av F) H' ∧ St F (math_IsNaN_enc v117 y).2 H' ∧ (math_IsNaN_enc v117 y).1.Ok F (math_IsNaN_enc v117 y).2 :=
  fn_fin tok math_IsNaN_hO mixed Try.func73 Try.call73 (by kernel_rfl) (LoopsOk_eq (l := []) (by kernel_rfl) trivial) (math_IsNaN_den v117) hy hm h0 hA
def math_IsNaN_v (v117 : Nat) : Bool :=
  !feq .f64 v117 v117
theorem math_IsNaN_tot (v117 : Nat) : math_IsNaN_g v117 = some (math_IsNaN_v v117) := by
  unfold math_IsNaN_g math_IsNaN_T math_IsNaN_v
  simp only [Tree.run]
  repeat' (first | rfl | split)
noncomputable def math_IsNaN_F : DFn := fun args L =>
  match args with
  | [.flt .f64 v117] =>
    .leaf (.bool (math_IsNaN_v v117), L)
  | _ => .fail
theorem math_IsNaN_Fok : COk Try.prog 73 math_IsNaN_F true := by
  intro F L H args r L' hs ha hr
  unfold math_IsNaN_F at hr
  split at hr
  · rename_i v117
    have hy := math_IsNaN_tot v117
    generalize math_IsNaN_v v117 = y at hy hr
    simp only [Tree.run, Option.some.injEq, Prod.mk.injEq] at hr
    obtain ⟨rfl, rfl⟩ := hr
    exact call_ok0 hs (fun k => (([] : List AV)[k]?).getD .top) [.flt .f64 v117] [.flt .f64 v117] (fun F' h0 hi hρ => ⟨by simp [DVs.av, DV.av, BR.av, hρ], math_IsNaN_fn v117 F' (by rw [hi]; rfl) (st_nil hi) ⟨trivial, trivial⟩ hy⟩) rfl
  · cases hr
/-! math.IsInf -/
noncomputable def math_IsInf_LO (v118 : Nat) (v119 : Int) : LOr := fun id e L =>
  match id with
  | _ => .fail
noncomputable def math_IsInf_tab : List (FuncId × DFn × Bool) := [(77, Abs_F, true)]
theorem math_IsInf_hO : OrcOk Try.prog (tabD math_IsInf_tab) (tabM math_IsInf_tab) := tabD_cons Abs_Fok (tabD_nil _)
noncomputable def math_IsInf_T (v118 : Nat) (v119 : Int) : Tree (Bool) :=
  (.br (decide (v119 = (0 : Int))) (
   .leaf (fgrt .f64 (fabs v118) (9218868437227405311 : Nat))
  ) (
   (.br (decide (v119 < (0 : Int))) (
    .leaf (fgrt .f64 (fneg .f64 v118) (9218868437227405311 : Nat))
   ) (
    .leaf (fgrt .f64 v118 (9218868437227405311 : Nat))
   ))
  ))

noncomputable def math_IsInf_g (v118 : Nat) (v119 : Int) : Option (Bool) := (math_IsInf_T v118 v119).run
def math_IsInf_enc (v118 : Nat) (v119 : Int) (y : Bool) : Rs := (.bool y, [])
theorem math_IsInf_den (v118 : Nat) (v119 : Int) : (den TT (tabD math_IsInf_tab) (tabM math_IsInf_tab) (math_IsInf_LO v118 v119) (codeOf Try.f74) ([.flt .f64 v118, .int .i64 v119] ++ List.replicate (Try.f74.ntmps - ([.flt .f64 v118, .int .i64 v119] : List DV).length) .undef) []).bind (retD TT Try.f74.results.toList 0) = (math_IsInf_T v118 v119).bind fun y => .leaf (math_IsInf_enc v118 v119 y) := by kernel_rfl
theorem math_IsInf_fn (v118 : Nat) (v119 : Int) (F : Fr) (hm : F.ids.length = 0) (h0 : St F [] F.H0) (hA : DVs.Ok F [] [.flt .f64 v118, .int .i64 v119]) {y : Bool} (hy : math_IsInf_g v118 v119 = some y) : ∃ H', FnOk Try.prog 74 (DVs.av F [.flt .f64 v118, .int .i64 v119]) F.H0 ((math_IsInf_enc v118 v119 y).1.av F) H' ∧ St F (math_IsInf_enc v118 v119 y).2 H' ∧ (math_IsInf_enc v118 v119 y).1.Ok F (math_IsInf_enc v118 v119 y).2 :=
  fn_fin tok math_IsInf_hO mixed Try.func74 Try.call74 (by kernel_rfl) (LoopsOk_eq (l := []) (by kernel_rfl) trivial) (math_IsInf_den v118 v119) hy hm h0 hA
def math_IsInf_v (v118 : Nat) (v119 : Int) : Bool :=
  if (decide (v119 = (0 : Int))) = true then (
   fgrt .f64 (fabs v118) (9218868437227405311 : Nat)
  ) else (
   if (decide (v119 < (0 : Int))) = true then (
    fgrt .f64 (fneg .f64 v118) (9218868437227405311 : Nat)
   ) else (
    fgrt .f64 v118 (9218868437227405311 : Nat)
   )
  )
theorem math_IsInf_tot (v118 : Nat) (v119 : Int) : math_IsInf_g v118 v119 = some (math_IsInf_v v118 v119) := by
  unfold math_IsInf_g math_IsInf_T math_IsInf_v
  simp only [Tree.run]
  repeat' (first | rfl | split)
noncomputable def math_IsInf_F : DFn := fun args L =>
  match args with
  | [.flt .f64 v118, .int .i64 v119] =>
    .leaf (.bool (math_IsInf_v v118 v119), L)
  | _ => .fail
theorem math_IsInf_Fok : COk Try.prog 74 math_IsInf_F true := by
  intro F L H args r L' hs ha hr
  unfold math_IsInf_F at hr
  split at hr
  · rename_i v118 v119
    have hy := math_IsInf_tot v118 v119
    generalize math_IsInf_v v118 v119 = y at hy hr
    simp only [Tree.run, Option.some.injEq, Prod.mk.injEq] at hr
    obtain ⟨rfl, rfl⟩ := hr
    exact call_ok0 hs (fun k => (([] : List AV)[k]?).getD .top) [.flt .f64 v118, .int .i64 v119] [.flt .f64 v118, .int .i64 v119] (fun F' h0 hi hρ => ⟨by simp [DVs.av, DV.av, BR.av, hρ], math_IsInf_fn v118 v119 F' (by rw [hi]; rfl) (st_nil hi) ⟨trivial, trivial, trivial⟩ hy⟩) rfl
  · cases hr
/-! impl.isFinite64 -/
noncomputable def impl_isFinite64_LO (v116 : Nat) : LOr := fun id e L =>
  match id with
  | _ => .fail
noncomputable def impl_isFinite64_tab : List (FuncId × DFn × Bool) := [(73, math_IsNaN_F, true), (74, math_IsInf_F, true)]
theorem impl_isFinite64_hO : OrcOk Try.prog (tabD impl_isFinite64_tab) (tabM impl_isFinite64_tab) := tabD_cons math_IsNaN_Fok (tabD_cons math_IsInf_Fok (tabD_nil _))
noncomputable def impl_isFinite64_T (v116 : Nat) : Tree (Bool) :=
  (.br (!(math_IsNaN_v v116)) (
   .leaf (!(math_IsInf_v v116 (0 : Int)))
  ) (
   .leaf false
  ))

noncomputable def impl_isFinite64_g (v116 : Nat) : Option (Bool) := (impl_isFinite64_T v116).run
def impl_isFinite64_enc (v116 : Nat) (y : Bool) : Rs := (.bool y, [])
theorem impl_isFinite64_den (v116 : Nat) : (den TT (tabD impl_isFinite64_tab) (tabM impl_isFinite64_tab) (impl_isFinite64_LO v116) (codeOf Try.f64) ([.flt .f64 v116] ++ List.replicate (Try.f64.ntmps - ([.flt .f64 v116] : List DV).length) .undef) []).bind (retD TT Try.f64.results.toList 0) = (impl_isFinite64_T v116).bind fun y => .leaf (impl_isFinite64_enc v116 y) := by kernel_rfl
theorem impl_isFinite64_fn (v116 : Nat) (F : Fr) (hm : F.ids.length = 0) (h0 : St F [] F.H0) (hA : DVs.Ok F [] [.flt .f64 v116]) {y : Bool} (hy : impl_isFinite64_g v116 = some y) : ∃ H', FnOk Try.prog 64 (DVs.av F [.flt .f64 v116]) F.H0 ((impl_isFinite64_enc v116 y).1.av F) H' ∧ St F (impl_isFinite64_enc v116 y).2 H' ∧ (impl_isFinite64_enc v116 y).1.Ok F (impl_isFinite64_enc v116 y).2 :=
  fn_fin tok impl_isFinite64_hO mixed Try.func64 Try.call64 (by kernel_rfl) (LoopsOk_eq (l := []) (by kernel_rfl) trivial) (impl_isFinite64_den v116) hy hm h0 hA
def impl_isFinite64_v (v116 : Nat) : Bool :=
  if (!(math_IsNaN_v v116)) = true then (
   !(math_IsInf_v v116 (0 : Int))
  ) else (
   false
  )
theorem impl_isFinite64_tot (v116 : Nat) : impl_isFinite64_g v116 = some (impl_isFinite64_v v116) := by
  unfold impl_isFinite64_g impl_isFinite64_T impl_isFinite64_v
  simp only [Tree.run]
  repeat' (first | rfl | split)
noncomputable def impl_isFinite64_F : DFn := fun args L =>
  match args with
  | [.flt .f64 v116] =>
    .leaf (.bool (impl_isFinite64_v v116), L)
  | _ => .fail
theorem impl_isFinite64_Fok : COk Try.prog 64 impl_isFinite64_F true := by
  intro F L H args r L' hs ha hr
  unfold impl_isFinite64_F at hr
  split at hr
  · rename_i v116
    have hy := impl_isFinite64_tot v116
    generalize impl_isFinite64_v v116 = y at hy hr
    simp only [Tree.run, Option.some.injEq, Prod.mk.injEq] at hr
    obtain ⟨rfl, rfl⟩ := hr
    exact call_ok0 hs (fun k => (([] : List AV)[k]?).getD .top) [.flt .f64 v116] [.flt .f64 v116] (fun F' h0 hi hρ => ⟨by simp [DVs.av, DV.av, BR.av, hρ], impl_isFinite64_fn v116 F' (by rw [hi]; rfl) (st_nil hi) ⟨trivial, trivial⟩ hy⟩) rfl
  · cases hr
/-! impl.IsFinite -/
noncomputable def impl_IsFinite_LO (v115 : Nat) : LOr := fun id e L =>
  match id with
  | _ => .fail
noncomputable def impl_IsFinite_tab : List (FuncId × DFn × Bool) := [(64, impl_isFinite64_F, true)]
theorem impl_IsFinite_hO : OrcOk Try.prog (tabD impl_IsFinite_tab) (tabM impl_IsFinite_tab) := tabD_cons impl_isFinite64_Fok (tabD_nil _)
noncomputable def impl_IsFinite_T (v115 : Nat) : Tree (Bool) :=
  .leaf (impl_isFinite64_v (wid v115))

noncomputable def impl_IsFinite_g (v115 : Nat) : Option (Bool) := (impl_IsFinite_T v115).run
def impl_IsFinite_enc (v115 : Nat) (y : Bool) : Rs := (.bool y, [])
theorem impl_IsFinite_den (v115 : Nat) : (den TT (tabD impl_IsFinite_tab) (tabM impl_IsFinite_tab) (impl_IsFinite_LO v115) (codeOf Try.f39) ([.flt .f32 v115] ++ List.replicate (Try.f39.ntmps - ([.flt .f32 v115] : List DV).length) .undef) []).bind (retD TT Try.f39.results.toList 0) = (impl_IsFinite_T v115).bind fun y => .leaf (impl_IsFinite_enc v115 y) := by kernel_rfl
theorem impl_IsFinite_fn (v115 : Nat) (F : Fr) (hm : F.ids.length = 0) (h0 : St F [] F.H0) (hA : DVs.Ok F [] [.flt .f32 v115]) {y : Bool} (hy : impl_IsFinite_g v115 = some y) : ∃ H', FnOk Try.prog 39 (DVs.av F [.flt .f32 v115]) F.H0 ((impl_IsFinite_enc v115 y).1.av F) H' ∧ St F (impl_IsFinite_enc v115 y).2 H' ∧ (impl_IsFinite_enc v115 y).1.Ok F (impl_IsFinite_enc v115 y).2 :=
  fn_fin tok impl_IsFinite_hO mixed Try.func39 Try.call39 (by kernel_rfl) (LoopsOk_eq (l := []) (by kernel_rfl) trivial) (impl_IsFinite_den v115) hy hm h0 hA
def impl_IsFinite_v (v115 : Nat) : Bool :=
  (impl_isFinite64_v (wid v115))
theorem impl_IsFinite_tot (v115 : Nat) : impl_IsFinite_g v115 = some (impl_IsFinite_v v115) := by
  unfold impl_IsFinite_g impl_IsFinite_T impl_IsFinite_v
  simp only [Tree.run]
  repeat' (first | rfl | split)
noncomputable def impl_IsFinite_F : DFn := fun args L =>
  match args with
  | [.flt .f32 v115] =>
    .leaf (.bool (impl_IsFinite_v v115), L)
  | _ => .fail
theorem impl_IsFinite_Fok : COk Try.prog 39 impl_IsFinite_F true := by
  intro F L H args r L' hs ha hr
  unfold impl_IsFinite_F at hr
  split at hr
  · rename_i v115
    have hy := impl_IsFinite_tot v115
    generalize impl_IsFinite_v v115 = y at hy hr
    simp only [Tree.run, Option.some.injEq, Prod.mk.injEq] at hr
    obtain ⟨rfl, rfl⟩ := hr
    exact call_ok0 hs (fun k => (([] : List AV)[k]?).getD .top) [.flt .f32 v115] [.flt .f32 v115] (fun F' h0 hi hρ => ⟨by simp [DVs.av, DV.av, BR.av, hρ], impl_IsFinite_fn v115 F' (by rw [hi]; rfl) (st_nil hi) ⟨trivial, trivial⟩ hy⟩) rfl
  · cases hr
/-! impl.areFinite$1 -/
noncomputable def impl_areFinite_1_LO (v114 : Nat) : LOr := fun id e L =>
  match id with
  | _ => .fail
noncomputable def impl_areFinite_1_tab : List (FuncId × DFn × Bool) := [(39, impl_IsFinite_F, true)]
theorem impl_areFinite_1_hO : OrcOk Try.prog (tabD impl_areFinite_1_tab) (tabM impl_areFinite_1_tab) := tabD_cons impl_IsFinite_Fok (tabD_nil _)
noncomputable def impl_areFinite_1_T (v114 : Nat) : Tree (Bool) :=
  .leaf (!(impl_IsFinite_v v114))

noncomputable def impl_areFinite_1_g (v114 : Nat) : Option (Bool) := (impl_areFinite_1_T v114).run
def impl_areFinite_1_enc (v114 : Nat) (y : Bool) : Rs := (.bool y, [])
theorem impl_areFinite_1_den (v114 : Nat) : (den TT (tabD impl_areFinite_1_tab) (tabM impl_areFinite_1_tab) (impl_areFinite_1_LO v114) (codeOf Try.f66) ([.flt .f32 v114] ++ List.replicate (Try.f66.ntmps - ([.flt .f32 v114] : List DV).length) .undef) []).bind (retD TT Try.f66.results.toList 0) = (impl_areFinite_1_T v114).bind fun y => .leaf (impl_areFinite_1_enc v114 y) := by kernel_rfl
theorem impl_areFinite_1_fn (v114 : Nat) (F : Fr) (hm : F.ids.length = 0) (h0 : St F [] F.H0) (hA : DVs.Ok F [] [.flt .f32 v114]) {y : Bool} (hy : impl_areFinite_1_g v114 = some y) : ∃ H', FnOk Try.prog 66 (DVs.av F [.flt .f32 v114]) F.H0 ((impl_areFinite_1_enc v114 y).1.av F) H' ∧ St F (impl_areFinite_1_enc v114 y).2 H' ∧ (impl_areFinite_1_enc v114 y).1.Ok F (impl_areFinite_1_enc v114 y).2 :=
  fn_fin tok impl_areFinite_1_hO mixed Try.func66 Try.call66 (by kernel_rfl) (LoopsOk_eq (l := []) (by kernel_rfl) trivial) (impl_areFinite_1_den v114) hy hm h0 hA
def impl_areFinite_1_v (v114 : Nat) : Bool :=
  !(impl_IsFinite_v v114)
theorem impl_areFinite_1_tot (v114 : Nat) : impl_areFinite_1_g v114 = some (impl_areFinite_1_v v114) := by
  unfold impl_areFinite_1_g impl_areFinite_1_T impl_areFinite_1_v
  simp only [Tree.run]
  repeat' (first | rfl | split)
noncomputable def impl_areFinite_1_F : DFn := fun args L =>
  match args with
  | [.flt .f32 v114] =>
    .leaf (.bool (impl_areFinite_1_v v114), L)
  | _ => .fail
theorem impl_areFinite_1_Fok : COk Try.prog 66 impl_areFinite_1_F true := by
  intro F L H args r L' hs ha hr
  unfold impl_areFinite_1_F at hr
  split at hr
  · rename_i v114
    have hy := impl_areFinite_1_tot v114
    generalize impl_areFinite_1_v v114 = y at hy hr
    simp only [Tree.run, Option.some.injEq, Prod.mk.injEq] at hr
    obtain ⟨rfl, rfl⟩ := hr
    exact call_ok0 hs (fun k => (([] : List AV)[k]?).getD .top) [.flt .f32 v114] [.flt .f32 v114] (fun F' h0 hi hρ => ⟨by simp [DVs.av, DV.av, BR.av, hρ], impl_areFinite_1_fn v114 F' (by rw [hi]; rfl) (st_nil hi) ⟨trivial, trivial⟩ hy⟩) rfl
  · cases hr
/-! slices.IndexFunc[list of float32,float32] -/
noncomputable def slices_IndexFuncF_l0_T (v112 : List Nat) (s : Int) : Tree ((Int) ⊕ ((Int) ⊕ (Unit))) :=
  (.br (decide (s < ((v112.length : Nat) : Int))) (
   (.grd (inb s v112.length) <|
   (.br (impl_areFinite_1_v (nth v112 (Int.toNat s))) (
    .leaf (.inr (.inl s))
   ) (
    .leaf (.inl (IntKind.i64.wrap (s + (1 : Int))))
   )))
  ) (
   .leaf (.inr (.inr ()))
  ))

noncomputable def slices_IndexFuncF_l0_g (v112 : List Nat) (s0 : Int) : Option ((Int) ⊕ (Unit)) := whileM (fun s => (slices_IndexFuncF_l0_T v112 s).run) s0
def slices_IndexFuncF_l0_E (v112 : List Nat) (s : Int) : Sd := ([.bslc (BR.root 0) (.f32 v112), .fn 66 [], .top, .top, .top, .top, .top, .int .i64 ((v112.length : Nat) : Int), .int .i64 s, .top, .top, .top, .top, .top, .top, .top, .top, .top, .top], [])
def slices_IndexFuncF_l0_X (v112 : List Nat) (x : (Int) ⊕ (Unit)) : Out := (match x with | .inl x => (.ret, [.top, .top, .top, .top, .int .i64 x, .top, .top, .top, .top, .top, .top, .top, .top, .top, .top, .top, .top, .top, .top], []) | .inr x => (.normal, [.top, .top, .top, .top, .top, .top, .top, .top, .top, .top, .top, .top, .top, .top, .top, .top, .top, .top, .top], []))
def slices_IndexFuncF_l0_kill : List Nat := [0, 0, 1, 1, 1, 1, 1, 0, 0, 1, 1, 1, 1, 1, 1, 1, 1, 1, 1]
def slices_IndexFuncF_l0_nx : Exit → List Nat
  | .exit 0 => [1, 1, 1, 1, 1, 1, 1, 1, 1, 1, 1, 1, 1, 1, 1, 1, 1, 1, 1]
  | .ret => [1, 1, 1, 1, 0, 1, 1, 1, 1, 1, 1, 1, 1, 1, 1, 1, 1, 1, 1]
  | _ => []
noncomputable def slices_IndexFuncF_LO (v112 : List Nat) : LOr := fun id e L =>
  match id with
  | 0 => .need (normA 0 slices_IndexFuncF_l0_kill e L = some (slices_IndexFuncF_l0_E v112 (gI (vAt e 8)))) (.call (slices_IndexFuncF_l0_g v112 (gI (vAt e 8))) fun x => .sum x (fun b0 => .leaf (slices_IndexFuncF_l0_X v112 (.inl b0))) (fun c0 => .leaf (slices_IndexFuncF_l0_X v112 (.inr c0))))
  | _ => .fail
noncomputable def slices_IndexFuncF_tab : List (FuncId × DFn × Bool) := [(66, impl_areFinite_1_F, true)]
theorem slices_IndexFuncF_hO : OrcOk Try.prog (tabD slices_IndexFuncF_tab) (tabM slices_IndexFuncF_tab) := tabD_cons impl_areFinite_1_Fok (tabD_nil _)
theorem slices_IndexFuncF_l0_be (v112 : List Nat) (s : Int) : bodyT TT (tabD slices_IndexFuncF_tab) (tabM slices_IndexFuncF_tab) (slices_IndexFuncF_LO v112) 0 slices_IndexFuncF_l0_kill slices_IndexFuncF_l0_nx (bodyOf Try.f75 0) 0 (slices_IndexFuncF_l0_E v112 s) = (slices_IndexFuncF_l0_T v112 s).bind fun y => .leaf (outS (slices_IndexFuncF_l0_E v112) (slices_IndexFuncF_l0_X v112) y) := by kernel_rfl
theorem slices_IndexFuncF_l0_ok (v112 : List Nat) : LSound Try.prog 0 (slices_IndexFuncF_LO v112) 0 (bodyOf Try.f75 0) := by
  intro e L out h
  exact lo_ok (E := slices_IndexFuncF_l0_E v112) (gT := slices_IndexFuncF_l0_T v112) (X := slices_IndexFuncF_l0_X v112) (s0 := (gI (vAt e 8))) tok slices_IndexFuncF_hO mixed (LoopsOk_eq (l := []) (by kernel_rfl) trivial) (slices_IndexFuncF_l0_be v112) rfl (by intro x; (cases x with | inl b => rfl | inr x => exact rfl)) h
noncomputable def slices_IndexFuncF_T (v112 : List Nat) : Tree (Int) :=
  (.need (some (slices_IndexFuncF_l0_E v112 (0 : Int)) = some (slices_IndexFuncF_l0_E v112 (0 : Int))) <|
  (.call (slices_IndexFuncF_l0_g v112 (0 : Int)) fun v122 =>
  (.sum v122 (fun v123 =>
   .leaf v123
  ) (fun v124 =>
   .leaf (-1 : Int)
  ))))

noncomputable def slices_IndexFuncF_g (v112 : List Nat) : Option (Int) := (slices_IndexFuncF_T v112).run
def slices_IndexFuncF_enc (v112 : List Nat) (y : Int) : Rs := (.int .i64 y, [])
theorem slices_IndexFuncF_den (v112 : List Nat) : (den TT (tabD slices_IndexFuncF_tab) (tabM slices_IndexFuncF_tab) (slices_IndexFuncF_LO v112) (codeOf Try.f75) ([.bslc (BR.root 0) (.f32 v112), .fn 66 []] ++ List.replicate (Try.f75.ntmps - ([.bslc (BR.root 0) (.f32 v112), .fn 66 []] : List DV).length) .undef) []).bind (retD TT Try.f75.results.toList 0) = (slices_IndexFuncF_T v112).bind fun y => .leaf (slices_IndexFuncF_enc v112 y) := by kernel_rfl
theorem slices_IndexFuncF_fn (v112 : List Nat) (F : Fr) (hm : F.ids.length = 0) (h0 : St F [] F.H0) (hA : DVs.Ok F [] [.bslc (BR.root 0) (.f32 v112), .fn 66 []]) {y : Int} (hy : slices_IndexFuncF_g v112 = some y) : ∃ H', FnOk Try.prog 75 (DVs.av F [.bslc (BR.root 0) (.f32 v112), .fn 66 []]) F.H0 ((slices_IndexFuncF_enc v112 y).1.av F) H' ∧ St F (slices_IndexFuncF_enc v112 y).2 H' ∧ (slices_IndexFuncF_enc v112 y).1.Ok F (slices_IndexFuncF_enc v112 y).2 :=
  fn_fin tok slices_IndexFuncF_hO mixed Try.func75 Try.call75 (by kernel_rfl) (LoopsOk_eq (l := [(0, bodyOf Try.f75 0)]) (by kernel_rfl) ⟨slices_IndexFuncF_l0_ok v112, trivial⟩) (slices_IndexFuncF_den v112) hy hm h0 hA
noncomputable def slices_IndexFuncF_F : DFn := fun args L =>
  match args with
  | [a1, .fn 66 []] =>
    optT (rowF32 L a1) fun v112 =>
    .call (slices_IndexFuncF_g v112) fun y => .leaf (.int .i64 y, L)
  | _ => .fail
theorem slices_IndexFuncF_Fok : COk Try.prog 75 slices_IndexFuncF_F true := by
  intro F L H args r L' hs ha hr
  unfold slices_IndexFuncF_F at hr
  split at hr
  · rename_i a1
    obtain ⟨v112, hv112, hr⟩ := optT_run hr
    simp only [Tree.run] at hr
    obtain ⟨y, hy, hr⟩ := Option.bind_eq_some_iff.1 hr
    simp only [Tree.run, Option.some.injEq, Prod.mk.injEq] at hr
    obtain ⟨rfl, rfl⟩ := hr
    exact call_ok0 hs (fun k => (([a1.av F] : List AV)[k]?).getD .top) [a1, .fn 66 []] [.bslc (BR.root 0) (.f32 v112), .fn 66 []] (fun F' h0 hi hρ => ⟨by simp [DVs.av, DV.av, BR.av, hρ], slices_IndexFuncF_fn v112 F' (by rw [hi]; rfl) (st_nil hi) ⟨bslc_ok hi (by rw [h0, hρ]; exact rowF32_ok hs (DVs.okAt ha 0 rfl) hv112), trivial, trivial⟩ hy⟩) rfl
  · cases hr
/-! slices.ContainsFunc[list of float32,float32] -/
noncomputable def slices_ContainsFuncF_LO (v111 : List Nat) : LOr := fun id e L =>
  match id with
  | _ => .fail
noncomputable def slices_ContainsFuncF_tab : List (FuncId × DFn × Bool) := [(75, slices_IndexFuncF_F, true)]
theorem slices_ContainsFuncF_hO : OrcOk Try.prog (tabD slices_ContainsFuncF_tab) (tabM slices_ContainsFuncF_tab) := tabD_cons slices_IndexFuncF_Fok (tabD_nil _)
noncomputable def slices_ContainsFuncF_T (v111 : List Nat) : Tree (Bool) :=
  (.call (slices_IndexFuncF_g v111) fun v125 =>
  .leaf (decide ((0 : Int) ≤ v125)))

noncomputable def slices_ContainsFuncF_g (v111 : List Nat) : Option (Bool) := (slices_ContainsFuncF_T v111).run
def slices_ContainsFuncF_enc (v111 : List Nat) (y : Bool) : Rs := (.bool y, [])
theorem slices_ContainsFuncF_den (v111 : List Nat) : (den TT (tabD slices_ContainsFuncF_tab) (tabM slices_ContainsFuncF_tab) (slices_ContainsFuncF_LO v111) (codeOf Try.f65) ([.bslc (BR.root 0) (.f32 v111), .fn 66 []] ++ List.replicate (Try.f65.ntmps - ([.bslc (BR.root 0) (.f32 v111), .fn 66 []] : List DV).length) .undef) []).bind (retD TT Try.f65.results.toList 0) = (slices_ContainsFuncF_T v111).bind fun y => .leaf (slices_ContainsFuncF_enc v111 y) := by kernel_rfl
theorem slices_ContainsFuncF_fn (v111 : List Nat) (F : Fr) (hm : F.ids.length = 0) (h0 : St F [] F.H0) (hA : DVs.Ok F [] [.bslc (BR.root 0) (.f32 v111), .fn 66 []]) {y : Bool} (hy : slices_ContainsFuncF_g v111 = some y) : ∃ H', FnOk Try.prog 65 (DVs.av F [.bslc (BR.root 0) (.f32 v111), .fn 66 []]) F.H0 ((slices_ContainsFuncF_enc v111 y).1.av F) H' ∧ St F (slices_ContainsFuncF_enc v111 y).2 H' ∧ (slices_ContainsFuncF_enc v111 y).1.Ok F (slices_ContainsFuncF_enc v111 y).2 :=
  fn_fin tok slices_ContainsFuncF_hO mixed Try.func65 Try.call65 (by kernel_rfl) (LoopsOk_eq (l := []) (by kernel_rfl) trivial) (slices_ContainsFuncF_den v111) hy hm h0 hA
noncomputable def slices_ContainsFuncF_F : DFn := fun args L =>
  match args with
  | [a1, .fn 66 []] =>
    optT (rowF32 L a1) fun v111 =>
    .call (slices_ContainsFuncF_g v111) fun y => .leaf (.bool y, L)
  | _ => .fail
theorem slices_ContainsFuncF_Fok : COk Try.prog 65 slices_ContainsFuncF_F true := by
  intro F L H args r L' hs ha hr
  unfold slices_ContainsFuncF_F at hr
  split at hr
  · rename_i a1
    obtain ⟨v111, hv111, hr⟩ := optT_run hr
    simp only [Tree.run] at hr
    obtain ⟨y, hy, hr⟩ := Option.bind_eq_some_iff.1 hr
    simp only [Tree.run, Option.some.injEq, Prod.mk.injEq] at hr
    obtain ⟨rfl, rfl⟩ := hr
    exact call_ok0 hs (fun k => (([a1.av F] : List AV)[k]?).getD .top) [a1, .fn 66 []] [.bslc (BR.root 0) (.f32 v111), .fn 66 []] (fun F' h0 hi hρ => ⟨by simp [DVs.av, DV.av, BR.av, hρ], slices_ContainsFuncF_fn v111 F' (by rw [hi]; rfl) (st_nil hi) ⟨bslc_ok hi (by rw [h0, hρ]; exact rowF32_ok hs (DVs.okAt ha 0 rfl) hv111), trivial, trivial⟩ hy⟩) rfl
  · cases hr
/-! impl.areFinite -/
noncomputable def impl_areFinite_LO (v110 : List Nat) : LOr := fun id e L =>
  match id with
  | _ => .fail
noncomputable def impl_areFinite_tab : List (FuncId × DFn × Bool) := [(65, slices_ContainsFuncF_F, true)]
theorem impl_areFinite_hO : OrcOk Try.prog (tabD impl_areFinite_tab) (tabM impl_areFinite_tab) := tabD_cons slices_ContainsFuncF_Fok (tabD_nil _)
noncomputable def impl_areFinite_T (v110 : List Nat) : Tree (Bool) :=
  (.call (slices_ContainsFuncF_g v110) fun v126 =>
  .leaf (!v126))

noncomputable def impl_areFinite_g (v110 : List Nat) : Option (Bool) := (impl_areFinite_T v110).run
def impl_areFinite_enc (v110 : List Nat) (y : Bool) : Rs := (.bool y, [])
theorem impl_areFinite_den (v110 : List Nat) : (den TT (tabD impl_areFinite_tab) (tabM impl_areFinite_tab) (impl_areFinite_LO v110) (codeOf Try.f44) ([.bslc (BR.root 0) (.f32 v110)] ++ List.replicate (Try.f44.ntmps - ([.bslc (BR.root 0) (.f32 v110)] : List DV).length) .undef) []).bind (retD TT Try.f44.results.toList 0) = (impl_areFinite_T v110).bind fun y => .leaf (impl_areFinite_enc v110 y) := by kernel_rfl
theorem impl_areFinite_fn (v110 : List Nat) (F : Fr) (hm : F.ids.length = 0) (h0 : St F [] F.H0) (hA : DVs.Ok F [] [.bslc (BR.root 0) (.f32 v110)]) {y : Bool} (hy : impl_areFinite_g v110 = some y) : ∃ H', FnOk Try.prog 44 (DVs.av F [.bslc (BR.root 0) (.f32 v110)]) F.H0 ((impl_areFinite_enc v110 y).1.av F) H' ∧ St F (impl_areFinite_enc v110 y).2 H' ∧ (impl_areFinite_enc v110 y).1.Ok F (impl_areFinite_enc v110 y).2 :=
  fn_fin tok impl_areFinite_hO mixed Try.func44 Try.call44 (by kernel_rfl) (LoopsOk_eq (l := []) (by kernel_rfl) trivial) (impl_areFinite_den v110) hy hm h0 hA
noncomputable def impl_areFinite_F : DFn := fun args L =>
  match args with
  | [a1] =>
    optT (rowF32 L a1) fun v110 =>
    .call (impl_areFinite_g v110) fun y => .leaf (.bool y, L)
  | _ => .fail
theorem impl_areFinite_Fok : COk Try.prog 44 impl_areFinite_F true := by
  intro F L H args r L' hs ha hr
  unfold impl_areFinite_F at hr
  split at hr
  · rename_i a1
    obtain ⟨v110, hv110, hr⟩ := optT_run hr
    simp only [Tree.run] at hr
    obtain ⟨y, hy, hr⟩ := Option.bind_eq_some_iff.1 hr
    simp only [Tree.run, Option.some.injEq, Prod.mk.injEq] at hr
    obtain ⟨rfl, rfl⟩ := hr
    exact call_ok0 hs (fun k => (([a1.av F] : List AV)[k]?).getD .top) [a1] [.bslc (BR.root 0) (.f32 v110)] (fun F' h0 hi hρ => ⟨by simp [DVs.av, DV.av, BR.av, hρ], impl_areFinite_fn v110 F' (by rw [hi]; rfl) (st_nil hi) ⟨bslc_ok hi (by rw [h0, hρ]; exact rowF32_ok hs (DVs.okAt ha 0 rfl) hv110), trivial⟩ hy⟩) rfl
  · cases hr
/-! impl.isList -/
noncomputable def impl_isList_LO (v104 : List Nat) (v105 : Int) : LOr := fun id e L =>
  match id with
  | _ => .fail
noncomputable def impl_isList_tab : List (FuncId × DFn × Bool) := [(57, impl_lengthF_F, true), (63, impl_inRange_F, true), (44, impl_areFinite_F, true)]
theorem impl_isList_hO : OrcOk Try.prog (tabD impl_isList_tab) (tabM impl_isList_tab) := tabD_cons impl_lengthF_Fok (tabD_cons impl_inRange_Fok (tabD_cons impl_areFinite_Fok (tabD_nil _)))
noncomputable def impl_isList_T (v104 : List Nat) (v105 : Int) : Tree (Bool) :=
  (.br (impl_inRange_v (impl_lengthF_v v104) (1 : Int) v105) (
   (.call (impl_areFinite_g v104) fun v127 =>
   .leaf v127)
  ) (
   .leaf false
  ))

noncomputable def impl_isList_g (v104 : List Nat) (v105 : Int) : Option (Bool) := (impl_isList_T v104 v105).run
def impl_isList_enc (v104 : List Nat) (v105 : Int) (y : Bool) : Rs := (.bool y, [])
theorem impl_isList_den (v104 : List Nat) (v105 : Int) : (den TT (tabD impl_isList_tab) (tabM impl_isList_tab) (impl_isList_LO v104 v105) (codeOf Try.f38) ([.bslc (BR.root 0) (.f32 v104), .int .i64 v105] ++ List.replicate (Try.f38.ntmps - ([.bslc (BR.root 0) (.f32 v104), .int .i64 v105] : List DV).length) .undef) []).bind (retD TT Try.f38.results.toList 0) = (impl_isList_T v104 v105).bind fun y => .leaf (impl_isList_enc v104 v105 y) := by kernel_rfl
theorem impl_isList_fn (v104 : List Nat) (v105 : Int) (F : Fr) (hm : F.ids.length = 0) (h0 : St F [] F.H0) (hA : DVs.Ok F [] [.bslc (BR.root 0) (.f32 v104), .int .i64 v105]) {y : Bool} (hy : impl_isList_g v104 v105 = some y) : ∃ H', FnOk Try.prog 38 (DVs.av F [.bslc (BR.root 0) (.f32 v104), .int .i64 v105]) F.H0 ((impl_isList_enc v104 v105 y).1.av F) H' ∧ St F (impl_isList_enc v104 v105 y).2 H' ∧ (impl_isList_enc v104 v105 y).1.Ok F (impl_isList_enc v104 v105 y).2 :=
  fn_fin tok impl_isList_hO mixed Try.func38 Try.call38 (by kernel_rfl) (LoopsOk_eq (l := []) (by kernel_rfl) trivial) (impl_isList_den v104 v105) hy hm h0 hA
noncomputable def impl_isList_F : DFn := fun args L =>
  match args with
  | [a1, .int .i64 v105] =>
    optT (rowF32 L a1) fun v104 =>
    .call (impl_isList_g v104 v105) fun y => .leaf (.bool y, L)
  | _ => .fail
theorem impl_isList_Fok : COk Try.prog 38 impl_isList_F true := by
  intro F L H args r L' hs ha hr
  unfold impl_isList_F at hr
  split at hr
  · rename_i a1 v105
    obtain ⟨v104, hv104, hr⟩ := optT_run hr
    simp only [Tree.run] at hr
    obtain ⟨y, hy, hr⟩ := Option.bind_eq_some_iff.1 hr
    simp only [Tree.run, Option.some.injEq, Prod.mk.injEq] at hr
    obtain ⟨rfl, rfl⟩ := hr
    exact call_ok0 hs (fun k => (([a1.av F] : List AV)[k]?).getD .top) [a1, .int .i64 v105] [.bslc (BR.root 0) (.f32 v104), .int .i64 v105] (fun F' h0 hi hρ => ⟨by simp [DVs.av, DV.av, BR.av, hρ], impl_isList_fn v104 v105 F' (by rw [hi]; rfl) (st_nil hi) ⟨bslc_ok hi (by rw [h0, hρ]; exact rowF32_ok hs (DVs.okAt ha 0 rfl) hv104), trivial, trivial⟩ hy⟩) rfl
  · cases hr
/-! slices.Index[list of float32,float32] -/
noncomputable def slices_IndexF_l0_T (v133 : List Nat) (v134 : Nat) (s : Int) : Tree ((Int) ⊕ ((Int) ⊕ (Unit))) :=
  (.br (decide (s < ((v133.length : Nat) : Int))) (
   (.grd (inb s v133.length) <|
   (.br (feq .f32 v134 (nth v133 (Int.toNat s))) (
    .leaf (.inr (.inl s))
   ) (
    .leaf (.inl (IntKind.i64.wrap (s + (1 : Int))))
   )))
  ) (
   .leaf (.inr (.inr ()))
  ))

noncomputable def slices_IndexF_l0_g (v133 : List Nat) (v134 : Nat) (s0 : Int) : Option ((Int) ⊕ (Unit)) := whileM (fun s => (slices_IndexF_l0_T v133 v134 s).run) s0
def slices_IndexF_l0_E (v133 : List Nat) (v134 : Nat) (s : Int) : Sd := ([.bslc (BR.root 0) (.f32 v133), .flt .f32 v134, .top, .top, .top, .top, .top, .int .i64 ((v133.length : Nat) : Int), .int .i64 s, .top, .top, .top, .top, .top, .top, .top, .top, .top, .top], [])
def slices_IndexF_l0_X (v133 : List Nat) (v134 : Nat) (x : (Int) ⊕ (Unit)) : Out := (match x with | .inl x => (.ret, [.top, .top, .top, .top, .int .i64 x, .top, .top, .top, .top, .top, .top, .top, .top, .top, .top, .top, .top, .top, .top], []) | .inr x => (.normal, [.top, .top, .top, .top, .top, .top, .top, .top, .top, .top, .top, .top, .top, .top, .top, .top, .top, .top, .top], []))
def slices_IndexF_l0_kill : List Nat := [0, 0, 1, 1, 1, 1, 1, 0, 0, 1, 1, 1, 1, 1, 1, 1, 1, 1, 1]
def slices_IndexF_l0_nx : Exit → List Nat
  | .exit 0 => [1, 1, 1, 1, 1, 1, 1, 1, 1, 1, 1, 1, 1, 1, 1, 1, 1, 1, 1]
  | .ret => [1, 1, 1, 1, 0, 1, 1, 1, 1, 1, 1, 1, 1, 1, 1, 1, 1, 1, 1]
  | _ => []
noncomputable def slices_IndexF_LO (v133 : List Nat) (v134 : Nat) : LOr := fun id e L =>
  match id with
  | 0 => .need (normA 0 slices_IndexF_l0_kill e L = some (slices_IndexF_l0_E v133 v134 (gI (vAt e 8)))) (.call (slices_IndexF_l0_g v133 v134 (gI (vAt e 8))) fun x => .sum x (fun b0 => .leaf (slices_IndexF_l0_X v133 v134 (.inl b0))) (fun c0 => .leaf (slices_IndexF_l0_X v133 v134 (.inr c0))))
  | _ => .fail
noncomputable def slices_IndexF_tab : List (FuncId × DFn × Bool) := []
theorem slices_IndexF_hO : OrcOk Try.prog (tabD slices_IndexF_tab) (tabM slices_IndexF_tab) := tabD_nil _
theorem slices_IndexF_l0_be (v133 : List Nat) (v134 : Nat) (s : Int) : bodyT TT (tabD slices_IndexF_tab) (tabM slices_IndexF_tab) (slices_IndexF_LO v133 v134) 0 slices_IndexF_l0_kill slices_IndexF_l0_nx (bodyOf Try.f67 0) 0 (slices_IndexF_l0_E v133 v134 s) = (slices_IndexF_l0_T v133 v134 s).bind fun y => .leaf (outS (slices_IndexF_l0_E v133 v134) (slices_IndexF_l0_X v133 v134) y) := by kernel_rfl
theorem slices_IndexF_l0_ok (v133 : List Nat) (v134 : Nat) : LSound Try.prog 0 (slices_IndexF_LO v133 v134) 0 (bodyOf Try.f67 0) := by
  intro e L out h
  exact lo_ok (E := slices_IndexF_l0_E v133 v134) (gT := slices_IndexF_l0_T v133 v134) (X := slices_IndexF_l0_X v133 v134) (s0 := (gI (vAt e 8))) tok slices_IndexF_hO mixed (LoopsOk_eq (l := []) (by kernel_rfl) trivial) (slices_IndexF_l0_be v133 v134) rfl (by intro x; (cases x with | inl b => rfl | inr x => exact rfl)) h
noncomputable def slices_IndexF_T (v133 : List Nat) (v134 : Nat) : Tree (Int) :=
  (.need (some (slices_IndexF_l0_E v133 v134 (0 : Int)) = some (slices_IndexF_l0_E v133 v134 (0 : Int))) <|
  (.call (slices_IndexF_l0_g v133 v134 (0 : Int)) fun v138 =>
  (.sum v138 (fun v139 =>
   .leaf v139
  ) (fun v140 =>
   .leaf (-1 : Int)
  ))))

noncomputable def slices_IndexF_g (v133 : List Nat) (v134 : Nat) : Option (Int) := (slices_IndexF_T v133 v134).run
def slices_IndexF_enc (v133 : List Nat) (v134 : Nat) (y : Int) : Rs := (.int .i64 y, [])
theorem slices_IndexF_den (v133 : List Nat) (v134 : Nat) : (den TT (tabD slices_IndexF_tab) (tabM slices_IndexF_tab) (slices_IndexF_LO v133 v134) (codeOf Try.f67) ([.bslc (BR.root 0) (.f32 v133), .flt .f32 v134] ++ List.replicate (Try.f67.ntmps - ([.bslc (BR.root 0) (.f32 v133), .flt .f32 v134] : List DV).length) .undef) []).bind (retD TT Try.f67.results.toList 0) = (slices_IndexF_T v133 v134).bind fun y => .leaf (slices_IndexF_enc v133 v134 y) := by kernel_rfl
theorem slices_IndexF_fn (v133 : List Nat) (v134 : Nat) (F : Fr) (hm : F.ids.length = 0) (h0 : St F [] F.H0) (hA : DVs.Ok F [] [.bslc (BR.root 0) (.f32 v133), .flt .f32 v134]) {y : Int} (hy : slices_IndexF_g v133 v134 = some y) : ∃ H', FnOk Try.prog 67 (DVs.av F [.bslc (BR.root 0) (.f32 v133), .flt .f32 v134]) F.H0 ((slices_IndexF_enc v133 v134 y).1.av F) H' ∧ St F (slices_IndexF_enc v133 v134 y).2 H' ∧ (slices_IndexF_enc v133 v134 y).1.Ok F (slices_IndexF_enc v133 v134 y).2 :=
  fn_fin tok slices_IndexF_hO mixed Try.func67 Try.call67 (by kernel_rfl) (LoopsOk_eq (l := [(0, bodyOf Try.f67 0)]) (by kernel_rfl) ⟨slices_IndexF_l0_ok v133 v134, trivial⟩) (slices_IndexF_den v133 v134) hy hm h0 hA
noncomputable def slices_IndexF_F : DFn := fun args L =>
  match args with
  | [a1, .flt .f32 v134] =>
    optT (rowF32 L a1) fun v133 =>
    .call (slices_IndexF_g v133 v134) fun y => .leaf (.int .i64 y, L)
  | _ => .fail
theorem slices_IndexF_Fok : COk Try.prog 67 slices_IndexF_F true := by
  intro F L H args r L' hs ha hr
  unfold slices_IndexF_F at hr
  split at hr
  · rename_i a1 v134
    obtain ⟨v133, hv133, hr⟩ := optT_run hr
    simp only [Tree.run] at hr
    obtain ⟨y, hy, hr⟩ := Option.bind_eq_some_iff.1 hr
    simp only [Tree.run, Option.some.injEq, Prod.mk.injEq] at hr
    obtain ⟨rfl, rfl⟩ := hr
    exact call_ok0 hs (fun k => (([a1.av F] : List AV)[k]?).getD .top) [a1, .flt .f32 v134] [.bslc (BR.root 0) (.f32 v133), .flt .f32 v134] (fun F' h0 hi hρ => ⟨by simp [DVs.av, DV.av, BR.av, hρ], slices_IndexF_fn v133 v134 F' (by rw [hi]; rfl) (st_nil hi) ⟨bslc_ok hi (by rw [h0, hρ]; exact rowF32_ok hs (DVs.okAt ha 0 rfl) hv133), trivial, trivial⟩ hy⟩) rfl
  · cases hr
/-! slices.Contains[list of float32,float32] -/
noncomputable def slices_ContainsF_LO (v131 : List Nat) (v132 : Nat) : LOr := fun id e L =>
  match id with
  | _ => .fail
noncomputable def slices_ContainsF_tab : List (FuncId × DFn × Bool) := [(67, slices_IndexF_F, true)]
theorem slices_ContainsF_hO : OrcOk Try.prog (tabD slices_ContainsF_tab) (tabM slices_ContainsF_tab) := tabD_cons slices_IndexF_Fok (tabD_nil _)
noncomputable def slices_ContainsF_T (v131 : List Nat) (v132 : Nat) : Tree (Bool) :=
  (.call (slices_IndexF_g v131 v132) fun v141 =>
  .leaf (decide ((0 : Int) ≤ v141)))

noncomputable def slices_ContainsF_g (v131 : List Nat) (v132 : Nat) : Option (Bool) := (slices_ContainsF_T v131 v132).run
def slices_ContainsF_enc (v131 : List Nat) (v132 : Nat) (y : Bool) : Rs := (.bool y, [])
theorem slices_ContainsF_den (v131 : List Nat) (v132 : Nat) : (den TT (tabD slices_ContainsF_tab) (tabM slices_ContainsF_tab) (slices_ContainsF_LO v131 v132) (codeOf Try.f46) ([.bslc (BR.root 0) (.f32 v131), .flt .f32 v132] ++ List.replicate (Try.f46.ntmps - ([.bslc (BR.root 0) (.f32 v131), .flt .f32 v132] : List DV).length) .undef) []).bind (retD TT Try.f46.results.toList 0) = (slices_ContainsF_T v131 v132).bind fun y => .leaf (slices_ContainsF_enc v131 v132 y) := by kernel_rfl
theorem slices_ContainsF_fn (v131 : List Nat) (v132 : Nat) (F : Fr) (hm : F.ids.length = 0) (h0 : St F [] F.H0) (hA : DVs.Ok F [] [.bslc (BR.root 0) (.f32 v131), .flt .f32 v132]) {y : Bool} (hy : slices_ContainsF_g v131 v132 = some y) : ∃ H', FnOk Try.prog 46 (DVs.av F [.bslc (BR.root 0) (.f32 v131), .flt .f32 v132]) F.H0 ((slices_ContainsF_enc v131 v132 y).1.av F) H' ∧ St F (slices_ContainsF_enc v131 v132 y).2 H' ∧ (slices_ContainsF_enc v131 v132 y).1.Ok F (slices_ContainsF_enc v131 v132 y).2 :=
  fn_fin tok slices_ContainsF_hO mixed Try.func46 Try.call46 (by kernel_rfl) (LoopsOk_eq (l := []) (by kernel_rfl) trivial) (slices_ContainsF_den v131 v132) hy hm h0 hA
noncomputable def slices_ContainsF_F : DFn := fun args L =>
  match args with
  | [a1, .flt .f32 v132] =>
    optT (rowF32 L a1) fun v131 =>
    .call (slices_ContainsF_g v131 v132) fun y => .leaf (.bool y, L)
  | _ => .fail
theorem slices_ContainsF_Fok : COk Try.prog 46 slices_ContainsF_F true := by
  intro F L H args r L' hs ha hr
  unfold slices_ContainsF_F at hr
  split at hr
  · rename_i a1 v132
    obtain ⟨v131, hv131, hr⟩ := optT_run hr
    simp only [Tree.run] at hr
    obtain ⟨y, hy, hr⟩ := Option.bind_eq_some_iff.1 hr
    simp only [Tree.run, Option.some.injEq, Prod.mk.injEq] at hr
    obtain ⟨rfl, rfl⟩ := hr
    exact call_ok0 hs (fun k => (([a1.av F] : List AV)[k]?).getD .top) [a1, .flt .f32 v132] [.bslc (BR.root 0) (.f32 v131), .flt .f32 v132] (fun F' h0 hi hρ => ⟨by simp [DVs.av, DV.av, BR.av, hρ], slices_ContainsF_fn v131 v132 F' (by rw [hi]; rfl) (st_nil hi) ⟨bslc_ok hi (by rw [h0, hρ]; exact rowF32_ok hs (DVs.okAt ha 0 rfl) hv131), trivial, trivial⟩ hy⟩) rfl
  · cases hr
/-! slices.Clone[list of float32,float32] -/
noncomputable def slices_CloneF_LO (v150 : List Nat) : LOr := fun id e L =>
  match id with
  | _ => .fail
noncomputable def slices_CloneF_tab : List (FuncId × DFn × Bool) := []
theorem slices_CloneF_hO : OrcOk Try.prog (tabD slices_CloneF_tab) (tabM slices_CloneF_tab) := tabD_nil _
noncomputable def slices_CloneF_T (v150 : List Nat) : Tree (Unit) :=
  (.grd (decide (0 < v150.length)) <|
  (.grd (fits (([] : List Nat) ++ v150).length) <|
  .leaf ()))

noncomputable def slices_CloneF_g (v150 : List Nat) : Option (Unit) := (slices_CloneF_T v150).run
def slices_CloneF_enc (v150 : List Nat) (y : Unit) : Rs := (.own 0 0 ((([] : List Nat) ++ v150).length), [.row (.f32 (([] : List Nat) ++ v150)) 0])
theorem slices_CloneF_den (v150 : List Nat) : (den TT (tabD slices_CloneF_tab) (tabM slices_CloneF_tab) (slices_CloneF_LO v150) (codeOf Try.f47) ([.bslc (BR.root 0) (.f32 v150)] ++ List.replicate (Try.f47.ntmps - ([.bslc (BR.root 0) (.f32 v150)] : List DV).length) .undef) []).bind (retD TT Try.f47.results.toList 0) = (slices_CloneF_T v150).bind fun y => .leaf (slices_CloneF_enc v150 y) := by kernel_rfl
theorem slices_CloneF_fn (v150 : List Nat) (F : Fr) (hm : F.ids.length = 0) (h0 : St F [] F.H0) (hA : DVs.Ok F [] [.bslc (BR.root 0) (.f32 v150)]) {y : Unit} (hy : slices_CloneF_g v150 = some y) : ∃ H', FnOk Try.prog 47 (DVs.av F [.bslc (BR.root 0) (.f32 v150)]) F.H0 ((slices_CloneF_enc v150 y).1.av F) H' ∧ St F (slices_CloneF_enc v150 y).2 H' ∧ (slices_CloneF_enc v150 y).1.Ok F (slices_CloneF_enc v150 y).2 :=
  fn_fin tok slices_CloneF_hO mixed Try.func47 Try.call47 (by kernel_rfl) (LoopsOk_eq (l := []) (by kernel_rfl) trivial) (slices_CloneF_den v150) hy hm h0 hA
noncomputable def slices_CloneF_F : DFn := fun args L =>
  match args with
  | [a1] =>
    optT (rowF32 L a1) fun v150 =>
    .call (slices_CloneF_g v150) fun y => .leaf (.own (L.length + 0) 0 ((([] : List Nat) ++ v150).length), L ++ [.row (.f32 (([] : List Nat) ++ v150)) 0])
  | _ => .fail
theorem slices_CloneF_Fok : COk Try.prog 47 slices_CloneF_F true := by
  intro F L H args r L' hs ha hr
  unfold slices_CloneF_F at hr
  split at hr
  · rename_i a1
    obtain ⟨v150, hv150, hr⟩ := optT_run hr
    simp only [Tree.run] at hr
    obtain ⟨y, hy, hr⟩ := Option.bind_eq_some_iff.1 hr
    simp only [Tree.run, Option.some.injEq, Prod.mk.injEq] at hr
    obtain ⟨rfl, rfl⟩ := hr
    exact call_ok1 hs (fun k => (([a1.av F] : List AV)[k]?).getD .top) [a1] [.bslc (BR.root 0) (.f32 v150)] (fun F' h0 hi hρ => ⟨by simp [DVs.av, DV.av, BR.av, hρ], slices_CloneF_fn v150 F' (by rw [hi]; rfl) (st_nil hi) ⟨bslc_ok hi (by rw [h0, hρ]; exact rowF32_ok hs (DVs.okAt ha 0 rfl) hv150), trivial⟩ hy⟩) rfl rfl
  · cases hr
/-! impl.allFinite -/
noncomputable def impl_allFinite_LO (v187 : List Nat) : LOr := fun id e L =>
  match id with
  | _ => .fail
noncomputable def impl_allFinite_tab : List (FuncId × DFn × Bool) := [(44, impl_areFinite_F, true)]
theorem impl_allFinite_hO : OrcOk Try.prog (tabD impl_allFinite_tab) (tabM impl_allFinite_tab) := tabD_cons impl_areFinite_Fok (tabD_nil _)
noncomputable def impl_allFinite_T (v187 : List Nat) : Tree ((Unit) ⊕ (Unit)) :=
  (.call (impl_areFinite_g v187) fun v188 =>
  (.br (!v188) (
   .leaf (.inl ())
  ) (
   .leaf (.inr ())
  )))

noncomputable def impl_allFinite_g (v187 : List Nat) : Option ((Unit) ⊕ (Unit)) := (impl_allFinite_T v187).run
def impl_allFinite_enc (v187 : List Nat) (y : (Unit) ⊕ (Unit)) : Rs := (match y with | .inl y => (.tup [.nilslc, .lit false], []) | .inr y => (.tup [.bslc (BR.root 0) (.f32 v187), .lit true], []))
theorem impl_allFinite_den (v187 : List Nat) : (den TT (tabD impl_allFinite_tab) (tabM impl_allFinite_tab) (impl_allFinite_LO v187) (codeOf Try.f48) ([.bslc (BR.root 0) (.f32 v187)] ++ List.replicate (Try.f48.ntmps - ([.bslc (BR.root 0) (.f32 v187)] : List DV).length) .undef) []).bind (retD TT Try.f48.results.toList 0) = (impl_allFinite_T v187).bind fun y => .leaf (impl_allFinite_enc v187 y) := by kernel_rfl
theorem impl_allFinite_fn (v187 : List Nat) (F : Fr) (hm : F.ids.length = 0) (h0 : St F [] F.H0) (hA : DVs.Ok F [] [.bslc (BR.root 0) (.f32 v187)]) {y : (Unit) ⊕ (Unit)} (hy : impl_allFinite_g v187 = some y) : ∃ H', FnOk Try.prog 48 (DVs.av F [.bslc (BR.root 0) (.f32 v187)]) F.H0 ((impl_allFinite_enc v187 y).1.av F) H' ∧ St F (impl_allFinite_enc v187 y).2 H' ∧ (impl_allFinite_enc v187 y).1.Ok F (impl_allFinite_enc v187 y).2 :=
  fn_fin tok impl_allFinite_hO mixed Try.func48 Try.call48 (by kernel_rfl) (LoopsOk_eq (l := []) (by kernel_rfl) trivial) (impl_allFinite_den v187) hy hm h0 hA
noncomputable def impl_allFinite_F : DFn := fun args L =>
  match args with
  | [a1] =>
    optT (rowF32 L a1) fun v187 =>
    .call (impl_allFinite_g v187) fun y => .sum y (fun y0 => .leaf (.tup [.nilslc, .lit false], L)) (fun z0 => .leaf (.tup [a1, .lit true], L))
  | _ => .fail
theorem impl_allFinite_Fok : COk Try.prog 48 impl_allFinite_F true := by
  intro F L H args r L' hs ha hr
  unfold impl_allFinite_F at hr
  split at hr
  · rename_i a1
    obtain ⟨v187, hv187, hr⟩ := optT_run hr
    simp only [Tree.run] at hr
    obtain ⟨y, hy, hr⟩ := Option.bind_eq_some_iff.1 hr
    cases y with
    | inl y =>
      simp only [Tree.run, Option.some.injEq, Prod.mk.injEq] at hr
      obtain ⟨rfl, rfl⟩ := hr
      exact call_ok0 hs (fun k => (([a1.av F] : List AV)[k]?).getD .top) [a1] [.bslc (BR.root 0) (.f32 v187)] (fun F' h0 hi hρ => ⟨by simp [DVs.av, DV.av, BR.av, hρ], impl_allFinite_fn v187 F' (by rw [hi]; rfl) (st_nil hi) ⟨bslc_ok hi (by rw [h0, hρ]; exact rowF32_ok hs (DVs.okAt ha 0 rfl) hv187), trivial⟩ hy⟩) rfl
    | inr y =>
      simp only [Tree.run, Option.some.injEq, Prod.mk.injEq] at hr
      obtain ⟨rfl, rfl⟩ := hr
      exact call_al0 hs (fun k => (([a1.av F] : List AV)[k]?).getD .top) [a1] [.bslc (BR.root 0) (.f32 v187)] (fun F' h0 hi hρ => ⟨by simp [DVs.av, DV.av, BR.av, hρ], impl_allFinite_fn v187 F' (by rw [hi]; rfl) (st_nil hi) ⟨bslc_ok hi (by rw [h0, hρ]; exact rowF32_ok hs (DVs.okAt ha 0 rfl) hv187), trivial⟩ hy⟩) (fun F' h0 hi hρ => by simp [impl_allFinite_enc, DVs.av, DV.av, BR.av, hρ]) ⟨(DVs.okAt ha 0 rfl), trivial, trivial⟩
  · cases hr
/-! impl.DividedOf -/
noncomputable def impl_DividedOf_l0_T (v102 : List Nat) (s : Int) : Tree ((Int) ⊕ ((Unit) ⊕ (Unit))) :=
  (.br (decide (s < ((v102.length : Nat) : Int))) (
   (.grd (inb s v102.length) <|
   (.grd (sok (0 : Int) s v102.length) <|
   (.call (slices_ContainsF_g (AM.sub v102 (0 : Int) s) (nth v102 (Int.toNat s))) fun v146 =>
   (.br v146 (
    .leaf (.inr (.inl ()))
   ) (
    .leaf (.inl (IntKind.i64.wrap (s + (1 : Int))))
   )))))
  ) (
   .leaf (.inr (.inr ()))
  ))

noncomputable def impl_DividedOf_l0_g (v102 : List Nat) (s0 : Int) : Option ((Unit) ⊕ (Unit)) := whileM (fun s => (impl_DividedOf_l0_T v102 s).run) s0
def impl_DividedOf_l0_E (v102 : List Nat) (v103 : List Nat) (s : Int) : Sd := ([.bslc (BR.root 0) (.f32 v102), .bslc (BR.root 1) (.f32 v103), .top, .top, .top, .top, .top, .top, .top, .top, .top, .top, .top, .top, .top, .top, .top, .top, .top, .top, .top, .top, .top, .top, .top, .top, .bslc (BR.root 0) (.f32 v102), .int .i64 ((v102.length : Nat) : Int), .int .i64 s, .top, .top, .top, .top, .top, .top, .top, .top, .top, .top, .top, .top, .top, .top, .top, .top, .top, .top, .top, .top, .top, .top, .top, .top, .top, .top, .top, .top, .top, .top, .top, .top, .top, .top, .top, .top, .top, .top, .top, .top, .top, .top, .top, .top, .top, .top, .top, .top, .top, .top, .top, .top, .top, .top, .top], [])
def impl_DividedOf_l0_X (v102 : List Nat) (v103 : List Nat) (x : (Unit) ⊕ (Unit)) : Out := (match x with | .inl x => (.ret, [.top, .top, .top, .top, .nilslc, .lit false, .top, .top, .top, .top, .top, .top, .top, .top, .top, .top, .top, .top, .top, .top, .top, .top, .top, .top, .top, .top, .top, .top, .top, .top, .top, .top, .top, .top, .top, .top, .top, .top, .top, .top, .top, .top, .top, .top, .top, .top, .top, .top, .top, .top, .top, .top, .top, .top, .top, .top, .top, .top, .top, .top, .top, .top, .top, .top, .top, .top, .top, .top, .top, .top, .top, .top, .top, .top, .top, .top, .top, .top, .top, .top, .top, .top, .top, .top], []) | .inr x => (.normal, [.bslc (BR.root 0) (.f32 v102), .bslc (BR.root 1) (.f32 v103), .top, .top, .top, .top, .top, .top, .top, .top, .top, .top, .top, .top, .top, .top, .top, .top, .top, .top, .top, .top, .top, .top, .top, .top, .top, .top, .top, .top, .top, .top, .top, .top, .top, .top, .top, .top, .top, .top, .top, .top, .top, .top, .top, .top, .top, .top, .top, .top, .top, .top, .top, .top, .top, .top, .top, .top, .top, .top, .top, .top, .top, .top, .top, .top, .top, .top, .top, .top, .top, .top, .top, .top, .top, .top, .top, .top, .top, .top, .top, .top, .top, .top], []))
def impl_DividedOf_l0_kill : List Nat := [0, 0, 1, 1, 1, 1, 1, 1, 1, 1, 1, 1, 1, 1, 1, 1, 1, 1, 1, 1, 1, 1, 1, 1, 1, 1, 0, 0, 0, 1, 1, 1, 1, 1, 1, 1, 1, 1, 1, 1, 1, 1, 1, 1, 1, 1, 1, 1, 1, 1, 1, 1, 1, 1, 1, 1, 1, 1, 1, 1, 1, 1, 1, 1, 1, 1, 1, 1, 1, 1, 1, 1, 1, 1, 1, 1, 1, 1, 1, 1, 1, 1, 1, 1]
def impl_DividedOf_l0_nx : Exit → List Nat
  | .exit 0 => [0, 0, 1, 1, 1, 1, 1, 1, 1, 1, 1, 1, 1, 1, 1, 1, 1, 1, 1, 1, 1, 1, 1, 1, 1, 1, 1, 1, 1, 1, 1, 1, 1, 1, 1, 1, 1, 1, 1, 1, 1, 1, 1, 1, 1, 1, 1, 1, 1, 1, 1, 1, 1, 1, 1, 1, 1, 1, 1, 1, 1, 1, 1, 1, 1, 1, 1, 1, 1, 1, 1, 1, 1, 1, 1, 1, 1, 1, 1, 1, 1, 1, 1, 1]
  | .ret => [1, 1, 1, 1, 0, 0, 1, 1, 1, 1, 1, 1, 1, 1, 1, 1, 1, 1, 1, 1, 1, 1, 1, 1, 1, 1, 1, 1, 1, 1, 1, 1, 1, 1, 1, 1, 1, 1, 1, 1, 1, 1, 1, 1, 1, 1, 1, 1, 1, 1, 1, 1, 1, 1, 1, 1, 1, 1, 1, 1, 1, 1, 1, 1, 1, 1, 1, 1, 1, 1, 1, 1, 1, 1, 1, 1, 1, 1, 1, 1, 1, 1, 1, 1]
  | _ => []
noncomputable def impl_DividedOf_l4_T (v102 : List Nat) (v182 : Int) (s : Int × (List Nat)) : Tree ((Int × (List Nat)) ⊕ ((List Nat))) :=
  (.br (decide (v182 ≤ s.1)) (
   (.grd (inb s.1 ((s.2).length)) <|
   (.grd (inb (IntKind.i64.wrap (s.1 - (1 : Int))) ((s.2).length)) <|
   (.grd (inb s.1 v102.length) <|
   (.grd (inb (IntKind.i64.wrap (s.1 - v182)) v102.length) <|
   (.grd (inb s.1 ((s.2).length)) <|
   .leaf (.inl (IntKind.i64.wrap (s.1 - (1 : Int)), List.set s.2 (Int.toNat s.1) (fdiv .f32 (fsub .f32 (nth s.2 (Int.toNat s.1)) (nth s.2 (Int.toNat (IntKind.i64.wrap (s.1 - (1 : Int)))))) (fsub .f32 (nth v102 (Int.toNat s.1)) (nth v102 (Int.toNat (IntKind.i64.wrap (s.1 - v182)))))))))))))
  ) (
   .leaf (.inr s.2)
  ))

noncomputable def impl_DividedOf_l4_g (v102 : List Nat) (v182 : Int) (s0 : Int × (List Nat)) : Option ((List Nat)) := whileM (fun s => (impl_DividedOf_l4_T v102 v182 s).run) s0
def impl_DividedOf_l4_E (v102 : List Nat) (v103 : List Nat) (v182 : Int) (s : Int × (List Nat)) : Sd := ([.bslc (BR.root 0) (.f32 v102), .top, .top, .top, .top, .top, .top, .top, .own 0 0 ((s.2).length), .int .i64 v182, .int .i64 s.1, .top, .top, .top, .top, .top, .top, .top, .top, .top, .top, .top, .top, .top, .top, .top, .top, .top, .top, .top, .top, .top, .top, .top, .top, .top, .top, .top, .top, .top, .top, .top, .top, .top, .top, .top, .top, .top, .top, .top, .top, .top, .top, .top, .top, .top, .top, .top, .top, .top, .top, .top, .top, .top, .top, .top, .top, .top, .top, .top, .top, .top, .top, .top, .top, .top, .top, .top, .top, .top, .top, .top, .top, .top], [.row (.f32 s.2) 0])
def impl_DividedOf_l4_X (v102 : List Nat) (v103 : List Nat) (v182 : Int) (x : (List Nat)) : Out := (.normal, [.bslc (BR.root 0) (.f32 v102), .top, .top, .top, .top, .top, .top, .top, .own 0 0 ((x).length), .int .i64 v182, .top, .top, .top, .top, .top, .top, .top, .top, .top, .top, .top, .top, .top, .top, .top, .top, .top, .top, .top, .top, .top, .top, .top, .top, .top, .top, .top, .top, .top, .top, .top, .top, .top, .top, .top, .top, .top, .top, .top, .top, .top, .top, .top, .top, .top, .top, .top, .top, .top, .top, .top, .top, .top, .top, .top, .top, .top, .top, .top, .top, .top, .top, .top, .top, .top, .top, .top, .top, .top, .top, .top, .top, .top, .top], [.row (.f32 x) 0])
def impl_DividedOf_l4_kill : List Nat := [0, 1, 1, 1, 1, 1, 1, 1, 0, 0, 0, 1, 1, 1, 1, 1, 1, 1, 1, 1, 1, 1, 1, 1, 1, 1, 1, 1, 1, 1, 1, 1, 1, 1, 1, 1, 1, 1, 1, 1, 1, 1, 1, 1, 1, 1, 1, 1, 1, 1, 1, 1, 1, 1, 1, 1, 1, 1, 1, 1, 1, 1, 1, 1, 1, 1, 1, 1, 1, 1, 1, 1, 1, 1, 1, 1, 1, 1, 1, 1, 1, 1, 1, 1]
def impl_DividedOf_l4_nx : Exit → List Nat
  | .exit 2 => [1, 1, 1, 1, 1, 1, 1, 1, 0, 1, 1, 1, 1, 1, 1, 1, 1, 1, 1, 1, 1, 1, 1, 1, 1, 1, 1, 1, 1, 1, 1, 1, 1, 1, 1, 1, 1, 1, 1, 1, 1, 1, 1, 1, 1, 1, 1, 1, 1, 1, 1, 1, 1, 1, 1, 1, 1, 1, 1, 1, 1, 1, 1, 1, 1, 1, 1, 1, 1, 1, 1, 1, 1, 1, 1, 1, 1, 1, 1, 1, 1, 1, 1, 1]
  | .exit 3 => [0, 1, 1, 1, 1, 1, 1, 1, 0, 0, 1, 1, 1, 1, 1, 1, 1, 1, 1, 1, 1, 1, 1, 1, 1, 1, 1, 1, 1, 1, 1, 1, 1, 1, 1, 1, 1, 1, 1, 1, 1, 1, 1, 1, 1, 1, 1, 1, 1, 1, 1, 1, 1, 1, 1, 1, 1, 1, 1, 1, 1, 1, 1, 1, 1, 1, 1, 1, 1, 1, 1, 1, 1, 1, 1, 1, 1, 1, 1, 1, 1, 1, 1, 1]
  | .exit 4 => [0, 1, 1, 1, 1, 1, 1, 1, 0, 0, 1, 1, 1, 1, 1, 1, 1, 1, 1, 1, 1, 1, 1, 1, 1, 1, 1, 1, 1, 1, 1, 1, 1, 1, 1, 1, 1, 1, 1, 1, 1, 1, 1, 1, 1, 1, 1, 1, 1, 1, 1, 1, 1, 1, 1, 1, 1, 1, 1, 1, 1, 1, 1, 1, 1, 1, 1, 1, 1, 1, 1, 1, 1, 1, 1, 1, 1, 1, 1, 1, 1, 1, 1, 1]
  | .ret => [1, 1, 1, 1, 0, 0, 1, 1, 1, 1, 1, 1, 1, 1, 1, 1, 1, 1, 1, 1, 1, 1, 1, 1, 1, 1, 1, 1, 1, 1, 1, 1, 1, 1, 1, 1, 1, 1, 1, 1, 1, 1, 1, 1, 1, 1, 1, 1, 1, 1, 1, 1, 1, 1, 1, 1, 1, 1, 1, 1, 1, 1, 1, 1, 1, 1, 1, 1, 1, 1, 1, 1, 1, 1, 1, 1, 1, 1, 1, 1, 1, 1, 1, 1]
  | _ => []
noncomputable def impl_DividedOf_l2_T (v102 : List Nat) (v103 : List Nat) (s : Int × (List Nat)) : Tree ((Int × (List Nat)) ⊕ ((List Nat))) :=
  (.br (decide (s.1 < (((s.2).length : Nat) : Int))) (
   (.need (some (impl_DividedOf_l4_E v102 v103 s.1 (IntKind.i64.wrap ((((s.2).length : Nat) : Int) - (1 : Int)), s.2)) = some (impl_DividedOf_l4_E v102 v103 s.1 (IntKind.i64.wrap ((((s.2).length : Nat) : Int) - (1 : Int)), s.2))) <|
   (.call (impl_DividedOf_l4_g v102 s.1 (IntKind.i64.wrap ((((s.2).length : Nat) : Int) - (1 : Int)), s.2)) fun v185 =>
   .leaf (.inl (IntKind.i64.wrap (s.1 + (1 : Int)), v185))))
  ) (
   .leaf (.inr s.2)
  ))

noncomputable def impl_DividedOf_l2_g (v102 : List Nat) (v103 : List Nat) (s0 : Int × (List Nat)) : Option ((List Nat)) := whileM (fun s => (impl_DividedOf_l2_T v102 v103 s).run) s0
def impl_DividedOf_l2_E (v102 : List Nat) (v103 : List Nat) (s : Int × (List Nat)) : Sd := ([.bslc (BR.root 0) (.f32 v102), .top, .top, .top, .top, .top, .top, .top, .own 0 0 ((s.2).length), .int .i64 s.1, .top, .top, .top, .top, .top, .top, .top, .top, .top, .top, .top, .top, .top, .top, .top, .top, .top, .top, .top, .top, .top, .top, .top, .top, .top, .top, .top, .top, .top, .top, .top, .top, .top, .top, .top, .top, .top, .top, .top, .top, .top, .top, .top, .top, .top, .top, .top, .top, .top, .top, .top, .top, .top, .top, .top, .top, .top, .top, .top, .top, .top, .top, .top, .top, .top, .top, .top, .top, .top, .top, .top, .top, .top, .top], [.row (.f32 s.2) 0])
def impl_DividedOf_l2_X (v102 : List Nat) (v103 : List Nat) (x : (List Nat)) : Out := (.normal, [.top, .top, .top, .top, .top, .top, .top, .top, .own 0 0 ((x).length), .top, .top, .top, .top, .top, .top, .top, .top, .top, .top, .top, .top, .top, .top, .top, .top, .top, .top, .top, .top, .top, .top, .top, .top, .top, .top, .top, .top, .top, .top, .top, .top, .top, .top, .top, .top, .top, .top, .top, .top, .top, .top, .top, .top, .top, .top, .top, .top, .top, .top, .top, .top, .top, .top, .top, .top, .top, .top, .top, .top, .top, .top, .top, .top, .top, .top, .top, .top, .top, .top, .top, .top, .top, .top, .top], [.row (.f32 x) 0])
def impl_DividedOf_l2_kill : List Nat := [0, 1, 1, 1, 1, 1, 1, 1, 0, 0, 1, 1, 1, 1, 1, 1, 1, 1, 1, 1, 1, 1, 1, 1, 1, 1, 1, 1, 1, 1, 1, 1, 1, 1, 1, 1, 1, 1, 1, 1, 1, 1, 1, 1, 1, 1, 1, 1, 1, 1, 1, 1, 1, 1, 1, 1, 1, 1, 1, 1, 1, 1, 1, 1, 1, 1, 1, 1, 1, 1, 1, 1, 1, 1, 1, 1, 1, 1, 1, 1, 1, 1, 1, 1]
def impl_DividedOf_l2_nx : Exit → List Nat
  | .exit 2 => [1, 1, 1, 1, 1, 1, 1, 1, 0, 1, 1, 1, 1, 1, 1, 1, 1, 1, 1, 1, 1, 1, 1, 1, 1, 1, 1, 1, 1, 1, 1, 1, 1, 1, 1, 1, 1, 1, 1, 1, 1, 1, 1, 1, 1, 1, 1, 1, 1, 1, 1, 1, 1, 1, 1, 1, 1, 1, 1, 1, 1, 1, 1, 1, 1, 1, 1, 1, 1, 1, 1, 1, 1, 1, 1, 1, 1, 1, 1, 1, 1, 1, 1, 1]
  | .ret => [1, 1, 1, 1, 0, 0, 1, 1, 1, 1, 1, 1, 1, 1, 1, 1, 1, 1, 1, 1, 1, 1, 1, 1, 1, 1, 1, 1, 1, 1, 1, 1, 1, 1, 1, 1, 1, 1, 1, 1, 1, 1, 1, 1, 1, 1, 1, 1, 1, 1, 1, 1, 1, 1, 1, 1, 1, 1, 1, 1, 1, 1, 1, 1, 1, 1, 1, 1, 1, 1, 1, 1, 1, 1, 1, 1, 1, 1, 1, 1, 1, 1, 1, 1]
  | _ => []
noncomputable def impl_DividedOf_LO (v102 : List Nat) (v103 : List Nat) : LOr := fun id e L =>
  match id with
  | 0 => .need (normA 0 impl_DividedOf_l0_kill e L = some (impl_DividedOf_l0_E v102 v103 (gI (vAt e 28)))) (.call (impl_DividedOf_l0_g v102 (gI (vAt e 28))) fun x => .sum x (fun b0 => .leaf (impl_DividedOf_l0_X v102 v103 (.inl b0))) (fun c0 => .leaf (impl_DividedOf_l0_X v102 v103 (.inr c0))))
  | 4 => .need (normA 0 impl_DividedOf_l4_kill e L = some (impl_DividedOf_l4_E v102 v103 (gI (vAt e 9)) ((gI (vAt e 10)), (gRF L (vAt e 8))))) (.call (impl_DividedOf_l4_g v102 (gI (vAt e 9)) ((gI (vAt e 10)), (gRF L (vAt e 8)))) fun x => .leaf (impl_DividedOf_l4_X v102 v103 (gI (vAt e 9)) x))
  | 2 => .need (normA 0 impl_DividedOf_l2_kill e L = some (impl_DividedOf_l2_E v102 v103 ((gI (vAt e 9)), (gRF L (vAt e 8))))) (.call (impl_DividedOf_l2_g v102 v103 ((gI (vAt e 9)), (gRF L (vAt e 8)))) fun x => .leaf (impl_DividedOf_l2_X v102 v103 x))
  | _ => .fail
noncomputable def impl_DividedOf_tab : List (FuncId × DFn × Bool) := [(38, impl_isList_F, true), (46, slices_ContainsF_F, true), (47, slices_CloneF_F, true), (48, impl_allFinite_F, true)]
theorem impl_DividedOf_hO : OrcOk Try.prog (tabD impl_DividedOf_tab) (tabM impl_DividedOf_tab) := tabD_cons impl_isList_Fok (tabD_cons slices_ContainsF_Fok (tabD_cons slices_CloneF_Fok (tabD_cons impl_allFinite_Fok (tabD_nil _))))
theorem impl_DividedOf_l0_be (v102 : List Nat) (v103 : List Nat) (s : Int) : bodyT TT (tabD impl_DividedOf_tab) (tabM impl_DividedOf_tab) (impl_DividedOf_LO v102 v103) 0 impl_DividedOf_l0_kill impl_DividedOf_l0_nx (bodyOf Try.f20 0) 0 (impl_DividedOf_l0_E v102 v103 s) = (impl_DividedOf_l0_T v102 s).bind fun y => .leaf (outS (impl_DividedOf_l0_E v102 v103) (impl_DividedOf_l0_X v102 v103) y) := by kernel_rfl
theorem impl_DividedOf_l0_ok (v102 : List Nat) (v103 : List Nat) : LSound Try.prog 0 (impl_DividedOf_LO v102 v103) 0 (bodyOf Try.f20 0) := by
  intro e L out h
  exact lo_ok (E := impl_DividedOf_l0_E v102 v103) (gT := impl_DividedOf_l0_T v102) (X := impl_DividedOf_l0_X v102 v103) (s0 := (gI (vAt e 28))) tok impl_DividedOf_hO mixed (LoopsOk_eq (l := []) (by kernel_rfl) trivial) (impl_DividedOf_l0_be v102 v103) rfl (by intro x; (cases x with | inl b => rfl | inr x => exact rfl)) h
theorem impl_DividedOf_l4_be (v102 : List Nat) (v103 : List Nat) (v182 : Int) (s : Int × (List Nat)) : bodyT TT (tabD impl_DividedOf_tab) (tabM impl_DividedOf_tab) (impl_DividedOf_LO v102 v103) 0 impl_DividedOf_l4_kill impl_DividedOf_l4_nx (bodyOf Try.f20 4) 4 (impl_DividedOf_l4_E v102 v103 v182 s) = (impl_DividedOf_l4_T v102 v182 s).bind fun y => .leaf (outS (impl_DividedOf_l4_E v102 v103 v182) (impl_DividedOf_l4_X v102 v103 v182) y) := by kernel_rfl
theorem impl_DividedOf_l4_ok (v102 : List Nat) (v103 : List Nat) : LSound Try.prog 0 (impl_DividedOf_LO v102 v103) 4 (bodyOf Try.f20 4) := by
  intro e L out h
  exact lo_ok (E := impl_DividedOf_l4_E v102 v103 (gI (vAt e 9))) (gT := impl_DividedOf_l4_T v102 (gI (vAt e 9))) (X := impl_DividedOf_l4_X v102 v103 (gI (vAt e 9))) (s0 := ((gI (vAt e 10)), (gRF L (vAt e 8)))) tok impl_DividedOf_hO mixed (LoopsOk_eq (l := []) (by kernel_rfl) trivial) (impl_DividedOf_l4_be v102 v103 (gI (vAt e 9))) rfl (by intro x; rfl) h
theorem impl_DividedOf_l2_be (v102 : List Nat) (v103 : List Nat) (s : Int × (List Nat)) : bodyT TT (tabD impl_DividedOf_tab) (tabM impl_DividedOf_tab) (impl_DividedOf_LO v102 v103) 0 impl_DividedOf_l2_kill impl_DividedOf_l2_nx (bodyOf Try.f20 2) 2 (impl_DividedOf_l2_E v102 v103 s) = (impl_DividedOf_l2_T v102 v103 s).bind fun y => .leaf (outS (impl_DividedOf_l2_E v102 v103) (impl_DividedOf_l2_X v102 v103) y) := by kernel_rfl
theorem impl_DividedOf_l2_ok (v102 : List Nat) (v103 : List Nat) : LSound Try.prog 0 (impl_DividedOf_LO v102 v103) 2 (bodyOf Try.f20 2) := by
  intro e L out h
  exact lo_ok (E := impl_DividedOf_l2_E v102 v103) (gT := impl_DividedOf_l2_T v102 v103) (X := impl_DividedOf_l2_X v102 v103) (s0 := ((gI (vAt e 9)), (gRF L (vAt e 8)))) tok impl_DividedOf_hO mixed (LoopsOk_eq (l := [(4, bodyOf Try.f20 4)]) (by kernel_rfl) ⟨impl_DividedOf_l4_ok v102 v103, trivial⟩) (impl_DividedOf_l2_be v102 v103) rfl (by intro x; rfl) h
noncomputable def impl_DividedOf_T (v102 : List Nat) (v103 : List Nat) : Tree ((Unit) ⊕ ((List Nat))) :=
  (.call (impl_isList_g v102 (32 : Int)) fun v128 =>
  (.br (!v128) (
   .leaf (.inl ())
  ) (
   (.call (impl_isList_g v103 (32 : Int)) fun v129 =>
   (.br (!v129) (
    .leaf (.inl ())
   ) (
    (.br (!decide (((v102.length : Nat) : Int) = ((v103.length : Nat) : Int))) (
     .leaf (.inl ())
    ) (
     (.need (some (impl_DividedOf_l0_E v102 v103 (0 : Int)) = some (impl_DividedOf_l0_E v102 v103 (0 : Int))) <|
     (.call (impl_DividedOf_l0_g v102 (0 : Int)) fun v147 =>
     (.sum v147 (fun v148 =>
      .leaf (.inl ())
     ) (fun v149 =>
      (.call (slices_CloneF_g v103) fun v151 =>
      (.need (some (impl_DividedOf_l2_E v102 v103 ((1 : Int), ([] : List Nat) ++ v103)) = some (impl_DividedOf_l2_E v102 v103 ((1 : Int), ([] : List Nat) ++ v103))) <|
      (.call (impl_DividedOf_l2_g v102 v103 ((1 : Int), ([] : List Nat) ++ v103)) fun v186 =>
      (.call (impl_allFinite_g v186) fun v189 =>
      (.sum v189 (fun v190 =>
       .leaf (.inl ())
      ) (fun v191 =>
       .leaf (.inr v186)
      ))))))
     ))))
    ))
   )))
  )))

noncomputable def impl_DividedOf_g (v102 : List Nat) (v103 : List Nat) : Option ((Unit) ⊕ ((List Nat))) := (impl_DividedOf_T v102 v103).run
def impl_DividedOf_enc (v102 : List Nat) (v103 : List Nat) (y : (Unit) ⊕ ((List Nat))) : Rs := (match y with | .inl y => (.tup [.nilslc, .lit false], []) | .inr y => (.tup [.own 0 0 ((y).length), .lit true], [.row (.f32 y) 0]))
theorem impl_DividedOf_den (v102 : List Nat) (v103 : List Nat) : (den TT (tabD impl_DividedOf_tab) (tabM impl_DividedOf_tab) (impl_DividedOf_LO v102 v103) (codeOf Try.f20) ([.bslc (BR.root 0) (.f32 v102), .bslc (BR.root 1) (.f32 v103)] ++ List.replicate (Try.f20.ntmps - ([.bslc (BR.root 0) (.f32 v102), .bslc (BR.root 1) (.f32 v103)] : List DV).length) .undef) []).bind (retD TT Try.f20.results.toList 0) = (impl_DividedOf_T v102 v103).bind fun y => .leaf (impl_DividedOf_enc v102 v103 y) := by kernel_rfl
theorem impl_DividedOf_fn (v102 : List Nat) (v103 : List Nat) (F : Fr) (hm : F.ids.length = 0) (h0 : St F [] F.H0) (hA : DVs.Ok F [] [.bslc (BR.root 0) (.f32 v102), .bslc (BR.root 1) (.f32 v103)]) {y : (Unit) ⊕ ((List Nat))} (hy : impl_DividedOf_g v102 v103 = some y) : ∃ H', FnOk Try.prog 20 (DVs.av F [.bslc (BR.root 0) (.f32 v102), .bslc (BR.root 1) (.f32 v103)]) F.H0 ((impl_DividedOf_enc v102 v103 y).1.av F) H' ∧ St F (impl_DividedOf_enc v102 v103 y).2 H' ∧ (impl_DividedOf_enc v102 v103 y).1.Ok F (impl_DividedOf_enc v102 v103 y).2 :=
  fn_fin tok impl_DividedOf_hO mixed Try.func20 Try.call20 (by kernel_rfl) (LoopsOk_eq (l := [(0, bodyOf Try.f20 0), (2, bodyOf Try.f20 2)]) (by kernel_rfl) ⟨impl_DividedOf_l0_ok v102 v103, impl_DividedOf_l2_ok v102 v103, trivial⟩) (impl_DividedOf_den v102 v103) hy hm h0 hA
noncomputable def impl_DividedOf_F : DFn := fun args L =>
  match args with
  | [a1, a2] =>
    optT (rowF32 L a1) fun v102 =>
    optT (rowF32 L a2) fun v103 =>
    .call (impl_DividedOf_g v102 v103) fun y => .sum y (fun y0 => .leaf (.tup [.nilslc, .lit false], L)) (fun z0 => .leaf (.tup [.own (L.length + 0) 0 ((z0).length), .lit true], L ++ [.row (.f32 z0) 0]))
  | _ => .fail
theorem impl_DividedOf_Fok : COk Try.prog 20 impl_DividedOf_F true := by
  intro F L H args r L' hs ha hr
  unfold impl_DividedOf_F at hr
  split at hr
  · rename_i a1 a2
    obtain ⟨v102, hv102, hr⟩ := optT_run hr
    obtain ⟨v103, hv103, hr⟩ := optT_run hr
    simp only [Tree.run] at hr
    obtain ⟨y, hy, hr⟩ := Option.bind_eq_some_iff.1 hr
    cases y with
    | inl y =>
      simp only [Tree.run, Option.some.injEq, Prod.mk.injEq] at hr
      obtain ⟨rfl, rfl⟩ := hr
      exact call_ok0 hs (fun k => (([a1.av F, a2.av F] : List AV)[k]?).getD .top) [a1, a2] [.bslc (BR.root 0) (.f32 v102), .bslc (BR.root 1) (.f32 v103)] (fun F' h0 hi hρ => ⟨by simp [DVs.av, DV.av, BR.av, hρ], impl_DividedOf_fn v102 v103 F' (by rw [hi]; rfl) (st_nil hi) ⟨bslc_ok hi (by rw [h0, hρ]; exact rowF32_ok hs (DVs.okAt ha 0 rfl) hv102), bslc_ok hi (by rw [h0, hρ]; exact rowF32_ok hs (DVs.okAt ha 1 rfl) hv103), trivial⟩ hy⟩) rfl
    | inr y =>
      simp only [Tree.run, Option.some.injEq, Prod.mk.injEq] at hr
      obtain ⟨rfl, rfl⟩ := hr
      exact call_ok1 hs (fun k => (([a1.av F, a2.av F] : List AV)[k]?).getD .top) [a1, a2] [.bslc (BR.root 0) (.f32 v102), .bslc (BR.root 1) (.f32 v103)] (fun F' h0 hi hρ => ⟨by simp [DVs.av, DV.av, BR.av, hρ], impl_DividedOf_fn v102 v103 F' (by rw [hi]; rfl) (st_nil hi) ⟨bslc_ok hi (by rw [h0, hρ]; exact rowF32_ok hs (DVs.okAt ha 0 rfl) hv102), bslc_ok hi (by rw [h0, hρ]; exact rowF32_ok hs (DVs.okAt ha 1 rfl) hv103), trivial⟩ hy⟩) rfl rfl
  · cases hr
/-! laws.sameFloat -/
noncomputable def laws_sameFloat_LO (v198 : Nat) (v199 : Nat) : LOr := fun id e L =>
  match id with
  | _ => .fail
noncomputable def laws_sameFloat_tab : List (FuncId × DFn × Bool) := []
theorem laws_sameFloat_hO : OrcOk Try.prog (tabD laws_sameFloat_tab) (tabM laws_sameFloat_tab) := tabD_nil _
noncomputable def laws_sameFloat_T (v198 : Nat) (v199 : Nat) : Tree (Bool) :=
  (.br (!feq .f64 v198 v198) (
   (.br (!feq .f64 v198 v198) (
    .leaf (!feq .f64 v199 v199)
   ) (
    .leaf false
   ))
  ) (
   (.br (!feq .f64 v199 v199) (
    (.br (!feq .f64 v198 v198) (
     .leaf (!feq .f64 v199 v199)
    ) (
     .leaf false
    ))
   ) (
    (.br (feq .f64 v198 (0 : Nat)) (
     (.br (feq .f64 v199 (0 : Nat)) (
      .leaf ((fgrt .f64 (fdiv .f64 (4607182418800017408 : Nat) v198) (0 : Nat)) == (fgrt .f64 (fdiv .f64 (4607182418800017408 : Nat) v199) (0 : Nat)))
     ) (
      .leaf (feq .f64 v198 v199)
     ))
    ) (
     .leaf (feq .f64 v198 v199)
    ))
   ))
  ))

noncomputable def laws_sameFloat_g (v198 : Nat) (v199 : Nat) : Option (Bool) := (laws_sameFloat_T v198 v199).run
def laws_sameFloat_enc (v198 : Nat) (v199 : Nat) (y : Bool) : Rs := (.bool y, [])
theorem laws_sameFloat_den (v198 : Nat) (v199 : Nat) : (den TT (tabD laws_sameFloat_tab) (tabM laws_sameFloat_tab) (laws_sameFloat_LO v198 v199) (codeOf Try.f12) ([.flt .f64 v198, .flt .f64 v199] ++ List.replicate (Try.f12.ntmps - ([.flt .f64 v198, .flt .f64 v199] : List DV).length) .undef) []).bind (retD TT Try.f12.results.toList 0) = (laws_sameFloat_T v198 v199).bind fun y => .leaf (laws_sameFloat_enc v198 v199 y) := by kernel_rfl
theorem laws_sameFloat_fn (v198 : Nat) (v199 : Nat) (F : Fr) (hm : F.ids.length = 0) (h0 : St F [] F.H0) (hA : DVs.Ok F [] [.flt .f64 v198, .flt .f64 v199]) {y : Bool} (hy : laws_sameFloat_g v198 v199 = some y) : ∃ H', FnOk Try.prog 12 (DVs.av F [.flt .f64 v198, .flt .f64 v199]) F.H0 ((laws_sameFloat_enc v198 v199 y).1.av F) H' ∧ St F (laws_sameFloat_enc v198 v199 y).2 H' ∧ (laws_sameFloat_enc v198 v199 y).1.Ok F (laws_sameFloat_enc v198 v199 y).2 :=
  fn_fin tok laws_sameFloat_hO mixed Try.func12 Try.call12 (by kernel_rfl) (LoopsOk_eq (l := []) (by kernel_rfl) trivial) (laws_sameFloat_den v198 v199) hy hm h0 hA
def laws_sameFloat_v (v198 : Nat) (v199 : Nat) : Bool :=
  if (!feq .f64 v198 v198) = true then (
   if (!feq .f64 v198 v198) = true then (
    !feq .f64 v199 v199
   ) else (
    false
   )
  ) else (
   if (!feq .f64 v199 v199) = true then (
    if (!feq .f64 v198 v198) = true then (
     !feq .f64 v199 v199
    ) else (
     false
    )
   ) else (
    if (feq .f64 v198 (0 : Nat)) = true then (
     if (feq .f64 v199 (0 : Nat)) = true then (
      (fgrt .f64 (fdiv .f64 (4607182418800017408 : Nat) v198) (0 : Nat)) == (fgrt .f64 (fdiv .f64 (4607182418800017408 : Nat) v199) (0 : Nat))
     ) else (
      feq .f64 v198 v199
     )
    ) else (
     feq .f64 v198 v199
    )
   )
  )
theorem laws_sameFloat_tot (v198 : Nat) (v199 : Nat) : laws_sameFloat_g v198 v199 = some (laws_sameFloat_v v198 v199) := by
  unfold laws_sameFloat_g laws_sameFloat_T laws_sameFloat_v
  simp only [Tree.run]
  repeat' (first | rfl | split)
noncomputable def laws_sameFloat_F : DFn := fun args L =>
  match args with
  | [.flt .f64 v198, .flt .f64 v199] =>
    .leaf (.bool (laws_sameFloat_v v198 v199), L)
  | _ => .fail
theorem laws_sameFloat_Fok : COk Try.prog 12 laws_sameFloat_F true := by
  intro F L H args r L' hs ha hr
  unfold laws_sameFloat_F at hr
  split at hr
  · rename_i v198 v199
    have hy := laws_sameFloat_tot v198 v199
    generalize laws_sameFloat_v v198 v199 = y at hy hr
    simp only [Tree.run, Option.some.injEq, Prod.mk.injEq] at hr
    obtain ⟨rfl, rfl⟩ := hr
    exact call_ok0 hs (fun k => (([] : List AV)[k]?).getD .top) [.flt .f64 v198, .flt .f64 v199] [.flt .f64 v198, .flt .f64 v199] (fun F' h0 hi hρ => ⟨by simp [DVs.av, DV.av, BR.av, hρ], laws_sameFloat_fn v198 v199 F' (by rw [hi]; rfl) (st_nil hi) ⟨trivial, trivial, trivial⟩ hy⟩) rfl
  · cases hr
/-! laws.eqFloat32S -/
noncomputable def laws_eqFloat32S_l0_T (v195 : List Nat) (v196 : List Nat) (s : Int) : Tree ((Int) ⊕ ((Unit) ⊕ (Unit))) :=
  (.br (decide (s < ((v195.length : Nat) : Int))) (
   (.grd (inb s v195.length) <|
   (.grd (inb s v196.length) <|
   (.br (!(laws_sameFloat_v (wid (nth v195 (Int.toNat s))) (wid (nth v196 (Int.toNat s))))) (
    .leaf (.inr (.inl ()))
   ) (
    .leaf (.inl (IntKind.i64.wrap (s + (1 : Int))))
   ))))
  ) (
   .leaf (.inr (.inr ()))
  ))

noncomputable def laws_eqFloat32S_l0_g (v195 : List Nat) (v196 : List Nat) (s0 : Int) : Option ((Unit) ⊕ (Unit)) := whileM (fun s => (laws_eqFloat32S_l0_T v195 v196 s).run) s0
def laws_eqFloat32S_l0_E (v195 : List Nat) (v196 : List Nat) (s : Int) : Sd := ([.bslc (BR.root 0) (.f32 v195), .bslc (BR.root 1) (.f32 v196), .top, .top, .top, .int .i64 s, .top, .top, .top, .top, .top, .top, .top, .top, .top, .top, .top, .top, .top, .top, .top, .top, .top, .top, .top, .top, .top, .top, .top], [])
def laws_eqFloat32S_l0_X (v195 : List Nat) (v196 : List Nat) (x : (Unit) ⊕ (Unit)) : Out := (match x with | .inl x => (.ret, [.top, .top, .top, .top, .lit false, .top, .top, .top, .top, .top, .top, .top, .top, .top, .top, .top, .top, .top, .top, .top, .top, .top, .top, .top, .top, .top, .top, .top, .top], []) | .inr x => (.normal, [.top, .top, .top, .top, .top, .top, .top, .top, .top, .top, .top, .top, .top, .top, .top, .top, .top, .top, .top, .top, .top, .top, .top, .top, .top, .top, .top, .top, .top], []))
def laws_eqFloat32S_l0_kill : List Nat := [0, 0, 1, 1, 1, 0, 1, 1, 1, 1, 1, 1, 1, 1, 1, 1, 1, 1, 1, 1, 1, 1, 1, 1, 1, 1, 1, 1, 1]
def laws_eqFloat32S_l0_nx : Exit → List Nat
  | .exit 0 => [1, 1, 1, 1, 1, 1, 1, 1, 1, 1, 1, 1, 1, 1, 1, 1, 1, 1, 1, 1, 1, 1, 1, 1, 1, 1, 1, 1, 1]
  | .ret => [1, 1, 1, 1, 0, 1, 1, 1, 1, 1, 1, 1, 1, 1, 1, 1, 1, 1, 1, 1, 1, 1, 1, 1, 1, 1, 1, 1, 1]
  | _ => []
noncomputable def laws_eqFloat32S_LO (v195 : List Nat) (v196 : List Nat) : LOr := fun id e L =>
  match id with
  | 0 => .need (normA 0 laws_eqFloat32S_l0_kill e L = some (laws_eqFloat32S_l0_E v195 v196 (gI (vAt e 5)))) (.call (laws_eqFloat32S_l0_g v195 v196 (gI (vAt e 5))) fun x => .sum x (fun b0 => .leaf (laws_eqFloat32S_l0_X v195 v196 (.inl b0))) (fun c0 => .leaf (laws_eqFloat32S_l0_X v195 v196 (.inr c0))))
  | _ => .fail
noncomputable def laws_eqFloat32S_tab : List (FuncId × DFn × Bool) := [(12, laws_sameFloat_F, true)]
theorem laws_eqFloat32S_hO : OrcOk Try.prog (tabD laws_eqFloat32S_tab) (tabM laws_eqFloat32S_tab) := tabD_cons laws_sameFloat_Fok (tabD_nil _)
theorem laws_eqFloat32S_l0_be (v195 : List Nat) (v196 : List Nat) (s : Int) : bodyT TT (tabD laws_eqFloat32S_tab) (tabM laws_eqFloat32S_tab) (laws_eqFloat32S_LO v195 v196) 0 laws_eqFloat32S_l0_kill laws_eqFloat32S_l0_nx (bodyOf Try.f13 0) 0 (laws_eqFloat32S_l0_E v195 v196 s) = (laws_eqFloat32S_l0_T v195 v196 s).bind fun y => .leaf (outS (laws_eqFloat32S_l0_E v195 v196) (laws_eqFloat32S_l0_X v195 v196) y) := by kernel_rfl
theorem laws_eqFloat32S_l0_ok (v195 : List Nat) (v196 : List Nat) : LSound Try.prog 0 (laws_eqFloat32S_LO v195 v196) 0 (bodyOf Try.f13 0) := by
  intro e L out h
  exact lo_ok (E := laws_eqFloat32S_l0_E v195 v196) (gT := laws_eqFloat32S_l0_T v195 v196) (X := laws_eqFloat32S_l0_X v195 v196) (s0 := (gI (vAt e 5))) tok laws_eqFloat32S_hO mixed (LoopsOk_eq (l := []) (by kernel_rfl) trivial) (laws_eqFloat32S_l0_be v195 v196) rfl (by intro x; (cases x with | inl b => rfl | inr x => exact rfl)) h
noncomputable def laws_eqFloat32S_T (v195 : List Nat) (v196 : List Nat) : Tree (Bool) :=
  (.br (!decide (((v195.length : Nat) : Int) = ((v196.length : Nat) : Int))) (
   .leaf false
  ) (
   (.need (some (laws_eqFloat32S_l0_E v195 v196 (0 : Int)) = some (laws_eqFloat32S_l0_E v195 v196 (0 : Int))) <|
   (.call (laws_eqFloat32S_l0_g v195 v196 (0 : Int)) fun v202 =>
   (.sum v202 (fun v203 =>
    .leaf false
   ) (fun v204 =>
    .leaf true
   ))))
  ))

noncomputable def laws_eqFloat32S_g (v195 : List Nat) (v196 : List Nat) : Option (Bool) := (laws_eqFloat32S_T v195 v196).run
def laws_eqFloat32S_enc (v195 : List Nat) (v196 : List Nat) (y : Bool) : Rs := (.bool y, [])
theorem laws_eqFloat32S_den (v195 : List Nat) (v196 : List Nat) : (den TT (tabD laws_eqFloat32S_tab) (tabM laws_eqFloat32S_tab) (laws_eqFloat32S_LO v195 v196) (codeOf Try.f13) ([.bslc (BR.root 0) (.f32 v195), .bslc (BR.root 1) (.f32 v196)] ++ List.replicate (Try.f13.ntmps - ([.bslc (BR.root 0) (.f32 v195), .bslc (BR.root 1) (.f32 v196)] : List DV).length) .undef) []).bind (retD TT Try.f13.results.toList 0) = (laws_eqFloat32S_T v195 v196).bind fun y => .leaf (laws_eqFloat32S_enc v195 v196 y) := by kernel_rfl
theorem laws_eqFloat32S_fn (v195 : List Nat) (v196 : List Nat) (F : Fr) (hm : F.ids.length = 0) (h0 : St F [] F.H0) (hA : DVs.Ok F [] [.bslc (BR.root 0) (.f32 v195), .bslc (BR.root 1) (.f32 v196)]) {y : Bool} (hy : laws_eqFloat32S_g v195 v196 = some y) : ∃ H', FnOk Try.prog 13 (DVs.av F [.bslc (BR.root 0) (.f32 v195), .bslc (BR.root 1) (.f32 v196)]) F.H0 ((laws_eqFloat32S_enc v195 v196 y).1.av F) H' ∧ St F (laws_eqFloat32S_enc v195 v196 y).2 H' ∧ (laws_eqFloat32S_enc v195 v196 y).1.Ok F (laws_eqFloat32S_enc v195 v196 y).2 :=
  fn_fin tok laws_eqFloat32S_hO mixed Try.func13 Try.call13 (by kernel_rfl) (LoopsOk_eq (l := [(0, bodyOf Try.f13 0)]) (by kernel_rfl) ⟨laws_eqFloat32S_l0_ok v195 v196, trivial⟩) (laws_eqFloat32S_den v195 v196) hy hm h0 hA
noncomputable def laws_eqFloat32S_F : DFn := fun args L =>
  match args with
  | [a1, a2] =>
    optT (rowF32 L a1) fun v195 =>
    optT (rowF32 L a2) fun v196 =>
    .call (laws_eqFloat32S_g v195 v196) fun y => .leaf (.bool y, L)
  | _ => .fail
theorem laws_eqFloat32S_Fok : COk Try.prog 13 laws_eqFloat32S_F true := by
  intro F L H args r L' hs ha hr
  unfold laws_eqFloat32S_F at hr
  split at hr
  · rename_i a1 a2
    obtain ⟨v195, hv195, hr⟩ := optT_run hr
    obtain ⟨v196, hv196, hr⟩ := optT_run hr
    simp only [Tree.run] at hr
    obtain ⟨y, hy, hr⟩ := Option.bind_eq_some_iff.1 hr
    simp only [Tree.run, Option.some.injEq, Prod.mk.injEq] at hr
    obtain ⟨rfl, rfl⟩ := hr
    exact call_ok0 hs (fun k => (([a1.av F, a2.av F] : List AV)[k]?).getD .top) [a1, a2] [.bslc (BR.root 0) (.f32 v195), .bslc (BR.root 1) (.f32 v196)] (fun F' h0 hi hρ => ⟨by simp [DVs.av, DV.av, BR.av, hρ], laws_eqFloat32S_fn v195 v196 F' (by rw [hi]; rfl) (st_nil hi) ⟨bslc_ok hi (by rw [h0, hρ]; exact rowF32_ok hs (DVs.okAt ha 0 rfl) hv195), bslc_ok hi (by rw [h0, hρ]; exact rowF32_ok hs (DVs.okAt ha 1 rfl) hv196), trivial⟩ hy⟩) rfl
  · cases hr
/-! laws.markFloat32S -/
noncomputable def laws_markFloat32S_l0_T (s : Int × Int × (List Nat)) : Tree ((Int × Int × (List Nat)) ⊕ (Int × (List Nat))) :=
  (.br (decide (s.2.1 < (((s.2.2).length : Nat) : Int))) (
   (.grd (inb s.2.1 ((s.2.2).length)) <|
   .leaf (.inl (IntKind.i64.wrap (s.1 + (1 : Int)), IntKind.i64.wrap (s.2.1 + (1 : Int)), List.set s.2.2 (Int.toNat s.2.1) (fofint .f32 s.1))))
  ) (
   .leaf (.inr (s.1, s.2.2))
  ))

noncomputable def laws_markFloat32S_l0_g (s0 : Int × Int × (List Nat)) : Option (Int × (List Nat)) := whileM (fun s => (laws_markFloat32S_l0_T s).run) s0
def laws_markFloat32S_l0_E (v214 : List Nat) (v215 : Int) (s : Int × Int × (List Nat)) : Sd := ([.own 0 0 ((s.2.2).length), .int .i64 s.1, .top, .top, .top, .int .i64 s.2.1, .top, .top, .top, .top, .top, .top, .top, .top, .top, .top, .top, .top, .top, .top], [.row (.f32 s.2.2) 0])
def laws_markFloat32S_l0_X (v214 : List Nat) (v215 : Int) (x : Int × (List Nat)) : Out := (.normal, [.top, .int .i64 x.1, .top, .top, .top, .top, .top, .top, .top, .top, .top, .top, .top, .top, .top, .top, .top, .top, .top, .top], [.row (.f32 x.2) 0])
def laws_markFloat32S_l0_kill : List Nat := [0, 0, 1, 1, 1, 0, 1, 1, 1, 1, 1, 1, 1, 1, 1, 1, 1, 1, 1, 1]
def laws_markFloat32S_l0_nx : Exit → List Nat
  | .exit 0 => [1, 0, 1, 1, 1, 1, 1, 1, 1, 1, 1, 1, 1, 1, 1, 1, 1, 1, 1, 1]
  | .ret => [1, 1, 1, 1, 0, 1, 1, 1, 1, 1, 1, 1, 1, 1, 1, 1, 1, 1, 1, 1]
  | _ => []
noncomputable def laws_markFloat32S_LO (v214 : List Nat) (v215 : Int) : LOr := fun id e L =>
  match id with
  | 0 => .need (normA 1 laws_markFloat32S_l0_kill e L = some (laws_markFloat32S_l0_E v214 v215 ((gI (vAt e 1)), (gI (vAt e 5)), (gRF L (vAt e 0))))) (.call (laws_markFloat32S_l0_g ((gI (vAt e 1)), (gI (vAt e 5)), (gRF L (vAt e 0)))) fun x => .leaf (laws_markFloat32S_l0_X v214 v215 x))
  | _ => .fail
noncomputable def laws_markFloat32S_tab : List (FuncId × DFn × Bool) := []
theorem laws_markFloat32S_hO : OrcOk Try.prog (tabD laws_markFloat32S_tab) (tabM laws_markFloat32S_tab) := tabD_nil _
theorem laws_markFloat32S_l0_be (v214 : List Nat) (v215 : Int) (s : Int × Int × (List Nat)) : bodyT TT (tabD laws_markFloat32S_tab) (tabM laws_markFloat32S_tab) (laws_markFloat32S_LO v214 v215) 1 laws_markFloat32S_l0_kill laws_markFloat32S_l0_nx (bodyOf Try.f21 0) 0 (laws_markFloat32S_l0_E v214 v215 s) = (laws_markFloat32S_l0_T s).bind fun y => .leaf (outS (laws_markFloat32S_l0_E v214 v215) (laws_markFloat32S_l0_X v214 v215) y) := by kernel_rfl
theorem laws_markFloat32S_l0_ok (v214 : List Nat) (v215 : Int) : LSound Try.prog 1 (laws_markFloat32S_LO v214 v215) 0 (bodyOf Try.f21 0) := by
  intro e L out h
  exact lo_ok (E := laws_markFloat32S_l0_E v214 v215) (gT := laws_markFloat32S_l0_T) (X := laws_markFloat32S_l0_X v214 v215) (s0 := ((gI (vAt e 1)), (gI (vAt e 5)), (gRF L (vAt e 0)))) tok laws_markFloat32S_hO mixed (LoopsOk_eq (l := []) (by kernel_rfl) trivial) (laws_markFloat32S_l0_be v214 v215) rfl (by intro x; rfl) h
noncomputable def laws_markFloat32S_T (v214 : List Nat) (v215 : Int) : Tree (Int × (List Nat)) :=
  (.need (some (laws_markFloat32S_l0_E v214 v215 (v215, (0 : Int), v214)) = some (laws_markFloat32S_l0_E v214 v215 (v215, (0 : Int), v214))) <|
  (.call (laws_markFloat32S_l0_g (v215, (0 : Int), v214)) fun v224 =>
  .leaf (v224.1, v224.2)))

noncomputable def laws_markFloat32S_g (v214 : List Nat) (v215 : Int) : Option (Int × (List Nat)) := (laws_markFloat32S_T v214 v215).run
def laws_markFloat32S_enc (v214 : List Nat) (v215 : Int) (y : Int × (List Nat)) : Rs := (.int .i64 y.1, [.row (.f32 y.2) 0])
theorem laws_markFloat32S_den (v214 : List Nat) (v215 : Int) : (den TT (tabD laws_markFloat32S_tab) (tabM laws_markFloat32S_tab) (laws_markFloat32S_LO v214 v215) (codeOf Try.f21) ([.own 0 0 v214.length, .int .i64 v215] ++ List.replicate (Try.f21.ntmps - ([.own 0 0 v214.length, .int .i64 v215] : List DV).length) .undef) [.row (.f32 v214) 0]).bind (retD TT Try.f21.results.toList 1) = (laws_markFloat32S_T v214 v215).bind fun y => .leaf (laws_markFloat32S_enc v214 v215 y) := by kernel_rfl
theorem laws_markFloat32S_fn (v214 : List Nat) (v215 : Int) (F : Fr) (hm : F.ids.length = 1) (h0 : St F [.row (.f32 v214) 0] F.H0) (hA : DVs.Ok F [.row (.f32 v214) 0] [.own 0 0 v214.length, .int .i64 v215]) {y : Int × (List Nat)} (hy : laws_markFloat32S_g v214 v215 = some y) : ∃ H', FnOk Try.prog 21 (DVs.av F [.own 0 0 v214.length, .int .i64 v215]) F.H0 ((laws_markFloat32S_enc v214 v215 y).1.av F) H' ∧ St F (laws_markFloat32S_enc v214 v215 y).2 H' ∧ (laws_markFloat32S_enc v214 v215 y).1.Ok F (laws_markFloat32S_enc v214 v215 y).2 :=
  fn_fin tok laws_markFloat32S_hO mixed Try.func21 Try.call21 (by kernel_rfl) (LoopsOk_eq (l := [(0, bodyOf Try.f21 0)]) (by kernel_rfl) ⟨laws_markFloat32S_l0_ok v214 v215, trivial⟩) (laws_markFloat32S_den v214 v215) hy hm h0 hA
noncomputable def laws_markFloat32S_F : DFn := fun args L =>
  match args with
  | [a1, .int .i64 v215] =>
    optT (ownF32 L a1) fun qv214 =>
    (match sepB [qv214.1] [] with
    | true =>
    .call (laws_markFloat32S_g qv214.2 v215) fun y => .grd (decide (y.2.length = qv214.2.length)) (.leaf (.int .i64 y.1, setRows L ([qv214.1].zip [.f32 y.2])))
    | false => .fail)
  | _ => .fail
theorem laws_markFloat32S_Fok : COk Try.prog 21 laws_markFloat32S_F false := by
  intro F L H args r L' hs ha hr
  unfold laws_markFloat32S_F at hr
  split at hr
  · rename_i a1 v215
    obtain ⟨⟨jv214, v214⟩, hqv214, hr⟩ := optT_run hr
    simp only at hr
    split at hr
    · rename_i hsep
      obtain ⟨hnd, hsepv⟩ := sepB_spec hsep
      simp only [Tree.run] at hr
      obtain ⟨y, hy, hr⟩ := Option.bind_eq_some_iff.1 hr
      try simp only [Tree.run] at hr
      obtain ⟨hl0, hr⟩ := ite_run hr
      simp only [Option.some.injEq, Prod.mk.injEq] at hr
      obtain ⟨rfl, rfl⟩ := hr
      obtain ⟨hr0, hu0, ha0, hb0⟩ := (ownR_spec (DVs.okAt ha 0 rfl) (ownF32_or hqv214))
      exact mut_ok hs (fun k => (([a1.av F] : List AV)[k]?).getD .top) [a1, .int .i64 v215] [.own 0 0 v214.length, .int .i64 v215] [jv214] [.f32 v214] [.f32 y.2] hnd rfl rfl (fun i j q h1 h2 => by
          rcases i with _ | i
          · simp at h1 h2; subst h1; subst h2; exact hr0
          · simp at h1) (fun i q q' h1 h2 => by
          rcases i with _ | i
          · simp at h1 h2; subst h1; subst h2; exact of_decide_eq_true hl0
          · simp at h1) (fun j hj => by simp at hj; subst hj; simp [DVs.refs, DV.refs, hu0]) (fun F' h0 hi hρ hst hS => ⟨by (have ab0 : F'.abs 0 = F.abs jv214 := (by simp [Fr.abs, hi]); simp [DVs.av, DV.av, BR.av, hρ, Row.len, ha0, ab0]), by
          obtain ⟨H1, k1, k2, _⟩ := laws_markFloat32S_fn v214 v215 F' (by rw [hi]; rfl) hst ⟨⟨_, rfl, Nat.le_refl _, Nat.le_refl _, fun _ => rfl, (ownR_spec (DVs.okAt ha 0 rfl) (ownF32_or hqv214)).2.2.2⟩, trivial, trivial⟩ hy
          exact ⟨H1, k1, k2⟩⟩) (fun F' => rfl) (fun L' => trivial)
    · cases hr
  · cases hr
/-! laws.markFloat32S -/
noncomputable def laws_markFloat32S_i1_l0_T (s : Unit) : Tree ((Unit) ⊕ (Unit)) :=
  (.br (decide ((0 : Int) < (0 : Int))) (
   .fail
  ) (
   .leaf (.inr ())
  ))

noncomputable def laws_markFloat32S_i1_l0_g (s0 : Unit) : Option (Unit) := whileM (fun s => (laws_markFloat32S_i1_l0_T s).run) s0
def laws_markFloat32S_i1_l0_E (v228 : Int) (s : Unit) : Sd := ([.nilslc, .int .i64 v228, .top, .top, .top, .int .i64 (0 : Int), .top, .top, .top, .top, .top, .top, .top, .top, .top, .top, .top, .top, .top, .top], [])
def laws_markFloat32S_i1_l0_X (v228 : Int) (x : Unit) : Out := (.normal, [.top, .int .i64 v228, .top, .top, .top, .top, .top, .top, .top, .top, .top, .top, .top, .top, .top, .top, .top, .top, .top, .top], [])
def laws_markFloat32S_i1_l0_kill : List Nat := [0, 0, 1, 1, 1, 0, 1, 1, 1, 1, 1, 1, 1, 1, 1, 1, 1, 1, 1, 1]
def laws_markFloat32S_i1_l0_nx : Exit → List Nat
  | .exit 0 => [1, 0, 1, 1, 1, 1, 1, 1, 1, 1, 1, 1, 1, 1, 1, 1, 1, 1, 1, 1]
  | .ret => [1, 1, 1, 1, 0, 1, 1, 1, 1, 1, 1, 1, 1, 1, 1, 1, 1, 1, 1, 1]
  | _ => []
noncomputable def laws_markFloat32S_i1_LO (v228 : Int) : LOr := fun id e L =>
  match id with
  | 0 => .need (normA 0 laws_markFloat32S_i1_l0_kill e L = some (laws_markFloat32S_i1_l0_E v228 ())) (.call (laws_markFloat32S_i1_l0_g ()) fun x => .leaf (laws_markFloat32S_i1_l0_X v228 x))
  | _ => .fail
noncomputable def laws_markFloat32S_i1_tab : List (FuncId × DFn × Bool) := []
theorem laws_markFloat32S_i1_hO : OrcOk Try.prog (tabD laws_markFloat32S_i1_tab) (tabM laws_markFloat32S_i1_tab) := tabD_nil _
theorem laws_markFloat32S_i1_l0_be (v228 : Int) (s : Unit) : bodyT TT (tabD laws_markFloat32S_i1_tab) (tabM laws_markFloat32S_i1_tab) (laws_markFloat32S_i1_LO v228) 0 laws_markFloat32S_i1_l0_kill laws_markFloat32S_i1_l0_nx (bodyOf Try.f21 0) 0 (laws_markFloat32S_i1_l0_E v228 s) = (laws_markFloat32S_i1_l0_T s).bind fun y => .leaf (outS (laws_markFloat32S_i1_l0_E v228) (laws_markFloat32S_i1_l0_X v228) y) := by kernel_rfl
theorem laws_markFloat32S_i1_l0_ok (v228 : Int) : LSound Try.prog 0 (laws_markFloat32S_i1_LO v228) 0 (bodyOf Try.f21 0) := by
  intro e L out h
  exact lo_ok (E := laws_markFloat32S_i1_l0_E v228) (gT := laws_markFloat32S_i1_l0_T) (X := laws_markFloat32S_i1_l0_X v228) (s0 := ()) tok laws_markFloat32S_i1_hO mixed (LoopsOk_eq (l := []) (by kernel_rfl) trivial) (laws_markFloat32S_i1_l0_be v228) rfl (by intro x; rfl) h
noncomputable def laws_markFloat32S_i1_T (v228 : Int) : Tree (Int) :=
  (.need (some (laws_markFloat32S_i1_l0_E v228 ()) = some (laws_markFloat32S_i1_l0_E v228 ())) <|
  (.call (laws_markFloat32S_i1_l0_g ()) fun v231 =>
  .leaf v228))

noncomputable def laws_markFloat32S_i1_g (v228 : Int) : Option (Int) := (laws_markFloat32S_i1_T v228).run
def laws_markFloat32S_i1_enc (v228 : Int) (y : Int) : Rs := (.int .i64 y, [])
theorem laws_markFloat32S_i1_den (v228 : Int) : (den TT (tabD laws_markFloat32S_i1_tab) (tabM laws_markFloat32S_i1_tab) (laws_markFloat32S_i1_LO v228) (codeOf Try.f21) ([.nilslc, .int .i64 v228] ++ List.replicate (Try.f21.ntmps - ([.nilslc, .int .i64 v228] : List DV).length) .undef) []).bind (retD TT Try.f21.results.toList 0) = (laws_markFloat32S_i1_T v228).bind fun y => .leaf (laws_markFloat32S_i1_enc v228 y) := by kernel_rfl
theorem laws_markFloat32S_i1_fn (v228 : Int) (F : Fr) (hm : F.ids.length = 0) (h0 : St F [] F.H0) (hA : DVs.Ok F [] [.nilslc, .int .i64 v228]) {y : Int} (hy : laws_markFloat32S_i1_g v228 = some y) : ∃ H', FnOk Try.prog 21 (DVs.av F [.nilslc, .int .i64 v228]) F.H0 ((laws_markFloat32S_i1_enc v228 y).1.av F) H' ∧ St F (laws_markFloat32S_i1_enc v228 y).2 H' ∧ (laws_markFloat32S_i1_enc v228 y).1.Ok F (laws_markFloat32S_i1_enc v228 y).2 :=
  fn_fin tok laws_markFloat32S_i1_hO mixed Try.func21 Try.call21 (by kernel_rfl) (LoopsOk_eq (l := [(0, bodyOf Try.f21 0)]) (by kernel_rfl) ⟨laws_markFloat32S_i1_l0_ok v228, trivial⟩) (laws_markFloat32S_i1_den v228) hy hm h0 hA
noncomputable def laws_markFloat32S_i1_F : DFn := fun args L =>
  match args with
  | [.nilslc, .int .i64 v228] =>
    .call (laws_markFloat32S_i1_g v228) fun y => .leaf (.int .i64 y, L)
  | _ => .fail
theorem laws_markFloat32S_i1_Fok : COk Try.prog 21 laws_markFloat32S_i1_F true := by
  intro F L H args r L' hs ha hr
  unfold laws_markFloat32S_i1_F at hr
  split at hr
  · rename_i v228
    simp only [Tree.run] at hr
    obtain ⟨y, hy, hr⟩ := Option.bind_eq_some_iff.1 hr
    simp only [Tree.run, Option.some.injEq, Prod.mk.injEq] at hr
    obtain ⟨rfl, rfl⟩ := hr
    exact call_ok0 hs (fun k => (([] : List AV)[k]?).getD .top) [.nilslc, .int .i64 v228] [.nilslc, .int .i64 v228] (fun F' h0 hi hρ => ⟨by simp [DVs.av, DV.av, BR.av, hρ], laws_markFloat32S_i1_fn v228 F' (by rw [hi]; rfl) (st_nil hi) ⟨trivial, trivial, trivial⟩ hy⟩) rfl
  · cases hr
/-! laws.heldFloat32S -/
noncomputable def laws_heldFloat32S_l0_T (v233 : List Nat) (s : Int × Int) : Tree ((Int × Int) ⊕ ((Unit) ⊕ (Int))) :=
  (.br (decide (s.2 < ((v233.length : Nat) : Int))) (
   (.grd (inb s.2 v233.length) <|
   (.br (!feq .f32 (nth v233 (Int.toNat s.2)) (fofint .f32 s.1)) (
    .leaf (.inr (.inl ()))
   ) (
    .leaf (.inl (IntKind.i64.wrap (s.1 + (1 : Int)), IntKind.i64.wrap (s.2 + (1 : Int))))
   )))
  ) (
   .leaf (.inr (.inr s.1))
  ))

noncomputable def laws_heldFloat32S_l0_g (v233 : List Nat) (s0 : Int × Int) : Option ((Unit) ⊕ (Int)) := whileM (fun s => (laws_heldFloat32S_l0_T v233 s).run) s0
def laws_heldFloat32S_l0_E (v233 : List Nat) (v234 : Int) (s : Int × Int) : Sd := ([.bslc (BR.root 0) (.f32 v233), .int .i64 s.1, .top, .top, .top, .int .i64 s.2, .top, .top, .top, .top, .top, .top, .top, .top, .top, .top, .top, .top, .top, .top, .top, .top], [])
def laws_heldFloat32S_l0_X (v233 : List Nat) (v234 : Int) (x : (Unit) ⊕ (Int)) : Out := (match x with | .inl x => (.ret, [.top, .top, .top, .top, .int .i64 (-1 : Int), .top, .top, .top, .top, .top, .top, .top, .top, .top, .top, .top, .top, .top, .top, .top, .top, .top], []) | .inr x => (.normal, [.top, .int .i64 x, .top, .top, .top, .top, .top, .top, .top, .top, .top, .top, .top, .top, .top, .top, .top, .top, .top, .top, .top, .top], []))
def laws_heldFloat32S_l0_kill : List Nat := [0, 0, 1, 1, 1, 0, 1, 1, 1, 1, 1, 1, 1, 1, 1, 1, 1, 1, 1, 1, 1, 1]
def laws_heldFloat32S_l0_nx : Exit → List Nat
  | .exit 0 => [1, 0, 1, 1, 1, 1, 1, 1, 1, 1, 1, 1, 1, 1, 1, 1, 1, 1, 1, 1, 1, 1]
  | .ret => [1, 1, 1, 1, 0, 1, 1, 1, 1, 1, 1, 1, 1, 1, 1, 1, 1, 1, 1, 1, 1, 1]
  | _ => []
noncomputable def laws_heldFloat32S_LO (v233 : List Nat) (v234 : Int) : LOr := fun id e L =>
  match id with
  | 0 => .need (normA 0 laws_heldFloat32S_l0_kill e L = some (laws_heldFloat32S_l0_E v233 v234 ((gI (vAt e 1)), (gI (vAt e 5))))) (.call (laws_heldFloat32S_l0_g v233 ((gI (vAt e 1)), (gI (vAt e 5)))) fun x => .sum x (fun b0 => .leaf (laws_heldFloat32S_l0_X v233 v234 (.inl b0))) (fun c0 => .leaf (laws_heldFloat32S_l0_X v233 v234 (.inr c0))))
  | _ => .fail
noncomputable def laws_heldFloat32S_tab : List (FuncId × DFn × Bool) := []
theorem laws_heldFloat32S_hO : OrcOk Try.prog (tabD laws_heldFloat32S_tab) (tabM laws_heldFloat32S_tab) := tabD_nil _
theorem laws_heldFloat32S_l0_be (v233 : List Nat) (v234 : Int) (s : Int × Int) : bodyT TT (tabD laws_heldFloat32S_tab) (tabM laws_heldFloat32S_tab) (laws_heldFloat32S_LO v233 v234) 0 laws_heldFloat32S_l0_kill laws_heldFloat32S_l0_nx (bodyOf Try.f22 0) 0 (laws_heldFloat32S_l0_E v233 v234 s) = (laws_heldFloat32S_l0_T v233 s).bind fun y => .leaf (outS (laws_heldFloat32S_l0_E v233 v234) (laws_heldFloat32S_l0_X v233 v234) y) := by kernel_rfl
theorem laws_heldFloat32S_l0_ok (v233 : List Nat) (v234 : Int) : LSound Try.prog 0 (laws_heldFloat32S_LO v233 v234) 0 (bodyOf Try.f22 0) := by
  intro e L out h
  exact lo_ok (E := laws_heldFloat32S_l0_E v233 v234) (gT := laws_heldFloat32S_l0_T v233) (X := laws_heldFloat32S_l0_X v233 v234) (s0 := ((gI (vAt e 1)), (gI (vAt e 5)))) tok laws_heldFloat32S_hO mixed (LoopsOk_eq (l := []) (by kernel_rfl) trivial) (laws_heldFloat32S_l0_be v233 v234) rfl (by intro x; (cases x with | inl b => rfl | inr x => exact rfl)) h
noncomputable def laws_heldFloat32S_T (v233 : List Nat) (v234 : Int) : Tree (Int) :=
  (.need (some (laws_heldFloat32S_l0_E v233 v234 (v234, (0 : Int))) = some (laws_heldFloat32S_l0_E v233 v234 (v234, (0 : Int)))) <|
  (.call (laws_heldFloat32S_l0_g v233 (v234, (0 : Int))) fun v241 =>
  (.sum v241 (fun v242 =>
   .leaf (-1 : Int)
  ) (fun v243 =>
   .leaf v243
  ))))

noncomputable def laws_heldFloat32S_g (v233 : List Nat) (v234 : Int) : Option (Int) := (laws_heldFloat32S_T v233 v234).run
def laws_heldFloat32S_enc (v233 : List Nat) (v234 : Int) (y : Int) : Rs := (.int .i64 y, [])
theorem laws_heldFloat32S_den (v233 : List Nat) (v234 : Int) : (den TT (tabD laws_heldFloat32S_tab) (tabM laws_heldFloat32S_tab) (laws_heldFloat32S_LO v233 v234) (codeOf Try.f22) ([.bslc (BR.root 0) (.f32 v233), .int .i64 v234] ++ List.replicate (Try.f22.ntmps - ([.bslc (BR.root 0) (.f32 v233), .int .i64 v234] : List DV).length) .undef) []).bind (retD TT Try.f22.results.toList 0) = (laws_heldFloat32S_T v233 v234).bind fun y => .leaf (laws_heldFloat32S_enc v233 v234 y) := by kernel_rfl
theorem laws_heldFloat32S_fn (v233 : List Nat) (v234 : Int) (F : Fr) (hm : F.ids.length = 0) (h0 : St F [] F.H0) (hA : DVs.Ok F [] [.bslc (BR.root 0) (.f32 v233), .int .i64 v234]) {y : Int} (hy : laws_heldFloat32S_g v233 v234 = some y) : ∃ H', FnOk Try.prog 22 (DVs.av F [.bslc (BR.root 0) (.f32 v233), .int .i64 v234]) F.H0 ((laws_heldFloat32S_enc v233 v234 y).1.av F) H' ∧ St F (laws_heldFloat32S_enc v233 v234 y).2 H' ∧ (laws_heldFloat32S_enc v233 v234 y).1.Ok F (laws_heldFloat32S_enc v233 v234 y).2 :=
  fn_fin tok laws_heldFloat32S_hO mixed Try.func22 Try.call22 (by kernel_rfl) (LoopsOk_eq (l := [(0, bodyOf Try.f22 0)]) (by kernel_rfl) ⟨laws_heldFloat32S_l0_ok v233 v234, trivial⟩) (laws_heldFloat32S_den v233 v234) hy hm h0 hA
noncomputable def laws_heldFloat32S_F : DFn := fun args L =>
  match args with
  | [a1, .int .i64 v234] =>
    optT (rowF32 L a1) fun v233 =>
    .call (laws_heldFloat32S_g v233 v234) fun y => .leaf (.int .i64 y, L)
  | _ => .fail
theorem laws_heldFloat32S_Fok : COk Try.prog 22 laws_heldFloat32S_F true := by
  intro F L H args r L' hs ha hr
  unfold laws_heldFloat32S_F at hr
  split at hr
  · rename_i a1 v234
    obtain ⟨v233, hv233, hr⟩ := optT_run hr
    simp only [Tree.run] at hr
    obtain ⟨y, hy, hr⟩ := Option.bind_eq_some_iff.1 hr
    simp only [Tree.run, Option.some.injEq, Prod.mk.injEq] at hr
    obtain ⟨rfl, rfl⟩ := hr
    exact call_ok0 hs (fun k => (([a1.av F] : List AV)[k]?).getD .top) [a1, .int .i64 v234] [.bslc (BR.root 0) (.f32 v233), .int .i64 v234] (fun F' h0 hi hρ => ⟨by simp [DVs.av, DV.av, BR.av, hρ], laws_heldFloat32S_fn v233 v234 F' (by rw [hi]; rfl) (st_nil hi) ⟨bslc_ok hi (by rw [h0, hρ]; exact rowF32_ok hs (DVs.okAt ha 0 rfl) hv233), trivial, trivial⟩ hy⟩) rfl
  · cases hr
/-! laws.FnExactDividedOf -/
noncomputable def laws_FnExactDividedOf_LO (v1 : List Nat) (v2 : List Nat) : LOr := fun id e L =>
  match id with
  | _ => .fail
noncomputable def laws_FnExactDividedOf_tab : List (FuncId × DFn × Bool) := [(10, laws_toFloat32S_F, true), (19, spec_DividedOf_F, true), (20, impl_DividedOf_F, true), (13, laws_eqFloat32S_F, true), (21, (orD (fun args => match args with | [.nilslc, _] => true | _ => false) laws_markFloat32S_i1_F laws_markFloat32S_F), false), (22, laws_heldFloat32S_F, true)]
theorem laws_FnExactDividedOf_hO : OrcOk Try.prog (tabD laws_FnExactDividedOf_tab) (tabM laws_FnExactDividedOf_tab) := tabD_cons laws_toFloat32S_Fok (tabD_cons spec_DividedOf_Fok (tabD_cons impl_DividedOf_Fok (tabD_cons laws_eqFloat32S_Fok (tabD_cons (orD_ok (COk.weak laws_markFloat32S_i1_Fok) laws_markFloat32S_Fok) (tabD_cons laws_heldFloat32S_Fok (tabD_nil _))))))
noncomputable def laws_FnExactDividedOf_T (v1 : List Nat) (v2 : List Nat) : Tree (Bool) :=
  (.br (decide ((1048576 : Int) < ((v1.length : Nat) : Int))) (
   .leaf true
  ) (
   (.br (decide ((1048576 : Int) < ((v2.length : Nat) : Int))) (
    .leaf true
   ) (
    (.call (laws_toFloat32S_g v1) fun v10 =>
    (.call (laws_toFloat32S_g v2) fun v11 =>
    (.call (spec_DividedOf_g v10 v11) fun v97 =>
    (.sum v97 (fun v98 =>
     (.call (laws_toFloat32S_g v1) fun v100 =>
     (.call (laws_toFloat32S_g v2) fun v101 =>
     (.call (impl_DividedOf_g v100 v101) fun v192 =>
     (.sum v192 (fun v193 =>
      (.call (laws_eqFloat32S_g ([] : List Nat) ([] : List Nat)) fun v205 =>
      (.br (!v205) (
       .leaf false
      ) (
       (.br (!(false == false)) (
        .leaf false
       ) (
        (.call (laws_toFloat32S_g v1) fun v206 =>
        (.call (laws_eqFloat32S_g v100 v206) fun v207 =>
        (.br (!v207) (
         .leaf false
        ) (
         (.call (laws_toFloat32S_g v2) fun v208 =>
         (.call (laws_eqFloat32S_g v101 v208) fun v209 =>
         (.br (!v209) (
          .leaf false
         ) (
          (.call (laws_markFloat32S_g v100 (1 : Int)) fun v225 =>
          (.grd (decide (v225.2.length = v100.length)) <|
          (.call (laws_markFloat32S_g v101 v225.1) fun v226 =>
          (.grd (decide (v226.2.length = v101.length)) <|
          (.br (decide (v226.1 < (0 : Int))) (
           .leaf false
          ) (
           (.call (laws_eqFloat32S_g ([] : List Nat) ([] : List Nat)) fun v227 =>
           (.br (!v227) (
            .leaf false
           ) (
            (.br (!(false == false)) (
             .leaf false
            ) (
             (.call (laws_markFloat32S_i1_g (1 : Int)) fun v232 =>
             (.call (laws_heldFloat32S_g ([] : List Nat) (1 : Int)) fun v244 =>
             (.br (decide (v244 < (0 : Int))) (
              .leaf false
             ) (
              (.br (!decide (v244 = v232)) (
               .leaf false
              ) (
               (.call (laws_toFloat32S_g v1) fun v245 =>
               (.call (laws_toFloat32S_g v2) fun v246 =>
               (.call (impl_DividedOf_g v245 v246) fun v247 =>
               (.sum v247 (fun v248 =>
                (.call (laws_eqFloat32S_g ([] : List Nat) ([] : List Nat)) fun v250 =>
                (.br (!v250) (
                 .leaf false
                ) (
                 (.br (!(false == false)) (
                  .leaf false
                 ) (
                  (.call (laws_heldFloat32S_g ([] : List Nat) (1 : Int)) fun v251 =>
                  (.br (decide (v251 < (0 : Int))) (
                   .leaf false
                  ) (
                   (.br (!decide (v251 = v232)) (
                    .leaf false
                   ) (
                    .leaf true
                   ))
                  )))
                 ))
                )))
               ) (fun v249 =>
                (.call (laws_eqFloat32S_g v249 ([] : List Nat)) fun v252 =>
                (.br (!v252) (
                 .leaf false
                ) (
                 (.br (!(true == false)) (
                  .leaf false
                 ) (
                  (.call (laws_heldFloat32S_g ([] : List Nat) (1 : Int)) fun v253 =>
                  (.br (decide (v253 < (0 : Int))) (
                   .leaf false
                  ) (
                   (.br (!decide (v253 = v232)) (
                    .leaf false
                   ) (
                    .leaf true
                   ))
                  )))
                 ))
                )))
               )))))
              ))
             ))))
            ))
           )))
          ))))))
         ))))
        ))))
       ))
      )))
     ) (fun v194 =>
      (.call (laws_eqFloat32S_g v194 ([] : List Nat)) fun v254 =>
      (.br (!v254) (
       .leaf false
      ) (
       (.br (!(true == false)) (
        .leaf false
       ) (
        (.call (laws_toFloat32S_g v1) fun v255 =>
        (.call (laws_eqFloat32S_g v100 v255) fun v256 =>
        (.br (!v256) (
         .leaf false
        ) (
         (.call (laws_toFloat32S_g v2) fun v257 =>
         (.call (laws_eqFloat32S_g v101 v257) fun v258 =>
         (.br (!v258) (
          .leaf false
         ) (
          (.call (laws_markFloat32S_g v100 (1 : Int)) fun v259 =>
          (.grd (decide (v259.2.length = v100.length)) <|
          (.call (laws_markFloat32S_g v101 v259.1) fun v260 =>
          (.grd (decide (v260.2.length = v101.length)) <|
          (.br (decide (v260.1 < (0 : Int))) (
           .leaf false
          ) (
           (.call (laws_eqFloat32S_g v194 ([] : List Nat)) fun v261 =>
           (.br (!v261) (
            .leaf false
           ) (
            (.br (!(true == false)) (
             .leaf false
            ) (
             (.call (laws_markFloat32S_g v194 (1 : Int)) fun v262 =>
             (.grd (decide (v262.2.length = v194.length)) <|
             (.call (laws_heldFloat32S_g v262.2 (1 : Int)) fun v263 =>
             (.br (decide (v263 < (0 : Int))) (
              .leaf false
             ) (
              (.br (!decide (v263 = v262.1)) (
               .leaf false
              ) (
               (.call (laws_toFloat32S_g v1) fun v264 =>
               (.call (laws_toFloat32S_g v2) fun v265 =>
               (.call (impl_DividedOf_g v264 v265) fun v266 =>
               (.sum v266 (fun v267 =>
                (.call (laws_eqFloat32S_g ([] : List Nat) ([] : List Nat)) fun v269 =>
                (.br (!v269) (
                 .leaf false
                ) (
                 (.br (!(false == false)) (
                  .leaf false
                 ) (
                  (.call (laws_heldFloat32S_g v262.2 (1 : Int)) fun v270 =>
                  (.br (decide (v270 < (0 : Int))) (
                   .leaf false
                  ) (
                   (.br (!decide (v270 = v262.1)) (
                    .leaf false
                   ) (
                    .leaf true
                   ))
                  )))
                 ))
                )))
               ) (fun v268 =>
                (.call (laws_eqFloat32S_g v268 ([] : List Nat)) fun v271 =>
                (.br (!v271) (
                 .leaf false
                ) (
                 (.br (!(true == false)) (
                  .leaf false
                 ) (
                  (.call (laws_heldFloat32S_g v262.2 (1 : Int)) fun v272 =>
                  (.br (decide (v272 < (0 : Int))) (
                   .leaf false
                  ) (
                   (.br (!decide (v272 = v262.1)) (
                    .leaf false
                   ) (
                    .leaf true
                   ))
                  )))
                 ))
                )))
               )))))
              ))
             )))))
            ))
           )))
          ))))))
         ))))
        ))))
       ))
      )))
     )))))
    ) (fun v99 =>
     (.call (laws_toFloat32S_g v1) fun v273 =>
     (.call (laws_toFloat32S_g v2) fun v274 =>
     (.call (impl_DividedOf_g v273 v274) fun v275 =>
     (.sum v275 (fun v276 =>
      (.call (laws_eqFloat32S_g ([] : List Nat) v99) fun v278 =>
      (.br (!v278) (
       .leaf false
      ) (
       (.br (!(false == true)) (
        .leaf false
       ) (
        (.call (laws_toFloat32S_g v1) fun v279 =>
        (.call (laws_eqFloat32S_g v273 v279) fun v280 =>
        (.br (!v280) (
         .leaf false
        ) (
         (.call (laws_toFloat32S_g v2) fun v281 =>
         (.call (laws_eqFloat32S_g v274 v281) fun v282 =>
         (.br (!v282) (
          .leaf false
         ) (
          (.call (laws_markFloat32S_g v273 (1 : Int)) fun v283 =>
          (.grd (decide (v283.2.length = v273.length)) <|
          (.call (laws_markFloat32S_g v274 v283.1) fun v284 =>
          (.grd (decide (v284.2.length = v274.length)) <|
          (.br (decide (v284.1 < (0 : Int))) (
           .leaf false
          ) (
           (.call (laws_eqFloat32S_g ([] : List Nat) v99) fun v285 =>
           (.br (!v285) (
            .leaf false
           ) (
            (.br (!(false == true)) (
             .leaf false
            ) (
             (.call (laws_markFloat32S_i1_g (1 : Int)) fun v286 =>
             (.call (laws_heldFloat32S_g ([] : List Nat) (1 : Int)) fun v287 =>
             (.br (decide (v287 < (0 : Int))) (
              .leaf false
             ) (
              (.br (!decide (v287 = v286)) (
               .leaf false
              ) (
               (.call (laws_toFloat32S_g v1) fun v288 =>
               (.call (laws_toFloat32S_g v2) fun v289 =>
               (.call (impl_DividedOf_g v288 v289) fun v290 =>
               (.sum v290 (fun v291 =>
                (.call (laws_eqFloat32S_g ([] : List Nat) v99) fun v293 =>
                (.br (!v293) (
                 .leaf false
                ) (
                 (.br (!(false == true)) (
                  .leaf false
                 ) (
                  (.call (laws_heldFloat32S_g ([] : List Nat) (1 : Int)) fun v294 =>
                  (.br (decide (v294 < (0 : Int))) (
                   .leaf false
                  ) (
                   (.br (!decide (v294 = v286)) (
                    .leaf false
                   ) (
                    .leaf true
                   ))
                  )))
                 ))
                )))
               ) (fun v292 =>
                (.call (laws_eqFloat32S_g v292 v99) fun v295 =>
                (.br (!v295) (
                 .leaf false
                ) (
                 (.br (!(true == true)) (
                  .leaf false
                 ) (
                  (.call (laws_heldFloat32S_g ([] : List Nat) (1 : Int)) fun v296 =>
                  (.br (decide (v296 < (0 : Int))) (
                   .leaf false
                  ) (
                   (.br (!decide (v296 = v286)) (
                    .leaf false
                   ) (
                    .leaf true
                   ))
                  )))
                 ))
                )))
               )))))
              ))
             ))))
            ))
           )))
          ))))))
         ))))
        ))))
       ))
      )))
     ) (fun v277 =>
      (.call (laws_eqFloat32S_g v277 v99) fun v297 =>
      (.br (!v297) (
       .leaf false
      ) (
       (.br (!(true == true)) (
        .leaf false
       ) (
        (.call (laws_toFloat32S_g v1) fun v298 =>
        (.call (laws_eqFloat32S_g v273 v298) fun v299 =>
        (.br (!v299) (
         .leaf false
        ) (
         (.call (laws_toFloat32S_g v2) fun v300 =>
         (.call (laws_eqFloat32S_g v274 v300) fun v301 =>
         (.br (!v301) (
          .leaf false
         ) (
          (.call (laws_markFloat32S_g v273 (1 : Int)) fun v302 =>
          (.grd (decide (v302.2.length = v273.length)) <|
          (.call (laws_markFloat32S_g v274 v302.1) fun v303 =>
          (.grd (decide (v303.2.length = v274.length)) <|
          (.br (decide (v303.1 < (0 : Int))) (
           .leaf false
          ) (
           (.call (laws_eqFloat32S_g v277 v99) fun v304 =>
           (.br (!v304) (
            .leaf false
           ) (
            (.br (!(true == true)) (
             .leaf false
            ) (
             (.call (laws_markFloat32S_g v277 (1 : Int)) fun v305 =>
             (.grd (decide (v305.2.length = v277.length)) <|
             (.call (laws_heldFloat32S_g v305.2 (1 : Int)) fun v306 =>
             (.br (decide (v306 < (0 : Int))) (
              .leaf false
             ) (
              (.br (!decide (v306 = v305.1)) (
               .leaf false
              ) (
               (.call (laws_toFloat32S_g v1) fun v307 =>
               (.call (laws_toFloat32S_g v2) fun v308 =>
               (.call (impl_DividedOf_g v307 v308) fun v309 =>
               (.sum v309 (fun v310 =>
                (.call (laws_eqFloat32S_g ([] : List Nat) v99) fun v312 =>
                (.br (!v312) (
                 .leaf false
                ) (
                 (.br (!(false == true)) (
                  .leaf false
                 ) (
                  (.call (laws_heldFloat32S_g v305.2 (1 : Int)) fun v313 =>
                  (.br (decide (v313 < (0 : Int))) (
                   .leaf false
                  ) (
                   (.br (!decide (v313 = v305.1)) (
                    .leaf false
                   ) (
                    .leaf true
                   ))
                  )))
                 ))
                )))
               ) (fun v311 =>
                (.call (laws_eqFloat32S_g v311 v99) fun v314 =>
                (.br (!v314) (
                 .leaf false
                ) (
                 (.br (!(true == true)) (
                  .leaf false
                 ) (
                  (.call (laws_heldFloat32S_g v305.2 (1 : Int)) fun v315 =>
                  (.br (decide (v315 < (0 : Int))) (
                   .leaf false
                  ) (
                   (.br (!decide (v315 = v305.1)) (
                    .leaf false
                   ) (
                    .leaf true
                   ))
                  )))
                 ))
                )))
               )))))
              ))
             )))))
            ))
           )))
          ))))))
         ))))
        ))))
       ))
      )))
     )))))
    )))))
   ))
  ))

noncomputable def laws_FnExactDividedOf_g (v1 : List Nat) (v2 : List Nat) : Option (Bool) := (laws_FnExactDividedOf_T v1 v2).run
def laws_FnExactDividedOf_enc (v1 : List Nat) (v2 : List Nat) (y : Bool) : Rs := (.bool y, [])
theorem laws_FnExactDividedOf_den (v1 : List Nat) (v2 : List Nat) : (den TT (tabD laws_FnExactDividedOf_tab) (tabM laws_FnExactDividedOf_tab) (laws_FnExactDividedOf_LO v1 v2) (codeOf Try.f5) ([.bslc (BR.root 0) (.f32 v1), .bslc (BR.root 1) (.f32 v2)] ++ List.replicate (Try.f5.ntmps - ([.bslc (BR.root 0) (.f32 v1), .bslc (BR.root 1) (.f32 v2)] : List DV).length) .undef) []).bind (retD TT Try.f5.results.toList 0) = (laws_FnExactDividedOf_T v1 v2).bind fun y => .leaf (laws_FnExactDividedOf_enc v1 v2 y) := by kernel_rfl
theorem laws_FnExactDividedOf_fn (v1 : List Nat) (v2 : List Nat) (F : Fr) (hm : F.ids.length = 0) (h0 : St F [] F.H0) (hA : DVs.Ok F [] [.bslc (BR.root 0) (.f32 v1), .bslc (BR.root 1) (.f32 v2)]) {y : Bool} (hy : laws_FnExactDividedOf_g v1 v2 = some y) : ∃ H', FnOk Try.prog 5 (DVs.av F [.bslc (BR.root 0) (.f32 v1), .bslc (BR.root 1) (.f32 v2)]) F.H0 ((laws_FnExactDividedOf_enc v1 v2 y).1.av F) H' ∧ St F (laws_FnExactDividedOf_enc v1 v2 y).2 H' ∧ (laws_FnExactDividedOf_enc v1 v2 y).1.Ok F (laws_FnExactDividedOf_enc v1 v2 y).2 :=
  fn_fin tok laws_FnExactDividedOf_hO mixed Try.func5 Try.call5 (by kernel_rfl) (LoopsOk_eq (l := []) (by kernel_rfl) trivial) (laws_FnExactDividedOf_den v1 v2) hy hm h0 hA
noncomputable def laws_FnExactDividedOf_F : DFn := fun args L =>
  match args with
  | [a1, a2] =>
    optT (rowF32 L a1) fun v1 =>
    optT (rowF32 L a2) fun v2 =>
    .call (laws_FnExactDividedOf_g v1 v2) fun y => .leaf (.bool y, L)
  | _ => .fail
theorem laws_FnExactDividedOf_Fok : COk Try.prog 5 laws_FnExactDividedOf_F true := by
  intro F L H args r L' hs ha hr
  unfold laws_FnExactDividedOf_F at hr
  split at hr
  · rename_i a1 a2
    obtain ⟨v1, hv1, hr⟩ := optT_run hr
    obtain ⟨v2, hv2, hr⟩ := optT_run hr
    simp only [Tree.run] at hr
    obtain ⟨y, hy, hr⟩ := Option.bind_eq_some_iff.1 hr
    simp only [Tree.run, Option.some.injEq, Prod.mk.injEq] at hr
    obtain ⟨rfl, rfl⟩ := hr
    exact call_ok0 hs (fun k => (([a1.av F, a2.av F] : List AV)[k]?).getD .top) [a1, a2] [.bslc (BR.root 0) (.f32 v1), .bslc (BR.root 1) (.f32 v2)] (fun F' h0 hi hρ => ⟨by simp [DVs.av, DV.av, BR.av, hρ], laws_FnExactDividedOf_fn v1 v2 F' (by rw [hi]; rfl) (st_nil hi) ⟨bslc_ok hi (by rw [h0, hρ]; exact rowF32_ok hs (DVs.okAt ha 0 rfl) hv1), bslc_ok hi (by rw [h0, hρ]; exact rowF32_ok hs (DVs.okAt ha 1 rfl) hv2), trivial⟩ hy⟩) rfl
  · cases hr
end Go.Proofs.Ytbhmllcnfdndhaa.AM
