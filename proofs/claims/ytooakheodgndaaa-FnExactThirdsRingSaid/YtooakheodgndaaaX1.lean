/- Functions: what they come to. -/
import Derived.Test.YtooakheodgndaaaBase
set_option maxRecDepth 100000
set_option maxHeartbeats 4000000
set_option linter.unusedSimpArgs false
set_option linter.unusedVariables false
namespace Go.Proofs.Ytooakheodgndaaa.AM
open Go.Proofs
/-! laws.szFloat32S -/
noncomputable def laws_szFloat32S_LO (v11 : List Nat) (v12 : Int) : LOr := fun id e L =>
  match id with
  | _ => .fail
noncomputable def laws_szFloat32S_tab : List (FuncId × DFn × Bool) := []
theorem laws_szFloat32S_hO : OrcOk Try.prog (tabD laws_szFloat32S_tab) (tabM laws_szFloat32S_tab) := tabD_nil _
noncomputable def laws_szFloat32S_T (v11 : List Nat) (v12 : Int) : Tree (Int) :=
  (.br (decide (IntKind.i64.wrap (v12 - ((v11.length : Nat) : Int)) < (0 : Int))) (
   .leaf (-1 : Int)
  ) (
   .leaf (IntKind.i64.wrap (v12 - ((v11.length : Nat) : Int)))
  ))

noncomputable def laws_szFloat32S_g (v11 : List Nat) (v12 : Int) : Option (Int) := (laws_szFloat32S_T v11 v12).run
def laws_szFloat32S_enc (v11 : List Nat) (v12 : Int) (y : Int) : Rs := (.int .i64 y, [])
theorem laws_szFloat32S_den (v11 : List Nat) (v12 : Int) : (den TT (tabD laws_szFloat32S_tab) (tabM laws_szFloat32S_tab) (laws_szFloat32S_LO v11 v12) (codeOf Try.f56) ([.bslc (BR.root 0) (.f32 v11), .int .i64 v12] ++ List.replicate (Try.f56.ntmps - ([.bslc (BR.root 0) (.f32 v11), .int .i64 v12] : List DV).length) .undef) []).bind (retD TT Try.f56.results.toList 0) = (laws_szFloat32S_T v11 v12).bind fun y => .leaf (laws_szFloat32S_enc v11 v12 y) := by kernel_rfl
theorem laws_szFloat32S_fn (v11 : List Nat) (v12 : Int) (F : Fr) (hm : F.ids.length = 0) (h0 : St F [] F.H0) (hA : DVs.Ok F [] [.bslc (BR.root 0) (.f32 v11), .int .i64 v12]) {y : Int} (hy : laws_szFloat32S_g v11 v12 = some y) : ∃ H', FnOk Try.prog 56 (DVs.av F [.bslc (BR.root 0) (.f32 v11), .int .i64 v12]) F.H0 ((laws_szFloat32S_enc v11 v12 y).1.av F) H' ∧ St F (laws_szFloat32S_enc v11 v12 y).2 H' ∧ (laws_szFloat32S_enc v11 v12 y).1.Ok F (laws_szFloat32S_enc v11 v12 y).2 :=
  fn_fin tok laws_szFloat32S_hO mixed Try.func56 Try.call56 (by kernel_rfl) (LoopsOk_eq (l := []) (by kernel_rfl) trivial) (laws_szFloat32S_den v11 v12) hy hm h0 hA
def laws_szFloat32S_v (v11 : List Nat) (v12 : Int) : Int :=
  if (decide (IntKind.i64.wrap (v12 - ((v11.length : Nat) : Int)) < (0 : Int))) = true then (
   (-1 : Int)
  ) else (
   IntKind.i64.wrap (v12 - ((v11.length : Nat) : Int))
  )
theorem laws_szFloat32S_tot (v11 : List Nat) (v12 : Int) : laws_szFloat32S_g v11 v12 = some (laws_szFloat32S_v v11 v12) := by
  unfold laws_szFloat32S_g laws_szFloat32S_T laws_szFloat32S_v
  simp only [Tree.run]
  repeat' (first | rfl | split)
noncomputable def laws_szFloat32S_F : DFn := fun args L =>
  match args with
  | [a1, .int .i64 v12] =>
    optT (rowF32 L a1) fun v11 =>
    .leaf (.int .i64 (laws_szFloat32S_v v11 v12), L)
  | _ => .fail
theorem laws_szFloat32S_Fok : COk Try.prog 56 laws_szFloat32S_F true := by
  intro F L H args r L' hs ha hr
  unfold laws_szFloat32S_F at hr
  split at hr
  · rename_i a1 v12
    obtain ⟨v11, hv11, hr⟩ := optT_run hr
    have hy := laws_szFloat32S_tot v11 v12
    generalize laws_szFloat32S_v v11 v12 = y at hy hr
    simp only [Tree.run, Option.some.injEq, Prod.mk.injEq] at hr
    obtain ⟨rfl, rfl⟩ := hr
    exact call_ok0 hs (fun k => (([a1.av F] : List AV)[k]?).getD .top) [a1, .int .i64 v12] [.bslc (BR.root 0) (.f32 v11), .int .i64 v12] (fun F' h0 hi hρ => ⟨by simp [DVs.av, DV.av, BR.av, hρ], laws_szFloat32S_fn v11 v12 F' (by rw [hi]; rfl) (st_nil hi) ⟨bslc_ok hi (by rw [h0, hρ]; exact rowF32_ok hs (DVs.okAt ha 0 rfl) hv11), trivial, trivial⟩ hy⟩) rfl
  · cases hr
/-! laws.szThirds -/
noncomputable def laws_szThirds_LO (v7 : List Nat) (v8 : List Nat) (v9 : List Nat) (v10 : Int) : LOr := fun id e L =>
  match id with
  | _ => .fail
noncomputable def laws_szThirds_tab : List (FuncId × DFn × Bool) := [(56, laws_szFloat32S_F, true)]
theorem laws_szThirds_hO : OrcOk Try.prog (tabD laws_szThirds_tab) (tabM laws_szThirds_tab) := tabD_cons laws_szFloat32S_Fok (tabD_nil _)
noncomputable def laws_szThirds_T (v7 : List Nat) (v8 : List Nat) (v9 : List Nat) (v10 : Int) : Tree (Int) :=
  (.br (decide ((laws_szFloat32S_v v7 v10) < (0 : Int))) (
   .leaf (-1 : Int)
  ) (
   (.br (decide ((laws_szFloat32S_v v8 (laws_szFloat32S_v v7 v10)) < (0 : Int))) (
    .leaf (-1 : Int)
   ) (
    (.br (decide ((laws_szFloat32S_v v9 (laws_szFloat32S_v v8 (laws_szFloat32S_v v7 v10))) < (0 : Int))) (
     .leaf (-1 : Int)
    ) (
     .leaf (laws_szFloat32S_v v9 (laws_szFloat32S_v v8 (laws_szFloat32S_v v7 v10)))
    ))
   ))
  ))

noncomputable def laws_szThirds_g (v7 : List Nat) (v8 : List Nat) (v9 : List Nat) (v10 : Int) : Option (Int) := (laws_szThirds_T v7 v8 v9 v10).run
def laws_szThirds_enc (v7 : List Nat) (v8 : List Nat) (v9 : List Nat) (v10 : Int) (y : Int) : Rs := (.int .i64 y, [])
theorem laws_szThirds_den (v7 : List Nat) (v8 : List Nat) (v9 : List Nat) (v10 : Int) : (den TT (tabD laws_szThirds_tab) (tabM laws_szThirds_tab) (laws_szThirds_LO v7 v8 v9 v10) (codeOf Try.f42) ([.agg [.bslc (BR.root 0) (.f32 v7), .bslc (BR.root 1) (.f32 v8), .bslc (BR.root 2) (.f32 v9)], .int .i64 v10] ++ List.replicate (Try.f42.ntmps - ([.agg [.bslc (BR.root 0) (.f32 v7), .bslc (BR.root 1) (.f32 v8), .bslc (BR.root 2) (.f32 v9)], .int .i64 v10] : List DV).length) .undef) []).bind (retD TT Try.f42.results.toList 0) = (laws_szThirds_T v7 v8 v9 v10).bind fun y => .leaf (laws_szThirds_enc v7 v8 v9 v10 y) := by kernel_rfl
theorem laws_szThirds_fn (v7 : List Nat) (v8 : List Nat) (v9 : List Nat) (v10 : Int) (F : Fr) (hm : F.ids.length = 0) (h0 : St F [] F.H0) (hA : DVs.Ok F [] [.agg [.bslc (BR.root 0) (.f32 v7), .bslc (BR.root 1) (.f32 v8), .bslc (BR.root 2) (.f32 v9)], .int .i64 v10]) {y : Int} (hy : laws_szThirds_g v7 v8 v9 v10 = some y) : ∃ H', FnOk Try.prog 42 (DVs.av F [.agg [.bslc (BR.root 0) (.f32 v7), .bslc (BR.root 1) (.f32 v8), .bslc (BR.root 2) (.f32 v9)], .int .i64 v10]) F.H0 ((laws_szThirds_enc v7 v8 v9 v10 y).1.av F) H' ∧ St F (laws_szThirds_enc v7 v8 v9 v10 y).2 H' ∧ (laws_szThirds_enc v7 v8 v9 v10 y).1.Ok F (laws_szThirds_enc v7 v8 v9 v10 y).2 :=
  fn_fin tok laws_szThirds_hO mixed Try.func42 Try.call42 (by kernel_rfl) (LoopsOk_eq (l := []) (by kernel_rfl) trivial) (laws_szThirds_den v7 v8 v9 v10) hy hm h0 hA
def laws_szThirds_v (v7 : List Nat) (v8 : List Nat) (v9 : List Nat) (v10 : Int) : Int :=
  if (decide ((laws_szFloat32S_v v7 v10) < (0 : Int))) = true then (
   (-1 : Int)
  ) else (
   if (decide ((laws_szFloat32S_v v8 (laws_szFloat32S_v v7 v10)) < (0 : Int))) = true then (
    (-1 : Int)
   ) else (
    if (decide ((laws_szFloat32S_v v9 (laws_szFloat32S_v v8 (laws_szFloat32S_v v7 v10))) < (0 : Int))) = true then (
     (-1 : Int)
    ) else (
     (laws_szFloat32S_v v9 (laws_szFloat32S_v v8 (laws_szFloat32S_v v7 v10)))
    )
   )
  )
theorem laws_szThirds_tot (v7 : List Nat) (v8 : List Nat) (v9 : List Nat) (v10 : Int) : laws_szThirds_g v7 v8 v9 v10 = some (laws_szThirds_v v7 v8 v9 v10) := by
  unfold laws_szThirds_g laws_szThirds_T laws_szThirds_v
  simp only [Tree.run]
  repeat' (first | rfl | split)
noncomputable def laws_szThirds_F : DFn := fun args L =>
  match args with
  | [.agg [a1, a2, a3], .int .i64 v10] =>
    optT (rowF32 L a1) fun v7 =>
    optT (rowF32 L a2) fun v8 =>
    optT (rowF32 L a3) fun v9 =>
    .leaf (.int .i64 (laws_szThirds_v v7 v8 v9 v10), L)
  | _ => .fail
theorem laws_szThirds_Fok : COk Try.prog 42 laws_szThirds_F true := by
  intro F L H args r L' hs ha hr
  unfold laws_szThirds_F at hr
  split at hr
  · rename_i a1 a2 a3 v10
    obtain ⟨v7, hv7, hr⟩ := optT_run hr
    obtain ⟨v8, hv8, hr⟩ := optT_run hr
    obtain ⟨v9, hv9, hr⟩ := optT_run hr
    have hy := laws_szThirds_tot v7 v8 v9 v10
    generalize laws_szThirds_v v7 v8 v9 v10 = y at hy hr
    simp only [Tree.run, Option.some.injEq, Prod.mk.injEq] at hr
    obtain ⟨rfl, rfl⟩ := hr
    exact call_ok0 hs (fun k => (([a1.av F, a2.av F, a3.av F] : List AV)[k]?).getD .top) [.agg [a1, a2, a3], .int .i64 v10] [.agg [.bslc (BR.root 0) (.f32 v7), .bslc (BR.root 1) (.f32 v8), .bslc (BR.root 2) (.f32 v9)], .int .i64 v10] (fun F' h0 hi hρ => ⟨by simp [DVs.av, DV.av, BR.av, hρ], laws_szThirds_fn v7 v8 v9 v10 F' (by rw [hi]; rfl) (st_nil hi) ⟨⟨bslc_ok hi (by rw [h0, hρ]; exact rowF32_ok hs (DVs.okAt (DVs.okAt ha 0 rfl) 0 rfl) hv7), bslc_ok hi (by rw [h0, hρ]; exact rowF32_ok hs (DVs.okAt (DVs.okAt ha 0 rfl) 1 rfl) hv8), bslc_ok hi (by rw [h0, hρ]; exact rowF32_ok hs (DVs.okAt (DVs.okAt ha 0 rfl) 2 rfl) hv9), trivial⟩, trivial, trivial⟩ hy⟩) rfl
  · cases hr
/-! laws.toFloat32S -/
noncomputable def laws_toFloat32S_l0_T (v16 : List Nat) (s : Int × (List Nat)) : Tree ((Int × (List Nat)) ⊕ ((List Nat))) :=
  (.br (decide (s.1 < ((v16.length : Nat) : Int))) (
   (.grd (inb s.1 v16.length) <|
   (.grd (inb s.1 ((s.2).length)) <|
   .leaf (.inl (IntKind.i64.wrap (s.1 + (1 : Int)), List.set s.2 (Int.toNat s.1) (nth v16 (Int.toNat s.1))))))
  ) (
   .leaf (.inr s.2)
  ))

noncomputable def laws_toFloat32S_l0_g (v16 : List Nat) (s0 : Int × (List Nat)) : Option ((List Nat)) := whileM (fun s => (laws_toFloat32S_l0_T v16 s).run) s0
def laws_toFloat32S_l0_E (v16 : List Nat) (s : Int × (List Nat)) : Sd := ([.bslc (BR.root 0) (.f32 v16), .top, .top, .own 0 0 ((s.2).length), .int .i64 s.1, .top, .top, .top, .top, .top, .top, .top, .top, .top, .top, .top, .top, .top, .top, .top, .top, .top], [.row (.f32 s.2) 0])
def laws_toFloat32S_l0_X (v16 : List Nat) (x : (List Nat)) : Out := (.normal, [.top, .top, .top, .own 0 0 ((x).length), .top, .top, .top, .top, .top, .top, .top, .top, .top, .top, .top, .top, .top, .top, .top, .top, .top, .top], [.row (.f32 x) 0])
def laws_toFloat32S_l0_kill : List Nat := [0, 1, 1, 0, 0, 1, 1, 1, 1, 1, 1, 1, 1, 1, 1, 1, 1, 1, 1, 1, 1, 1]
def laws_toFloat32S_l0_nx : Exit → List Nat
  | .exit 0 => [1, 1, 1, 0, 1, 1, 1, 1, 1, 1, 1, 1, 1, 1, 1, 1, 1, 1, 1, 1, 1, 1]
  | .ret => [1, 1, 0, 1, 1, 1, 1, 1, 1, 1, 1, 1, 1, 1, 1, 1, 1, 1, 1, 1, 1, 1]
  | _ => []
noncomputable def laws_toFloat32S_LO (v16 : List Nat) : LOr := fun id e L =>
  match id with
  | 0 => .need (normA 0 laws_toFloat32S_l0_kill e L = some (laws_toFloat32S_l0_E v16 ((gI (vAt e 4)), (gRF L (vAt e 3))))) (.call (laws_toFloat32S_l0_g v16 ((gI (vAt e 4)), (gRF L (vAt e 3)))) fun x => .leaf (laws_toFloat32S_l0_X v16 x))
  | _ => .fail
noncomputable def laws_toFloat32S_tab : List (FuncId × DFn × Bool) := []
theorem laws_toFloat32S_hO : OrcOk Try.prog (tabD laws_toFloat32S_tab) (tabM laws_toFloat32S_tab) := tabD_nil _
theorem laws_toFloat32S_l0_be (v16 : List Nat) (s : Int × (List Nat)) : bodyT TT (tabD laws_toFloat32S_tab) (tabM laws_toFloat32S_tab) (laws_toFloat32S_LO v16) 0 laws_toFloat32S_l0_kill laws_toFloat32S_l0_nx (bodyOf Try.f33 0) 0 (laws_toFloat32S_l0_E v16 s) = (laws_toFloat32S_l0_T v16 s).bind fun y => .leaf (outS (laws_toFloat32S_l0_E v16) (laws_toFloat32S_l0_X v16) y) := by kernel_rfl
theorem laws_toFloat32S_l0_ok (v16 : List Nat) : LSound Try.prog 0 (laws_toFloat32S_LO v16) 0 (bodyOf Try.f33 0) := by
  intro e L out h
  exact lo_ok (E := laws_toFloat32S_l0_E v16) (gT := laws_toFloat32S_l0_T v16) (X := laws_toFloat32S_l0_X v16) (s0 := ((gI (vAt e 4)), (gRF L (vAt e 3)))) tok laws_toFloat32S_hO mixed (LoopsOk_eq (l := []) (by kernel_rfl) trivial) (laws_toFloat32S_l0_be v16) rfl (by intro x; rfl) h
noncomputable def laws_toFloat32S_T (v16 : List Nat) : Tree ((List Nat)) :=
  (.need (((v16.length : Nat) : Int) = ((v16.length : Nat) : Int)) <|
  (.grd (inb ((v16.length : Nat) : Int) (maxN + 1)) <|
  (.need (some (laws_toFloat32S_l0_E v16 ((0 : Int), List.replicate (Int.toNat ((v16.length : Nat) : Int)) (0 : Nat))) = some (laws_toFloat32S_l0_E v16 ((0 : Int), List.replicate (Int.toNat ((v16.length : Nat) : Int)) (0 : Nat)))) <|
  (.call (laws_toFloat32S_l0_g v16 ((0 : Int), List.replicate (Int.toNat ((v16.length : Nat) : Int)) (0 : Nat))) fun v22 =>
  .leaf v22))))

noncomputable def laws_toFloat32S_g (v16 : List Nat) : Option ((List Nat)) := (laws_toFloat32S_T v16).run
def laws_toFloat32S_enc (v16 : List Nat) (y : (List Nat)) : Rs := (.own 0 0 ((y).length), [.row (.f32 y) 0])
theorem laws_toFloat32S_den (v16 : List Nat) : (den TT (tabD laws_toFloat32S_tab) (tabM laws_toFloat32S_tab) (laws_toFloat32S_LO v16) (codeOf Try.f33) ([.bslc (BR.root 0) (.f32 v16)] ++ List.replicate (Try.f33.ntmps - ([.bslc (BR.root 0) (.f32 v16)] : List DV).length) .undef) []).bind (retD TT Try.f33.results.toList 0) = (laws_toFloat32S_T v16).bind fun y => .leaf (laws_toFloat32S_enc v16 y) := by kernel_rfl
theorem laws_toFloat32S_fn (v16 : List Nat) (F : Fr) (hm : F.ids.length = 0) (h0 : St F [] F.H0) (hA : DVs.Ok F [] [.bslc (BR.root 0) (.f32 v16)]) {y : (List Nat)} (hy : laws_toFloat32S_g v16 = some y) : ∃ H', FnOk Try.prog 33 (DVs.av F [.bslc (BR.root 0) (.f32 v16)]) F.H0 ((laws_toFloat32S_enc v16 y).1.av F) H' ∧ St F (laws_toFloat32S_enc v16 y).2 H' ∧ (laws_toFloat32S_enc v16 y).1.Ok F (laws_toFloat32S_enc v16 y).2 :=
  fn_fin tok laws_toFloat32S_hO mixed Try.func33 Try.call33 (by kernel_rfl) (LoopsOk_eq (l := [(0, bodyOf Try.f33 0)]) (by kernel_rfl) ⟨laws_toFloat32S_l0_ok v16, trivial⟩) (laws_toFloat32S_den v16) hy hm h0 hA
noncomputable def laws_toFloat32S_F : DFn := fun args L =>
  match args with
  | [a1] =>
    optT (rowF32 L a1) fun v16 =>
    .call (laws_toFloat32S_g v16) fun y => .leaf (.own (L.length + 0) 0 ((y).length), L ++ [.row (.f32 y) 0])
  | _ => .fail
theorem laws_toFloat32S_Fok : COk Try.prog 33 laws_toFloat32S_F true := by
  intro F L H args r L' hs ha hr
  unfold laws_toFloat32S_F at hr
  split at hr
  · rename_i a1
    obtain ⟨v16, hv16, hr⟩ := optT_run hr
    simp only [Tree.run] at hr
    obtain ⟨y, hy, hr⟩ := Option.bind_eq_some_iff.1 hr
    simp only [Tree.run, Option.some.injEq, Prod.mk.injEq] at hr
    obtain ⟨rfl, rfl⟩ := hr
    exact call_ok1 hs (fun k => (([a1.av F] : List AV)[k]?).getD .top) [a1] [.bslc (BR.root 0) (.f32 v16)] (fun F' h0 hi hρ => ⟨by simp [DVs.av, DV.av, BR.av, hρ], laws_toFloat32S_fn v16 F' (by rw [hi]; rfl) (st_nil hi) ⟨bslc_ok hi (by rw [h0, hρ]; exact rowF32_ok hs (DVs.okAt ha 0 rfl) hv16), trivial⟩ hy⟩) rfl rfl
  · cases hr
/-! laws.toThirds -/
noncomputable def laws_toThirds_LO (v13 : List Nat) (v14 : List Nat) (v15 : List Nat) : LOr := fun id e L =>
  match id with
  | _ => .fail
noncomputable def laws_toThirds_tab : List (FuncId × DFn × Bool) := [(33, laws_toFloat32S_F, true)]
theorem laws_toThirds_hO : OrcOk Try.prog (tabD laws_toThirds_tab) (tabM laws_toThirds_tab) := tabD_cons laws_toFloat32S_Fok (tabD_nil _)
noncomputable def laws_toThirds_T (v13 : List Nat) (v14 : List Nat) (v15 : List Nat) : Tree ((List Nat) × (List Nat) × (List Nat)) :=
  (.call (laws_toFloat32S_g v13) fun v23 =>
  (.call (laws_toFloat32S_g v14) fun v24 =>
  (.call (laws_toFloat32S_g v15) fun v25 =>
  .leaf (v23, v24, v25))))

noncomputable def laws_toThirds_g (v13 : List Nat) (v14 : List Nat) (v15 : List Nat) : Option ((List Nat) × (List Nat) × (List Nat)) := (laws_toThirds_T v13 v14 v15).run
def laws_toThirds_enc (v13 : List Nat) (v14 : List Nat) (v15 : List Nat) (y : (List Nat) × (List Nat) × (List Nat)) : Rs := (.agg [.own 0 0 ((y.1).length), .own 1 0 ((y.2.1).length), .own 2 0 ((y.2.2).length)], [.row (.f32 y.1) 0, .row (.f32 y.2.1) 0, .row (.f32 y.2.2) 0])
theorem laws_toThirds_den (v13 : List Nat) (v14 : List Nat) (v15 : List Nat) : (den TT (tabD laws_toThirds_tab) (tabM laws_toThirds_tab) (laws_toThirds_LO v13 v14 v15) (codeOf Try.f44) ([.agg [.bslc (BR.root 0) (.f32 v13), .bslc (BR.root 1) (.f32 v14), .bslc (BR.root 2) (.f32 v15)]] ++ List.replicate (Try.f44.ntmps - ([.agg [.bslc (BR.root 0) (.f32 v13), .bslc (BR.root 1) (.f32 v14), .bslc (BR.root 2) (.f32 v15)]] : List DV).length) .undef) []).bind (retD TT Try.f44.results.toList 0) = (laws_toThirds_T v13 v14 v15).bind fun y => .leaf (laws_toThirds_enc v13 v14 v15 y) := by kernel_rfl
theorem laws_toThirds_fn (v13 : List Nat) (v14 : List Nat) (v15 : List Nat) (F : Fr) (hm : F.ids.length = 0) (h0 : St F [] F.H0) (hA : DVs.Ok F [] [.agg [.bslc (BR.root 0) (.f32 v13), .bslc (BR.root 1) (.f32 v14), .bslc (BR.root 2) (.f32 v15)]]) {y : (List Nat) × (List Nat) × (List Nat)} (hy : laws_toThirds_g v13 v14 v15 = some y) : ∃ H', FnOk Try.prog 44 (DVs.av F [.agg [.bslc (BR.root 0) (.f32 v13), .bslc (BR.root 1) (.f32 v14), .bslc (BR.root 2) (.f32 v15)]]) F.H0 ((laws_toThirds_enc v13 v14 v15 y).1.av F) H' ∧ St F (laws_toThirds_enc v13 v14 v15 y).2 H' ∧ (laws_toThirds_enc v13 v14 v15 y).1.Ok F (laws_toThirds_enc v13 v14 v15 y).2 :=
  fn_fin tok laws_toThirds_hO mixed Try.func44 Try.call44 (by kernel_rfl) (LoopsOk_eq (l := []) (by kernel_rfl) trivial) (laws_toThirds_den v13 v14 v15) hy hm h0 hA
noncomputable def laws_toThirds_F : DFn := fun args L =>
  match args with
  | [.agg [a1, a2, a3]] =>
    optT (rowF32 L a1) fun v13 =>
    optT (rowF32 L a2) fun v14 =>
    optT (rowF32 L a3) fun v15 =>
    .call (laws_toThirds_g v13 v14 v15) fun y => .leaf (.agg [.own (L.length + 0) 0 ((y.1).length), .own (L.length + 1) 0 ((y.2.1).length), .own (L.length + 2) 0 ((y.2.2).length)], L ++ [.row (.f32 y.1) 0, .row (.f32 y.2.1) 0, .row (.f32 y.2.2) 0])
  | _ => .fail
theorem laws_toThirds_Fok : COk Try.prog 44 laws_toThirds_F true := by
  intro F L H args r L' hs ha hr
  unfold laws_toThirds_F at hr
  split at hr
  · rename_i a1 a2 a3
    obtain ⟨v13, hv13, hr⟩ := optT_run hr
    obtain ⟨v14, hv14, hr⟩ := optT_run hr
    obtain ⟨v15, hv15, hr⟩ := optT_run hr
    simp only [Tree.run] at hr
    obtain ⟨y, hy, hr⟩ := Option.bind_eq_some_iff.1 hr
    simp only [Tree.run, Option.some.injEq, Prod.mk.injEq] at hr
    obtain ⟨rfl, rfl⟩ := hr
    exact call_ok1 hs (fun k => (([a1.av F, a2.av F, a3.av F] : List AV)[k]?).getD .top) [.agg [a1, a2, a3]] [.agg [.bslc (BR.root 0) (.f32 v13), .bslc (BR.root 1) (.f32 v14), .bslc (BR.root 2) (.f32 v15)]] (fun F' h0 hi hρ => ⟨by simp [DVs.av, DV.av, BR.av, hρ], laws_toThirds_fn v13 v14 v15 F' (by rw [hi]; rfl) (st_nil hi) ⟨⟨bslc_ok hi (by rw [h0, hρ]; exact rowF32_ok hs (DVs.okAt (DVs.okAt ha 0 rfl) 0 rfl) hv13), bslc_ok hi (by rw [h0, hρ]; exact rowF32_ok hs (DVs.okAt (DVs.okAt ha 0 rfl) 1 rfl) hv14), bslc_ok hi (by rw [h0, hρ]; exact rowF32_ok hs (DVs.okAt (DVs.okAt ha 0 rfl) 2 rfl) hv15), trivial⟩, trivial⟩ hy⟩) rfl rfl
  · cases hr
/-! spec.l01Finite -/
noncomputable def spec_l01Finite_LO (v43 : Nat) : LOr := fun id e L =>
  match id with
  | _ => .fail
noncomputable def spec_l01Finite_tab : List (FuncId × DFn × Bool) := []
theorem spec_l01Finite_hO : OrcOk Try.prog (tabD spec_l01Finite_tab) (tabM spec_l01Finite_tab) := tabD_nil _
noncomputable def spec_l01Finite_T (v43 : Nat) : Tree (Bool) :=
  .leaf (feq .f32 (fsub .f32 v43 v43) (0 : Nat))

noncomputable def spec_l01Finite_g (v43 : Nat) : Option (Bool) := (spec_l01Finite_T v43).run
def spec_l01Finite_enc (v43 : Nat) (y : Bool) : Rs := (.bool y, [])
theorem spec_l01Finite_den (v43 : Nat) : (den TT (tabD spec_l01Finite_tab) (tabM spec_l01Finite_tab) (spec_l01Finite_LO v43) (codeOf Try.f60) ([.flt .f32 v43] ++ List.replicate (Try.f60.ntmps - ([.flt .f32 v43] : List DV).length) .undef) []).bind (retD TT Try.f60.results.toList 0) = (spec_l01Finite_T v43).bind fun y => .leaf (spec_l01Finite_enc v43 y) := by kernel_rfl
theorem spec_l01Finite_fn (v43 : Nat) (F : Fr) (hm : F.ids.length = 0) (h0 : St F [] F.H0) (hA : DVs.Ok F [] [.flt .f32 v43]) {y : Bool} (hy : spec_l01Finite_g v43 = some y) : ∃ H', FnOk Try.prog 60 (DVs.av F [.flt .f32 v43]) F.H0 ((spec_l01Finite_enc v43 y).1.av F) H' ∧ St F (spec_l01Finite_enc v43 y).2 H' ∧ (spec_l01Finite_enc v43 y).1.Ok F (spec_l01Finite_enc v43 y).2 :=
  fn_fin tok spec_l01Finite_hO mixed Try.func60 Try.call60 (by kernel_rfl) (LoopsOk_eq (l := []) (by kernel_rfl) trivial) (spec_l01Finite_den v43) hy hm h0 hA
def spec_l01Finite_v (v43 : Nat) : Bool :=
  feq .f32 (fsub .f32 v43 v43) (0 : Nat)
theorem spec_l01Finite_tot (v43 : Nat) : spec_l01Finite_g v43 = some (spec_l01Finite_v v43) := by
  unfold spec_l01Finite_g spec_l01Finite_T spec_l01Finite_v
  simp only [Tree.run]
  repeat' (first | rfl | split)
noncomputable def spec_l01Finite_F : DFn := fun args L =>
  match args with
  | [.flt .f32 v43] =>
    .leaf (.bool (spec_l01Finite_v v43), L)
  | _ => .fail
theorem spec_l01Finite_Fok : COk Try.prog 60 spec_l01Finite_F true := by
  intro F L H args r L' hs ha hr
  unfold spec_l01Finite_F at hr
  split at hr
  · rename_i v43
    have hy := spec_l01Finite_tot v43
    generalize spec_l01Finite_v v43 = y at hy hr
    simp only [Tree.run, Option.some.injEq, Prod.mk.injEq] at hr
    obtain ⟨rfl, rfl⟩ := hr
    exact call_ok0 hs (fun k => (([] : List AV)[k]?).getD .top) [.flt .f32 v43] [.flt .f32 v43] (fun F' h0 hi hρ => ⟨by simp [DVs.av, DV.av, BR.av, hρ], spec_l01Finite_fn v43 F' (by rw [hi]; rfl) (st_nil hi) ⟨trivial, trivial⟩ hy⟩) rfl
  · cases hr
/-! spec.l02Finite -/
noncomputable def spec_l02Finite_l0_T (v41 : List Nat) (s : Int) : Tree ((Int) ⊕ ((Unit) ⊕ (Unit))) :=
  (.br (decide (s < ((v41.length : Nat) : Int))) (
   (.grd (inb s v41.length) <|
   (.br (!(spec_l01Finite_v (nth v41 (Int.toNat s)))) (
    .leaf (.inr (.inl ()))
   ) (
    .leaf (.inl (IntKind.i64.wrap (s + (1 : Int))))
   )))
  ) (
   .leaf (.inr (.inr ()))
  ))

noncomputable def spec_l02Finite_l0_g (v41 : List Nat) (s0 : Int) : Option ((Unit) ⊕ (Unit)) := whileM (fun s => (spec_l02Finite_l0_T v41 s).run) s0
def spec_l02Finite_l0_E (v41 : List Nat) (s : Int) : Sd := ([.bslc (BR.root 0) (.f32 v41), .top, .top, .int .i64 s, .top, .top, .top, .top, .top, .top, .top, .top, .top, .top, .top, .top], [])
def spec_l02Finite_l0_X (v41 : List Nat) (x : (Unit) ⊕ (Unit)) : Out := (match x with | .inl x => (.ret, [.top, .top, .lit false, .top, .top, .top, .top, .top, .top, .top, .top, .top, .top, .top, .top, .top], []) | .inr x => (.normal, [.top, .top, .top, .top, .top, .top, .top, .top, .top, .top, .top, .top, .top, .top, .top, .top], []))
def spec_l02Finite_l0_kill : List Nat := [0, 1, 1, 0, 1, 1, 1, 1, 1, 1, 1, 1, 1, 1, 1, 1]
def spec_l02Finite_l0_nx : Exit → List Nat
  | .exit 0 => [1, 1, 1, 1, 1, 1, 1, 1, 1, 1, 1, 1, 1, 1, 1, 1]
  | .ret => [1, 1, 0, 1, 1, 1, 1, 1, 1, 1, 1, 1, 1, 1, 1, 1]
  | _ => []
noncomputable def spec_l02Finite_LO (v41 : List Nat) : LOr := fun id e L =>
  match id with
  | 0 => .need (normA 0 spec_l02Finite_l0_kill e L = some (spec_l02Finite_l0_E v41 (gI (vAt e 3)))) (.call (spec_l02Finite_l0_g v41 (gI (vAt e 3))) fun x => .sum x (fun b0 => .leaf (spec_l02Finite_l0_X v41 (.inl b0))) (fun c0 => .leaf (spec_l02Finite_l0_X v41 (.inr c0))))
  | _ => .fail
noncomputable def spec_l02Finite_tab : List (FuncId × DFn × Bool) := [(60, spec_l01Finite_F, true)]
theorem spec_l02Finite_hO : OrcOk Try.prog (tabD spec_l02Finite_tab) (tabM spec_l02Finite_tab) := tabD_cons spec_l01Finite_Fok (tabD_nil _)
theorem spec_l02Finite_l0_be (v41 : List Nat) (s : Int) : bodyT TT (tabD spec_l02Finite_tab) (tabM spec_l02Finite_tab) (spec_l02Finite_LO v41) 0 spec_l02Finite_l0_kill spec_l02Finite_l0_nx (bodyOf Try.f135 0) 0 (spec_l02Finite_l0_E v41 s) = (spec_l02Finite_l0_T v41 s).bind fun y => .leaf (outS (spec_l02Finite_l0_E v41) (spec_l02Finite_l0_X v41) y) := by kernel_rfl
theorem spec_l02Finite_l0_ok (v41 : List Nat) : LSound Try.prog 0 (spec_l02Finite_LO v41) 0 (bodyOf Try.f135 0) := by
  intro e L out h
  exact lo_ok (E := spec_l02Finite_l0_E v41) (gT := spec_l02Finite_l0_T v41) (X := spec_l02Finite_l0_X v41) (s0 := (gI (vAt e 3))) tok spec_l02Finite_hO mixed (LoopsOk_eq (l := []) (by kernel_rfl) trivial) (spec_l02Finite_l0_be v41) rfl (by intro x; (cases x with | inl b => rfl | inr x => exact rfl)) h
noncomputable def spec_l02Finite_T (v41 : List Nat) : Tree (Bool) :=
  (.need (some (spec_l02Finite_l0_E v41 (0 : Int)) = some (spec_l02Finite_l0_E v41 (0 : Int))) <|
  (.call (spec_l02Finite_l0_g v41 (0 : Int)) fun v46 =>
  (.sum v46 (fun v47 =>
   .leaf false
  ) (fun v48 =>
   .leaf true
  ))))

noncomputable def spec_l02Finite_g (v41 : List Nat) : Option (Bool) := (spec_l02Finite_T v41).run
def spec_l02Finite_enc (v41 : List Nat) (y : Bool) : Rs := (.bool y, [])
theorem spec_l02Finite_den (v41 : List Nat) : (den TT (tabD spec_l02Finite_tab) (tabM spec_l02Finite_tab) (spec_l02Finite_LO v41) (codeOf Try.f135) ([.bslc (BR.root 0) (.f32 v41)] ++ List.replicate (Try.f135.ntmps - ([.bslc (BR.root 0) (.f32 v41)] : List DV).length) .undef) []).bind (retD TT Try.f135.results.toList 0) = (spec_l02Finite_T v41).bind fun y => .leaf (spec_l02Finite_enc v41 y) := by kernel_rfl
theorem spec_l02Finite_fn (v41 : List Nat) (F : Fr) (hm : F.ids.length = 0) (h0 : St F [] F.H0) (hA : DVs.Ok F [] [.bslc (BR.root 0) (.f32 v41)]) {y : Bool} (hy : spec_l02Finite_g v41 = some y) : ∃ H', FnOk Try.prog 135 (DVs.av F [.bslc (BR.root 0) (.f32 v41)]) F.H0 ((spec_l02Finite_enc v41 y).1.av F) H' ∧ St F (spec_l02Finite_enc v41 y).2 H' ∧ (spec_l02Finite_enc v41 y).1.Ok F (spec_l02Finite_enc v41 y).2 :=
  fn_fin tok spec_l02Finite_hO mixed Try.func135 Try.call135 (by kernel_rfl) (LoopsOk_eq (l := [(0, bodyOf Try.f135 0)]) (by kernel_rfl) ⟨spec_l02Finite_l0_ok v41, trivial⟩) (spec_l02Finite_den v41) hy hm h0 hA
noncomputable def spec_l02Finite_F : DFn := fun args L =>
  match args with
  | [a1] =>
    optT (rowF32 L a1) fun v41 =>
    .call (spec_l02Finite_g v41) fun y => .leaf (.bool y, L)
  | _ => .fail
theorem spec_l02Finite_Fok : COk Try.prog 135 spec_l02Finite_F true := by
  intro F L H args r L' hs ha hr
  unfold spec_l02Finite_F at hr
  split at hr
  · rename_i a1
    obtain ⟨v41, hv41, hr⟩ := optT_run hr
    simp only [Tree.run] at hr
    obtain ⟨y, hy, hr⟩ := Option.bind_eq_some_iff.1 hr
    simp only [Tree.run, Option.some.injEq, Prod.mk.injEq] at hr
    obtain ⟨rfl, rfl⟩ := hr
    exact call_ok0 hs (fun k => (([a1.av F] : List AV)[k]?).getD .top) [a1] [.bslc (BR.root 0) (.f32 v41)] (fun F' h0 hi hρ => ⟨by simp [DVs.av, DV.av, BR.av, hρ], spec_l02Finite_fn v41 F' (by rw [hi]; rfl) (st_nil hi) ⟨bslc_ok hi (by rw [h0, hρ]; exact rowF32_ok hs (DVs.okAt ha 0 rfl) hv41), trivial⟩ hy⟩) rfl
  · cases hr
/-! spec.l07Thirds -/
noncomputable def spec_l07Thirds_LO (v38 : List Nat) (v39 : List Nat) (v40 : List Nat) : LOr := fun id e L =>
  match id with
  | _ => .fail
noncomputable def spec_l07Thirds_tab : List (FuncId × DFn × Bool) := [(135, spec_l02Finite_F, true)]
theorem spec_l07Thirds_hO : OrcOk Try.prog (tabD spec_l07Thirds_tab) (tabM spec_l07Thirds_tab) := tabD_cons spec_l02Finite_Fok (tabD_nil _)
noncomputable def spec_l07Thirds_T (v38 : List Nat) (v39 : List Nat) (v40 : List Nat) : Tree (Bool) :=
  (.br (decide (((v39.length : Nat) : Int) < (1 : Int))) (
   .leaf false
  ) (
   (.br (decide ((32 : Int) < ((v39.length : Nat) : Int))) (
    .leaf false
   ) (
    (.br (!decide (((v38.length : Nat) : Int) = ((v39.length : Nat) : Int))) (
     .leaf false
    ) (
     (.br (!decide (((v40.length : Nat) : Int) = ((v39.length : Nat) : Int))) (
      .leaf false
     ) (
      (.call (spec_l02Finite_g v38) fun v49 =>
      (.br v49 (
       (.call (spec_l02Finite_g v39) fun v50 =>
       (.br v50 (
        (.call (spec_l02Finite_g v40) fun v51 =>
        (.br v51 (
         (.grd (inb (0 : Int) v38.length) <|
         (.br (feq .f32 (nth v38 (Int.toNat (0 : Int))) (0 : Nat)) (
          (.grd (inb (IntKind.i64.wrap (((v39.length : Nat) : Int) - (1 : Int))) v40.length) <|
          .leaf (feq .f32 (nth v40 (Int.toNat (IntKind.i64.wrap (((v39.length : Nat) : Int) - (1 : Int))))) (0 : Nat)))
         ) (
          .leaf false
         )))
        ) (
         .leaf false
        )))
       ) (
        .leaf false
       )))
      ) (
       .leaf false
      )))
     ))
    ))
   ))
  ))

noncomputable def spec_l07Thirds_g (v38 : List Nat) (v39 : List Nat) (v40 : List Nat) : Option (Bool) := (spec_l07Thirds_T v38 v39 v40).run
def spec_l07Thirds_enc (v38 : List Nat) (v39 : List Nat) (v40 : List Nat) (y : Bool) : Rs := (.bool y, [])
theorem spec_l07Thirds_den (v38 : List Nat) (v39 : List Nat) (v40 : List Nat) : (den TT (tabD spec_l07Thirds_tab) (tabM spec_l07Thirds_tab) (spec_l07Thirds_LO v38 v39 v40) (codeOf Try.f152) ([.bptr (BR.root 0) [.bslc (BR.root 1) (.f32 v38), .bslc (BR.root 2) (.f32 v39), .bslc (BR.root 3) (.f32 v40)]] ++ List.replicate (Try.f152.ntmps - ([.bptr (BR.root 0) [.bslc (BR.root 1) (.f32 v38), .bslc (BR.root 2) (.f32 v39), .bslc (BR.root 3) (.f32 v40)]] : List DV).length) .undef) []).bind (retD TT Try.f152.results.toList 0) = (spec_l07Thirds_T v38 v39 v40).bind fun y => .leaf (spec_l07Thirds_enc v38 v39 v40 y) := by kernel_rfl
theorem spec_l07Thirds_fn (v38 : List Nat) (v39 : List Nat) (v40 : List Nat) (F : Fr) (hm : F.ids.length = 0) (h0 : St F [] F.H0) (hA : DVs.Ok F [] [.bptr (BR.root 0) [.bslc (BR.root 1) (.f32 v38), .bslc (BR.root 2) (.f32 v39), .bslc (BR.root 3) (.f32 v40)]]) {y : Bool} (hy : spec_l07Thirds_g v38 v39 v40 = some y) : ∃ H', FnOk Try.prog 152 (DVs.av F [.bptr (BR.root 0) [.bslc (BR.root 1) (.f32 v38), .bslc (BR.root 2) (.f32 v39), .bslc (BR.root 3) (.f32 v40)]]) F.H0 ((spec_l07Thirds_enc v38 v39 v40 y).1.av F) H' ∧ St F (spec_l07Thirds_enc v38 v39 v40 y).2 H' ∧ (spec_l07Thirds_enc v38 v39 v40 y).1.Ok F (spec_l07Thirds_enc v38 v39 v40 y).2 :=
  fn_fin tok spec_l07Thirds_hO mixed Try.func152 Try.call152 (by kernel_rfl) (LoopsOk_eq (l := []) (by kernel_rfl) trivial) (spec_l07Thirds_den v38 v39 v40) hy hm h0 hA
noncomputable def spec_l07Thirds_F : DFn := fun args L =>
  match args with
  | [a1] =>
    optT (cellsOf L 3 a1) fun cs0 =>
    (match cs0 with
    | [a2, a3, a4] =>
    optT (rowF32 L a2) fun v38 =>
    optT (rowF32 L a3) fun v39 =>
    optT (rowF32 L a4) fun v40 =>
    .call (spec_l07Thirds_g v38 v39 v40) fun y => .leaf (.bool y, L)
    | _ => .fail)
  | _ => .fail
theorem spec_l07Thirds_Fok : COk Try.prog 152 spec_l07Thirds_F true := by
  intro F L H args r L' hs ha hr
  unfold spec_l07Thirds_F at hr
  split at hr
  · rename_i a1
    obtain ⟨cs0, hcp0, hr⟩ := optT_run hr
    split at hr
    · rename_i a2 a3 a4
      obtain ⟨v38, hv38, hr⟩ := optT_run hr
      obtain ⟨v39, hv39, hr⟩ := optT_run hr
      obtain ⟨v40, hv40, hr⟩ := optT_run hr
      simp only [Tree.run] at hr
      obtain ⟨y, hy, hr⟩ := Option.bind_eq_some_iff.1 hr
      simp only [Tree.run, Option.some.injEq, Prod.mk.injEq] at hr
      obtain ⟨rfl, rfl⟩ := hr
      exact call_ok0 hs (fun k => (([a1.av F, a2.av F, a3.av F, a4.av F] : List AV)[k]?).getD .top) [a1] [.bptr (BR.root 0) [.bslc (BR.root 1) (.f32 v38), .bslc (BR.root 2) (.f32 v39), .bslc (BR.root 3) (.f32 v40)]] (fun F' h0 hi hρ => ⟨by simp [DVs.av, DV.av, BR.av, hρ], spec_l07Thirds_fn v38 v39 v40 F' (by rw [hi]; rfl) (st_nil hi) ⟨bptr_ok hi (by rw [h0]; simpa [DVs.av, DV.av, BR.av, hρ] using (cellsOf_ok hs (DVs.okAt ha 0 rfl) hcp0).1) ⟨bslc_ok hi (by rw [h0, hρ]; exact rowF32_ok hs (DVs.okAt (cellsOf_ok hs (DVs.okAt ha 0 rfl) hcp0).2 0 rfl) hv38), bslc_ok hi (by rw [h0, hρ]; exact rowF32_ok hs (DVs.okAt (cellsOf_ok hs (DVs.okAt ha 0 rfl) hcp0).2 1 rfl) hv39), bslc_ok hi (by rw [h0, hρ]; exact rowF32_ok hs (DVs.okAt (cellsOf_ok hs (DVs.okAt ha 0 rfl) hcp0).2 2 rfl) hv40), trivial⟩, trivial⟩ hy⟩) rfl
    · cases hr
  · cases hr
/-! spec.l07Fits -/
noncomputable def spec_l07Fits_LO (v34 : List Nat) (v35 : List Nat) (v36 : List Nat) (v37 : List Nat) : LOr := fun id e L =>
  match id with
  | _ => .fail
noncomputable def spec_l07Fits_tab : List (FuncId × DFn × Bool) := [(152, spec_l07Thirds_F, true), (135, spec_l02Finite_F, true)]
theorem spec_l07Fits_hO : OrcOk Try.prog (tabD spec_l07Fits_tab) (tabM spec_l07Fits_tab) := tabD_cons spec_l07Thirds_Fok (tabD_cons spec_l02Finite_Fok (tabD_nil _))
noncomputable def spec_l07Fits_T (v34 : List Nat) (v35 : List Nat) (v36 : List Nat) (v37 : List Nat) : Tree (Bool) :=
  (.call (spec_l07Thirds_g v34 v35 v36) fun v52 =>
  (.br v52 (
   (.br (decide (((v37.length : Nat) : Int) = ((v35.length : Nat) : Int))) (
    (.call (spec_l02Finite_g v37) fun v53 =>
    .leaf v53)
   ) (
    .leaf false
   ))
  ) (
   .leaf false
  )))

noncomputable def spec_l07Fits_g (v34 : List Nat) (v35 : List Nat) (v36 : List Nat) (v37 : List Nat) : Option (Bool) := (spec_l07Fits_T v34 v35 v36 v37).run
def spec_l07Fits_enc (v34 : List Nat) (v35 : List Nat) (v36 : List Nat) (v37 : List Nat) (y : Bool) : Rs := (.bool y, [])
theorem spec_l07Fits_den (v34 : List Nat) (v35 : List Nat) (v36 : List Nat) (v37 : List Nat) : (den TT (tabD spec_l07Fits_tab) (tabM spec_l07Fits_tab) (spec_l07Fits_LO v34 v35 v36 v37) (codeOf Try.f102) ([.bptr (BR.root 0) [.bslc (BR.root 1) (.f32 v34), .bslc (BR.root 2) (.f32 v35), .bslc (BR.root 3) (.f32 v36)], .bslc (BR.root 4) (.f32 v37)] ++ List.replicate (Try.f102.ntmps - ([.bptr (BR.root 0) [.bslc (BR.root 1) (.f32 v34), .bslc (BR.root 2) (.f32 v35), .bslc (BR.root 3) (.f32 v36)], .bslc (BR.root 4) (.f32 v37)] : List DV).length) .undef) []).bind (retD TT Try.f102.results.toList 0) = (spec_l07Fits_T v34 v35 v36 v37).bind fun y => .leaf (spec_l07Fits_enc v34 v35 v36 v37 y) := by kernel_rfl
theorem spec_l07Fits_fn (v34 : List Nat) (v35 : List Nat) (v36 : List Nat) (v37 : List Nat) (F : Fr) (hm : F.ids.length = 0) (h0 : St F [] F.H0) (hA : DVs.Ok F [] [.bptr (BR.root 0) [.bslc (BR.root 1) (.f32 v34), .bslc (BR.root 2) (.f32 v35), .bslc (BR.root 3) (.f32 v36)], .bslc (BR.root 4) (.f32 v37)]) {y : Bool} (hy : spec_l07Fits_g v34 v35 v36 v37 = some y) : ∃ H', FnOk Try.prog 102 (DVs.av F [.bptr (BR.root 0) [.bslc (BR.root 1) (.f32 v34), .bslc (BR.root 2) (.f32 v35), .bslc (BR.root 3) (.f32 v36)], .bslc (BR.root 4) (.f32 v37)]) F.H0 ((spec_l07Fits_enc v34 v35 v36 v37 y).1.av F) H' ∧ St F (spec_l07Fits_enc v34 v35 v36 v37 y).2 H' ∧ (spec_l07Fits_enc v34 v35 v36 v37 y).1.Ok F (spec_l07Fits_enc v34 v35 v36 v37 y).2 :=
  fn_fin tok spec_l07Fits_hO mixed Try.func102 Try.call102 (by kernel_rfl) (LoopsOk_eq (l := []) (by kernel_rfl) trivial) (spec_l07Fits_den v34 v35 v36 v37) hy hm h0 hA
noncomputable def spec_l07Fits_F : DFn := fun args L =>
  match args with
  | [a1, a5] =>
    optT (cellsOf L 3 a1) fun cs0 =>
    (match cs0 with
    | [a2, a3, a4] =>
    optT (rowF32 L a2) fun v34 =>
    optT (rowF32 L a3) fun v35 =>
    optT (rowF32 L a4) fun v36 =>
    optT (rowF32 L a5) fun v37 =>
    .call (spec_l07Fits_g v34 v35 v36 v37) fun y => .leaf (.bool y, L)
    | _ => .fail)
  | _ => .fail
theorem spec_l07Fits_Fok : COk Try.prog 102 spec_l07Fits_F true := by
  intro F L H args r L' hs ha hr
  unfold spec_l07Fits_F at hr
  split at hr
  · rename_i a1 a5
    obtain ⟨cs0, hcp0, hr⟩ := optT_run hr
    split at hr
    · rename_i a2 a3 a4
      obtain ⟨v34, hv34, hr⟩ := optT_run hr
      obtain ⟨v35, hv35, hr⟩ := optT_run hr
      obtain ⟨v36, hv36, hr⟩ := optT_run hr
      obtain ⟨v37, hv37, hr⟩ := optT_run hr
      simp only [Tree.run] at hr
      obtain ⟨y, hy, hr⟩ := Option.bind_eq_some_iff.1 hr
      simp only [Tree.run, Option.some.injEq, Prod.mk.injEq] at hr
      obtain ⟨rfl, rfl⟩ := hr
      exact call_ok0 hs (fun k => (([a1.av F, a2.av F, a3.av F, a4.av F, a5.av F] : List AV)[k]?).getD .top) [a1, a5] [.bptr (BR.root 0) [.bslc (BR.root 1) (.f32 v34), .bslc (BR.root 2) (.f32 v35), .bslc (BR.root 3) (.f32 v36)], .bslc (BR.root 4) (.f32 v37)] (fun F' h0 hi hρ => ⟨by simp [DVs.av, DV.av, BR.av, hρ], spec_l07Fits_fn v34 v35 v36 v37 F' (by rw [hi]; rfl) (st_nil hi) ⟨bptr_ok hi (by rw [h0]; simpa [DVs.av, DV.av, BR.av, hρ] using (cellsOf_ok hs (DVs.okAt ha 0 rfl) hcp0).1) ⟨bslc_ok hi (by rw [h0, hρ]; exact rowF32_ok hs (DVs.okAt (cellsOf_ok hs (DVs.okAt ha 0 rfl) hcp0).2 0 rfl) hv34), bslc_ok hi (by rw [h0, hρ]; exact rowF32_ok hs (DVs.okAt (cellsOf_ok hs (DVs.okAt ha 0 rfl) hcp0).2 1 rfl) hv35), bslc_ok hi (by rw [h0, hρ]; exact rowF32_ok hs (DVs.okAt (cellsOf_ok hs (DVs.okAt ha 0 rfl) hcp0).2 2 rfl) hv36), trivial⟩, bslc_ok hi (by rw [h0, hρ]; exact rowF32_ok hs (DVs.okAt ha 1 rfl) hv37), trivial⟩ hy⟩) rfl
    · cases hr
  · cases hr
/-! spec.l02List -/
noncomputable def spec_l02List_LO (v86 : List Nat) : LOr := fun id e L =>
  match id with
  | _ => .fail
noncomputable def spec_l02List_tab : List (FuncId × DFn × Bool) := [(135, spec_l02Finite_F, true)]
theorem spec_l02List_hO : OrcOk Try.prog (tabD spec_l02List_tab) (tabM spec_l02List_tab) := tabD_cons spec_l02Finite_Fok (tabD_nil _)
noncomputable def spec_l02List_T (v86 : List Nat) : Tree ((Unit) ⊕ (Unit)) :=
  (.call (spec_l02Finite_g v86) fun v87 =>
  (.br (!v87) (
   .leaf (.inl ())
  ) (
   .leaf (.inr ())
  )))

noncomputable def spec_l02List_g (v86 : List Nat) : Option ((Unit) ⊕ (Unit)) := (spec_l02List_T v86).run
def spec_l02List_enc (v86 : List Nat) (y : (Unit) ⊕ (Unit)) : Rs := (match y with | .inl y => (.tup [.nilslc, .lit false], []) | .inr y => (.tup [.bslc (BR.root 0) (.f32 v86), .lit true], []))
theorem spec_l02List_den (v86 : List Nat) : (den TT (tabD spec_l02List_tab) (tabM spec_l02List_tab) (spec_l02List_LO v86) (codeOf Try.f90) ([.bslc (BR.root 0) (.f32 v86)] ++ List.replicate (Try.f90.ntmps - ([.bslc (BR.root 0) (.f32 v86)] : List DV).length) .undef) []).bind (retD TT Try.f90.results.toList 0) = (spec_l02List_T v86).bind fun y => .leaf (spec_l02List_enc v86 y) := by kernel_rfl
theorem spec_l02List_fn (v86 : List Nat) (F : Fr) (hm : F.ids.length = 0) (h0 : St F [] F.H0) (hA : DVs.Ok F [] [.bslc (BR.root 0) (.f32 v86)]) {y : (Unit) ⊕ (Unit)} (hy : spec_l02List_g v86 = some y) : ∃ H', FnOk Try.prog 90 (DVs.av F [.bslc (BR.root 0) (.f32 v86)]) F.H0 ((spec_l02List_enc v86 y).1.av F) H' ∧ St F (spec_l02List_enc v86 y).2 H' ∧ (spec_l02List_enc v86 y).1.Ok F (spec_l02List_enc v86 y).2 :=
  fn_fin tok spec_l02List_hO mixed Try.func90 Try.call90 (by kernel_rfl) (LoopsOk_eq (l := []) (by kernel_rfl) trivial) (spec_l02List_den v86) hy hm h0 hA
noncomputable def spec_l02List_F : DFn := fun args L =>
  match args with
  | [a1] =>
    optT (rowF32 L a1) fun v86 =>
    .call (spec_l02List_g v86) fun y => .sum y (fun y0 => .leaf (.tup [.nilslc, .lit false], L)) (fun z0 => .leaf (.tup [a1, .lit true], L))
  | _ => .fail
theorem spec_l02List_Fok : COk Try.prog 90 spec_l02List_F true := by
  intro F L H args r L' hs ha hr
  unfold spec_l02List_F at hr
  split at hr
  · rename_i a1
    obtain ⟨v86, hv86, hr⟩ := optT_run hr
    simp only [Tree.run] at hr
    obtain ⟨y, hy, hr⟩ := Option.bind_eq_some_iff.1 hr
    cases y with
    | inl y =>
      simp only [Tree.run, Option.some.injEq, Prod.mk.injEq] at hr
      obtain ⟨rfl, rfl⟩ := hr
      exact call_ok0 hs (fun k => (([a1.av F] : List AV)[k]?).getD .top) [a1] [.bslc (BR.root 0) (.f32 v86)] (fun F' h0 hi hρ => ⟨by simp [DVs.av, DV.av, BR.av, hρ], spec_l02List_fn v86 F' (by rw [hi]; rfl) (st_nil hi) ⟨bslc_ok hi (by rw [h0, hρ]; exact rowF32_ok hs (DVs.okAt ha 0 rfl) hv86), trivial⟩ hy⟩) rfl
    | inr y =>
      simp only [Tree.run, Option.some.injEq, Prod.mk.injEq] at hr
      obtain ⟨rfl, rfl⟩ := hr
      exact call_al0 hs (fun k => (([a1.av F] : List AV)[k]?).getD .top) [a1] [.bslc (BR.root 0) (.f32 v86)] (fun F' h0 hi hρ => ⟨by simp [DVs.av, DV.av, BR.av, hρ], spec_l02List_fn v86 F' (by rw [hi]; rfl) (st_nil hi) ⟨bslc_ok hi (by rw [h0, hρ]; exact rowF32_ok hs (DVs.okAt ha 0 rfl) hv86), trivial⟩ hy⟩) (fun F' h0 hi hρ => by simp [spec_l02List_enc, DVs.av, DV.av, BR.av, hρ]) ⟨(DVs.okAt ha 0 rfl), trivial, trivial⟩
  · cases hr
/-! spec.l07Solve -/
noncomputable def spec_l07Solve_l0_T (v60 : List Nat) (v62 : List Nat) (v63 : List Nat) (s : Int × (List Nat) × (List Nat)) : Tree ((Int × (List Nat) × (List Nat)) ⊕ ((Unit) ⊕ ((List Nat) × (List Nat)))) :=
  (.br (decide (s.1 < ((v63.length : Nat) : Int))) (
   (.grd (inb s.1 v60.length) <|
   (.grd (inb (IntKind.i64.wrap (s.1 - (1 : Int))) ((s.2.1).length)) <|
   (.grd (inb s.1 ((s.2.1).length)) <|
   (.grd (inb (IntKind.i64.wrap (s.1 - (1 : Int))) v62.length) <|
   (.grd (inb s.1 ((s.2.1).length)) <|
   (.grd (inb s.1 ((s.2.2).length)) <|
   (.grd (inb (IntKind.i64.wrap (s.1 - (1 : Int))) ((s.2.2).length)) <|
   (.grd (inb s.1 ((s.2.2).length)) <|
   (.grd (inb s.1 ((s.2.1).length)) <|
   (.br (feq .f32 (nth (List.set s.2.1 (Int.toNat s.1) (fsub .f32 (nth s.2.1 (Int.toNat s.1)) (fmul .f32 (fdiv .f32 (nth v60 (Int.toNat s.1)) (nth s.2.1 (Int.toNat (IntKind.i64.wrap (s.1 - (1 : Int)))))) (nth v62 (Int.toNat (IntKind.i64.wrap (s.1 - (1 : Int)))))))) (Int.toNat s.1)) (0 : Nat)) (
    .leaf (.inr (.inl ()))
   ) (
    .leaf (.inl (IntKind.i64.wrap (s.1 + (1 : Int)), List.set s.2.1 (Int.toNat s.1) (fsub .f32 (nth s.2.1 (Int.toNat s.1)) (fmul .f32 (fdiv .f32 (nth v60 (Int.toNat s.1)) (nth s.2.1 (Int.toNat (IntKind.i64.wrap (s.1 - (1 : Int)))))) (nth v62 (Int.toNat (IntKind.i64.wrap (s.1 - (1 : Int))))))), List.set s.2.2 (Int.toNat s.1) (fsub .f32 (nth s.2.2 (Int.toNat s.1)) (fmul .f32 (fdiv .f32 (nth v60 (Int.toNat s.1)) (nth s.2.1 (Int.toNat (IntKind.i64.wrap (s.1 - (1 : Int)))))) (nth s.2.2 (Int.toNat (IntKind.i64.wrap (s.1 - (1 : Int)))))))))
   )))))))))))
  ) (
   .leaf (.inr (.inr (s.2.1, s.2.2)))
  ))

noncomputable def spec_l07Solve_l0_g (v60 : List Nat) (v62 : List Nat) (v63 : List Nat) (s0 : Int × (List Nat) × (List Nat)) : Option ((Unit) ⊕ ((List Nat) × (List Nat))) := whileM (fun s => (spec_l07Solve_l0_T v60 v62 v63 s).run) s0
def spec_l07Solve_l0_E (v60 : List Nat) (v61 : List Nat) (v62 : List Nat) (v63 : List Nat) (s : Int × (List Nat) × (List Nat)) : Sd := ([.bptr (BR.root 0) [.bslc (BR.root 1) (.f32 v60), .bslc (BR.root 2) (.f32 v61), .bslc (BR.root 3) (.f32 v62)], .top, .top, .top, .top, .top, .int .i64 ((v63.length : Nat) : Int), .own 0 0 ((s.2.1).length), .own 1 0 ((s.2.2).length), .int .i64 s.1, .top, .top, .top, .top, .top, .top, .top, .top, .top, .top, .top, .top, .top, .top, .top, .top, .top, .top, .top, .top, .top, .top, .top, .top, .top, .top, .top, .top, .top, .top, .top, .top, .top, .top, .top, .top, .top, .top, .top, .top, .top, .top, .top, .top, .top, .top, .top, .top, .top, .top, .top, .top, .top, .top, .top, .top, .top, .top, .top, .top, .top, .top, .top, .top, .top, .top, .top, .top, .top, .top, .top, .top, .top, .top, .top, .top, .top, .top, .top, .top, .top, .top, .top, .top, .top, .top, .top, .top, .top, .top, .top, .top, .top, .top, .top, .top, .top, .top, .top, .top, .top, .top, .top, .top, .top, .top, .top, .top, .top, .top, .top, .top, .top, .top, .top, .top, .top, .top, .top], [.row (.f32 s.2.1) 0, .row (.f32 s.2.2) 0])
def spec_l07Solve_l0_X (v60 : List Nat) (v61 : List Nat) (v62 : List Nat) (v63 : List Nat) (x : (Unit) ⊕ ((List Nat) × (List Nat))) : Out := (match x with | .inl x => (.ret, [.top, .top, .top, .top, .nilslc, .lit false, .top, .top, .top, .top, .top, .top, .top, .top, .top, .top, .top, .top, .top, .top, .top, .top, .top, .top, .top, .top, .top, .top, .top, .top, .top, .top, .top, .top, .top, .top, .top, .top, .top, .top, .top, .top, .top, .top, .top, .top, .top, .top, .top, .top, .top, .top, .top, .top, .top, .top, .top, .top, .top, .top, .top, .top, .top, .top, .top, .top, .top, .top, .top, .top, .top, .top, .top, .top, .top, .top, .top, .top, .top, .top, .top, .top, .top, .top, .top, .top, .top, .top, .top, .top, .top, .top, .top, .top, .top, .top, .top, .top, .top, .top, .top, .top, .top, .top, .top, .top, .top, .top, .top, .top, .top, .top, .top, .top, .top, .top, .top, .top, .top, .top, .top, .top, .top, .top, .top, .top, .top, .top, .top], []) | .inr x => (.normal, [.bptr (BR.root 0) [.bslc (BR.root 1) (.f32 v60), .bslc (BR.root 2) (.f32 v61), .bslc (BR.root 3) (.f32 v62)], .top, .top, .top, .top, .top, .int .i64 ((v63.length : Nat) : Int), .own 0 0 ((x.1).length), .own 1 0 ((x.2).length), .top, .top, .top, .top, .top, .top, .top, .top, .top, .top, .top, .top, .top, .top, .top, .top, .top, .top, .top, .top, .top, .top, .top, .top, .top, .top, .top, .top, .top, .top, .top, .top, .top, .top, .top, .top, .top, .top, .top, .top, .top, .top, .top, .top, .top, .top, .top, .top, .top, .top, .top, .top, .top, .top, .top, .top, .top, .top, .top, .top, .top, .top, .top, .top, .top, .top, .top, .top, .top, .top, .top, .top, .top, .top, .top, .top, .top, .top, .top, .top, .top, .top, .top, .top, .top, .top, .top, .top, .top, .top, .top, .top, .top, .top, .top, .top, .top, .top, .top, .top, .top, .top, .top, .top, .top, .top, .top, .top, .top, .top, .top, .top, .top, .top, .top, .top, .top, .top, .top, .top], [.row (.f32 x.1) 0, .row (.f32 x.2) 0]))
def spec_l07Solve_l0_kill : List Nat := [0, 1, 1, 1, 1, 1, 0, 0, 0, 0, 1, 1, 1, 1, 1, 1, 1, 1, 1, 1, 1, 1, 1, 1, 1, 1, 1, 1, 1, 1, 1, 1, 1, 1, 1, 1, 1, 1, 1, 1, 1, 1, 1, 1, 1, 1, 1, 1, 1, 1, 1, 1, 1, 1, 1, 1, 1, 1, 1, 1, 1, 1, 1, 1, 1, 1, 1, 1, 1, 1, 1, 1, 1, 1, 1, 1, 1, 1, 1, 1, 1, 1, 1, 1, 1, 1, 1, 1, 1, 1, 1, 1, 1, 1, 1, 1, 1, 1, 1, 1, 1, 1, 1, 1, 1, 1, 1, 1, 1, 1, 1, 1, 1, 1, 1, 1, 1, 1, 1, 1, 1, 1, 1, 1, 1, 1, 1, 1, 1]
def spec_l07Solve_l0_nx : Exit → List Nat
  | .exit 0 => [0, 1, 1, 1, 1, 1, 0, 0, 0, 1, 1, 1, 1, 1, 1, 1, 1, 1, 1, 1, 1, 1, 1, 1, 1, 1, 1, 1, 1, 1, 1, 1, 1, 1, 1, 1, 1, 1, 1, 1, 1, 1, 1, 1, 1, 1, 1, 1, 1, 1, 1, 1, 1, 1, 1, 1, 1, 1, 1, 1, 1, 1, 1, 1, 1, 1, 1, 1, 1, 1, 1, 1, 1, 1, 1, 1, 1, 1, 1, 1, 1, 1, 1, 1, 1, 1, 1, 1, 1, 1, 1, 1, 1, 1, 1, 1, 1, 1, 1, 1, 1, 1, 1, 1, 1, 1, 1, 1, 1, 1, 1, 1, 1, 1, 1, 1, 1, 1, 1, 1, 1, 1, 1, 1, 1, 1, 1, 1, 1]
  | .ret => [1, 1, 1, 1, 0, 0, 1, 1, 1, 1, 1, 1, 1, 1, 1, 1, 1, 1, 1, 1, 1, 1, 1, 1, 1, 1, 1, 1, 1, 1, 1, 1, 1, 1, 1, 1, 1, 1, 1, 1, 1, 1, 1, 1, 1, 1, 1, 1, 1, 1, 1, 1, 1, 1, 1, 1, 1, 1, 1, 1, 1, 1, 1, 1, 1, 1, 1, 1, 1, 1, 1, 1, 1, 1, 1, 1, 1, 1, 1, 1, 1, 1, 1, 1, 1, 1, 1, 1, 1, 1, 1, 1, 1, 1, 1, 1, 1, 1, 1, 1, 1, 1, 1, 1, 1, 1, 1, 1, 1, 1, 1, 1, 1, 1, 1, 1, 1, 1, 1, 1, 1, 1, 1, 1, 1, 1, 1, 1, 1]
  | _ => []
noncomputable def spec_l07Solve_l2_T (v62 : List Nat) (v63 : List Nat) (v82 : List Nat) (v83 : List Nat) (s : Int × (List Nat)) : Tree ((Int × (List Nat)) ⊕ ((List Nat))) :=
  (.br (decide ((0 : Int) ≤ s.1)) (
   (.grd (inb s.1 ((v83).length)) <|
   (.br (decide (IntKind.i64.wrap (s.1 + (1 : Int)) < ((v63.length : Nat) : Int))) (
    (.grd (inb s.1 v62.length) <|
    (.grd (inb (IntKind.i64.wrap (s.1 + (1 : Int))) ((s.2).length)) <|
    (.grd (inb s.1 ((v82).length)) <|
    (.grd (inb s.1 ((s.2).length)) <|
    .leaf (.inl (IntKind.i64.wrap (s.1 - (1 : Int)), List.set s.2 (Int.toNat s.1) (fdiv .f32 (fsub .f32 (nth v83 (Int.toNat s.1)) (fmul .f32 (nth v62 (Int.toNat s.1)) (nth s.2 (Int.toNat (IntKind.i64.wrap (s.1 + (1 : Int))))))) (nth v82 (Int.toNat s.1)))))))))
   ) (
    (.grd (inb s.1 ((v82).length)) <|
    (.grd (inb s.1 ((s.2).length)) <|
    .leaf (.inl (IntKind.i64.wrap (s.1 - (1 : Int)), List.set s.2 (Int.toNat s.1) (fdiv .f32 (nth v83 (Int.toNat s.1)) (nth v82 (Int.toNat s.1)))))))
   )))
  ) (
   .leaf (.inr s.2)
  ))

noncomputable def spec_l07Solve_l2_g (v62 : List Nat) (v63 : List Nat) (v82 : List Nat) (v83 : List Nat) (s0 : Int × (List Nat)) : Option ((List Nat)) := whileM (fun s => (spec_l07Solve_l2_T v62 v63 v82 v83 s).run) s0
def spec_l07Solve_l2_E (v60 : List Nat) (v61 : List Nat) (v62 : List Nat) (v63 : List Nat) (v82 : List Nat) (v83 : List Nat) (s : Int × (List Nat)) : Sd := ([.bptr (BR.root 0) [.bslc (BR.root 1) (.f32 v60), .bslc (BR.root 2) (.f32 v61), .bslc (BR.root 3) (.f32 v62)], .top, .top, .top, .top, .top, .int .i64 ((v63.length : Nat) : Int), .own 0 0 ((v82).length), .own 1 0 ((v83).length), .top, .top, .own 2 0 ((s.2).length), .int .i64 s.1, .top, .top, .top, .top, .top, .top, .top, .top, .top, .top, .top, .top, .top, .top, .top, .top, .top, .top, .top, .top, .top, .top, .top, .top, .top, .top, .top, .top, .top, .top, .top, .top, .top, .top, .top, .top, .top, .top, .top, .top, .top, .top, .top, .top, .top, .top, .top, .top, .top, .top, .top, .top, .top, .top, .top, .top, .top, .top, .top, .top, .top, .top, .top, .top, .top, .top, .top, .top, .top, .top, .top, .top, .top, .top, .top, .top, .top, .top, .top, .top, .top, .top, .top, .top, .top, .top, .top, .top, .top, .top, .top, .top, .top, .top, .top, .top, .top, .top, .top, .top, .top, .top, .top, .top, .top, .top, .top, .top, .top, .top, .top, .top, .top, .top, .top, .top], [.row (.f32 v82) 0, .row (.f32 v83) 0, .row (.f32 s.2) 0])
def spec_l07Solve_l2_X (v60 : List Nat) (v61 : List Nat) (v62 : List Nat) (v63 : List Nat) (v82 : List Nat) (v83 : List Nat) (x : (List Nat)) : Out := (.normal, [.top, .top, .top, .top, .top, .top, .top, .top, .top, .top, .top, .own 0 0 ((x).length), .top, .top, .top, .top, .top, .top, .top, .top, .top, .top, .top, .top, .top, .top, .top, .top, .top, .top, .top, .top, .top, .top, .top, .top, .top, .top, .top, .top, .top, .top, .top, .top, .top, .top, .top, .top, .top, .top, .top, .top, .top, .top, .top, .top, .top, .top, .top, .top, .top, .top, .top, .top, .top, .top, .top, .top, .top, .top, .top, .top, .top, .top, .top, .top, .top, .top, .top, .top, .top, .top, .top, .top, .top, .top, .top, .top, .top, .top, .top, .top, .top, .top, .top, .top, .top, .top, .top, .top, .top, .top, .top, .top, .top, .top, .top, .top, .top, .top, .top, .top, .top, .top, .top, .top, .top, .top, .top, .top, .top, .top, .top, .top, .top, .top, .top, .top, .top], [.row (.f32 x) 0])
def spec_l07Solve_l2_kill : List Nat := [0, 1, 1, 1, 1, 1, 0, 0, 0, 1, 1, 0, 0, 1, 1, 1, 1, 1, 1, 1, 1, 1, 1, 1, 1, 1, 1, 1, 1, 1, 1, 1, 1, 1, 1, 1, 1, 1, 1, 1, 1, 1, 1, 1, 1, 1, 1, 1, 1, 1, 1, 1, 1, 1, 1, 1, 1, 1, 1, 1, 1, 1, 1, 1, 1, 1, 1, 1, 1, 1, 1, 1, 1, 1, 1, 1, 1, 1, 1, 1, 1, 1, 1, 1, 1, 1, 1, 1, 1, 1, 1, 1, 1, 1, 1, 1, 1, 1, 1, 1, 1, 1, 1, 1, 1, 1, 1, 1, 1, 1, 1, 1, 1, 1, 1, 1, 1, 1, 1, 1, 1, 1, 1, 1, 1, 1, 1, 1, 1]
def spec_l07Solve_l2_nx : Exit → List Nat
  | .exit 2 => [1, 1, 1, 1, 1, 1, 1, 1, 1, 1, 1, 0, 1, 1, 1, 1, 1, 1, 1, 1, 1, 1, 1, 1, 1, 1, 1, 1, 1, 1, 1, 1, 1, 1, 1, 1, 1, 1, 1, 1, 1, 1, 1, 1, 1, 1, 1, 1, 1, 1, 1, 1, 1, 1, 1, 1, 1, 1, 1, 1, 1, 1, 1, 1, 1, 1, 1, 1, 1, 1, 1, 1, 1, 1, 1, 1, 1, 1, 1, 1, 1, 1, 1, 1, 1, 1, 1, 1, 1, 1, 1, 1, 1, 1, 1, 1, 1, 1, 1, 1, 1, 1, 1, 1, 1, 1, 1, 1, 1, 1, 1, 1, 1, 1, 1, 1, 1, 1, 1, 1, 1, 1, 1, 1, 1, 1, 1, 1, 1]
  | .ret => [1, 1, 1, 1, 0, 0, 1, 1, 1, 1, 1, 1, 1, 1, 1, 1, 1, 1, 1, 1, 1, 1, 1, 1, 1, 1, 1, 1, 1, 1, 1, 1, 1, 1, 1, 1, 1, 1, 1, 1, 1, 1, 1, 1, 1, 1, 1, 1, 1, 1, 1, 1, 1, 1, 1, 1, 1, 1, 1, 1, 1, 1, 1, 1, 1, 1, 1, 1, 1, 1, 1, 1, 1, 1, 1, 1, 1, 1, 1, 1, 1, 1, 1, 1, 1, 1, 1, 1, 1, 1, 1, 1, 1, 1, 1, 1, 1, 1, 1, 1, 1, 1, 1, 1, 1, 1, 1, 1, 1, 1, 1, 1, 1, 1, 1, 1, 1, 1, 1, 1, 1, 1, 1, 1, 1, 1, 1, 1, 1]
  | _ => []
noncomputable def spec_l07Solve_LO (v60 : List Nat) (v61 : List Nat) (v62 : List Nat) (v63 : List Nat) : LOr := fun id e L =>
  match id with
  | 0 => .need (normA 0 spec_l07Solve_l0_kill e L = some (spec_l07Solve_l0_E v60 v61 v62 v63 ((gI (vAt e 9)), (gRF L (vAt e 7)), (gRF L (vAt e 8))))) (.call (spec_l07Solve_l0_g v60 v62 v63 ((gI (vAt e 9)), (gRF L (vAt e 7)), (gRF L (vAt e 8)))) fun x => .sum x (fun b0 => .leaf (spec_l07Solve_l0_X v60 v61 v62 v63 (.inl b0))) (fun c0 => .leaf (spec_l07Solve_l0_X v60 v61 v62 v63 (.inr c0))))
  | 2 => .need (normA 0 spec_l07Solve_l2_kill e L = some (spec_l07Solve_l2_E v60 v61 v62 v63 (gRF L (vAt e 7)) (gRF L (vAt e 8)) ((gI (vAt e 12)), (gRF L (vAt e 11))))) (.call (spec_l07Solve_l2_g v62 v63 (gRF L (vAt e 7)) (gRF L (vAt e 8)) ((gI (vAt e 12)), (gRF L (vAt e 11)))) fun x => .leaf (spec_l07Solve_l2_X v60 v61 v62 v63 (gRF L (vAt e 7)) (gRF L (vAt e 8)) x))
  | _ => .fail
noncomputable def spec_l07Solve_tab : List (FuncId × DFn × Bool) := [(90, spec_l02List_F, true)]
theorem spec_l07Solve_hO : OrcOk Try.prog (tabD spec_l07Solve_tab) (tabM spec_l07Solve_tab) := tabD_cons spec_l02List_Fok (tabD_nil _)
theorem spec_l07Solve_l0_be (v60 : List Nat) (v61 : List Nat) (v62 : List Nat) (v63 : List Nat) (s : Int × (List Nat) × (List Nat)) : bodyT TT (tabD spec_l07Solve_tab) (tabM spec_l07Solve_tab) (spec_l07Solve_LO v60 v61 v62 v63) 0 spec_l07Solve_l0_kill spec_l07Solve_l0_nx (bodyOf Try.f153 0) 0 (spec_l07Solve_l0_E v60 v61 v62 v63 s) = (spec_l07Solve_l0_T v60 v62 v63 s).bind fun y => .leaf (outS (spec_l07Solve_l0_E v60 v61 v62 v63) (spec_l07Solve_l0_X v60 v61 v62 v63) y) := by kernel_rfl
theorem spec_l07Solve_l0_ok (v60 : List Nat) (v61 : List Nat) (v62 : List Nat) (v63 : List Nat) : LSound Try.prog 0 (spec_l07Solve_LO v60 v61 v62 v63) 0 (bodyOf Try.f153 0) := by
  intro e L out h
  exact lo_ok (E := spec_l07Solve_l0_E v60 v61 v62 v63) (gT := spec_l07Solve_l0_T v60 v62 v63) (X := spec_l07Solve_l0_X v60 v61 v62 v63) (s0 := ((gI (vAt e 9)), (gRF L (vAt e 7)), (gRF L (vAt e 8)))) tok spec_l07Solve_hO mixed (LoopsOk_eq (l := []) (by kernel_rfl) trivial) (spec_l07Solve_l0_be v60 v61 v62 v63) rfl (by intro x; (cases x with | inl b => rfl | inr x => exact rfl)) h
theorem spec_l07Solve_l2_be (v60 : List Nat) (v61 : List Nat) (v62 : List Nat) (v63 : List Nat) (v82 : List Nat) (v83 : List Nat) (s : Int × (List Nat)) : bodyT TT (tabD spec_l07Solve_tab) (tabM spec_l07Solve_tab) (spec_l07Solve_LO v60 v61 v62 v63) 0 spec_l07Solve_l2_kill spec_l07Solve_l2_nx (bodyOf Try.f153 2) 2 (spec_l07Solve_l2_E v60 v61 v62 v63 v82 v83 s) = (spec_l07Solve_l2_T v62 v63 v82 v83 s).bind fun y => .leaf (outS (spec_l07Solve_l2_E v60 v61 v62 v63 v82 v83) (spec_l07Solve_l2_X v60 v61 v62 v63 v82 v83) y) := by kernel_rfl
theorem spec_l07Solve_l2_ok (v60 : List Nat) (v61 : List Nat) (v62 : List Nat) (v63 : List Nat) : LSound Try.prog 0 (spec_l07Solve_LO v60 v61 v62 v63) 2 (bodyOf Try.f153 2) := by
  intro e L out h
  exact lo_ok (E := spec_l07Solve_l2_E v60 v61 v62 v63 (gRF L (vAt e 7)) (gRF L (vAt e 8))) (gT := spec_l07Solve_l2_T v62 v63 (gRF L (vAt e 7)) (gRF L (vAt e 8))) (X := spec_l07Solve_l2_X v60 v61 v62 v63 (gRF L (vAt e 7)) (gRF L (vAt e 8))) (s0 := ((gI (vAt e 12)), (gRF L (vAt e 11)))) tok spec_l07Solve_hO mixed (LoopsOk_eq (l := []) (by kernel_rfl) trivial) (spec_l07Solve_l2_be v60 v61 v62 v63 (gRF L (vAt e 7)) (gRF L (vAt e 8))) rfl (by intro x; rfl) h
noncomputable def spec_l07Solve_T (v60 : List Nat) (v61 : List Nat) (v62 : List Nat) (v63 : List Nat) : Tree ((Unit) ⊕ ((List Nat))) :=
  (.grd (fits (([] : List Nat) ++ v61).length) <|
  (.grd (fits (([] : List Nat) ++ v63).length) <|
  (.grd (inb (0 : Int) ((([] : List Nat) ++ v61).length)) <|
  (.br (feq .f32 (nth (([] : List Nat) ++ v61) (Int.toNat (0 : Int))) (0 : Nat)) (
   .leaf (.inl ())
  ) (
   (.need (some (spec_l07Solve_l0_E v60 v61 v62 v63 ((1 : Int), ([] : List Nat) ++ v61, ([] : List Nat) ++ v63)) = some (spec_l07Solve_l0_E v60 v61 v62 v63 ((1 : Int), ([] : List Nat) ++ v61, ([] : List Nat) ++ v63))) <|
   (.call (spec_l07Solve_l0_g v60 v62 v63 ((1 : Int), ([] : List Nat) ++ v61, ([] : List Nat) ++ v63)) fun v71 =>
   (.sum v71 (fun v72 =>
    .leaf (.inl ())
   ) (fun v73 =>
    (.need (((v63.length : Nat) : Int) = ((v63.length : Nat) : Int)) <|
    (.grd (inb ((v63.length : Nat) : Int) (maxN + 1)) <|
    (.need (some (spec_l07Solve_l2_E v60 v61 v62 v63 v73.1 v73.2 (IntKind.i64.wrap (((v63.length : Nat) : Int) - (1 : Int)), List.replicate (Int.toNat ((v63.length : Nat) : Int)) (0 : Nat))) = some (spec_l07Solve_l2_E v60 v61 v62 v63 v73.1 v73.2 (IntKind.i64.wrap (((v63.length : Nat) : Int) - (1 : Int)), List.replicate (Int.toNat ((v63.length : Nat) : Int)) (0 : Nat)))) <|
    (.call (spec_l07Solve_l2_g v62 v63 v73.1 v73.2 (IntKind.i64.wrap (((v63.length : Nat) : Int) - (1 : Int)), List.replicate (Int.toNat ((v63.length : Nat) : Int)) (0 : Nat))) fun v85 =>
    (.call (spec_l02List_g v85) fun v88 =>
    (.sum v88 (fun v89 =>
     .leaf (.inl ())
    ) (fun v90 =>
     .leaf (.inr v85)
    )))))))
   ))))
  )))))

noncomputable def spec_l07Solve_g (v60 : List Nat) (v61 : List Nat) (v62 : List Nat) (v63 : List Nat) : Option ((Unit) ⊕ ((List Nat))) := (spec_l07Solve_T v60 v61 v62 v63).run
def spec_l07Solve_enc (v60 : List Nat) (v61 : List Nat) (v62 : List Nat) (v63 : List Nat) (y : (Unit) ⊕ ((List Nat))) : Rs := (match y with | .inl y => (.tup [.nilslc, .lit false], []) | .inr y => (.tup [.own 0 0 ((y).length), .lit true], [.row (.f32 y) 0]))
theorem spec_l07Solve_den (v60 : List Nat) (v61 : List Nat) (v62 : List Nat) (v63 : List Nat) : (den TT (tabD spec_l07Solve_tab) (tabM spec_l07Solve_tab) (spec_l07Solve_LO v60 v61 v62 v63) (codeOf Try.f153) ([.bptr (BR.root 0) [.bslc (BR.root 1) (.f32 v60), .bslc (BR.root 2) (.f32 v61), .bslc (BR.root 3) (.f32 v62)], .bslc (BR.root 4) (.f32 v63)] ++ List.replicate (Try.f153.ntmps - ([.bptr (BR.root 0) [.bslc (BR.root 1) (.f32 v60), .bslc (BR.root 2) (.f32 v61), .bslc (BR.root 3) (.f32 v62)], .bslc (BR.root 4) (.f32 v63)] : List DV).length) .undef) []).bind (retD TT Try.f153.results.toList 0) = (spec_l07Solve_T v60 v61 v62 v63).bind fun y => .leaf (spec_l07Solve_enc v60 v61 v62 v63 y) := by kernel_rfl
theorem spec_l07Solve_fn (v60 : List Nat) (v61 : List Nat) (v62 : List Nat) (v63 : List Nat) (F : Fr) (hm : F.ids.length = 0) (h0 : St F [] F.H0) (hA : DVs.Ok F [] [.bptr (BR.root 0) [.bslc (BR.root 1) (.f32 v60), .bslc (BR.root 2) (.f32 v61), .bslc (BR.root 3) (.f32 v62)], .bslc (BR.root 4) (.f32 v63)]) {y : (Unit) ⊕ ((List Nat))} (hy : spec_l07Solve_g v60 v61 v62 v63 = some y) : ∃ H', FnOk Try.prog 153 (DVs.av F [.bptr (BR.root 0) [.bslc (BR.root 1) (.f32 v60), .bslc (BR.root 2) (.f32 v61), .bslc (BR.root 3) (.f32 v62)], .bslc (BR.root 4) (.f32 v63)]) F.H0 ((spec_l07Solve_enc v60 v61 v62 v63 y).1.av F) H' ∧ St F (spec_l07Solve_enc v60 v61 v62 v63 y).2 H' ∧ (spec_l07Solve_enc v60 v61 v62 v63 y).1.Ok F (spec_l07Solve_enc v60 v61 v62 v63 y).2 :=
  fn_fin tok spec_l07Solve_hO mixed Try.func153 Try.call153 (by kernel_rfl) (LoopsOk_eq (l := [(0, bodyOf Try.f153 0), (2, bodyOf Try.f153 2)]) (by kernel_rfl) ⟨spec_l07Solve_l0_ok v60 v61 v62 v63, spec_l07Solve_l2_ok v60 v61 v62 v63, trivial⟩) (spec_l07Solve_den v60 v61 v62 v63) hy hm h0 hA
noncomputable def spec_l07Solve_F : DFn := fun args L =>
  match args with
  | [a1, a5] =>
    optT (cellsOf L 3 a1) fun cs0 =>
    (match cs0 with
    | [a2, a3, a4] =>
    optT (rowF32 L a2) fun v60 =>
    optT (rowF32 L a3) fun v61 =>
    optT (rowF32 L a4) fun v62 =>
    optT (rowF32 L a5) fun v63 =>
    .call (spec_l07Solve_g v60 v61 v62 v63) fun y => .sum y (fun y0 => .leaf (.tup [.nilslc, .lit false], L)) (fun z0 => .leaf (.tup [.own (L.length + 0) 0 ((z0).length), .lit true], L ++ [.row (.f32 z0) 0]))
    | _ => .fail)
  | _ => .fail
theorem spec_l07Solve_Fok : COk Try.prog 153 spec_l07Solve_F true := by
  intro F L H args r L' hs ha hr
  unfold spec_l07Solve_F at hr
  split at hr
  · rename_i a1 a5
    obtain ⟨cs0, hcp0, hr⟩ := optT_run hr
    split at hr
    · rename_i a2 a3 a4
      obtain ⟨v60, hv60, hr⟩ := optT_run hr
      obtain ⟨v61, hv61, hr⟩ := optT_run hr
      obtain ⟨v62, hv62, hr⟩ := optT_run hr
      obtain ⟨v63, hv63, hr⟩ := optT_run hr
      simp only [Tree.run] at hr
      obtain ⟨y, hy, hr⟩ := Option.bind_eq_some_iff.1 hr
      cases y with
      | inl y =>
        simp only [Tree.run, Option.some.injEq, Prod.mk.injEq] at hr
        obtain ⟨rfl, rfl⟩ := hr
        exact call_ok0 hs (fun k => (([a1.av F, a2.av F, a3.av F, a4.av F, a5.av F] : List AV)[k]?).getD .top) [a1, a5] [.bptr (BR.root 0) [.bslc (BR.root 1) (.f32 v60), .bslc (BR.root 2) (.f32 v61), .bslc (BR.root 3) (.f32 v62)], .bslc (BR.root 4) (.f32 v63)] (fun F' h0 hi hρ => ⟨by simp [DVs.av, DV.av, BR.av, hρ], spec_l07Solve_fn v60 v61 v62 v63 F' (by rw [hi]; rfl) (st_nil hi) ⟨bptr_ok hi (by rw [h0]; simpa [DVs.av, DV.av, BR.av, hρ] using (cellsOf_ok hs (DVs.okAt ha 0 rfl) hcp0).1) ⟨bslc_ok hi (by rw [h0, hρ]; exact rowF32_ok hs (DVs.okAt (cellsOf_ok hs (DVs.okAt ha 0 rfl) hcp0).2 0 rfl) hv60), bslc_ok hi (by rw [h0, hρ]; exact rowF32_ok hs (DVs.okAt (cellsOf_ok hs (DVs.okAt ha 0 rfl) hcp0).2 1 rfl) hv61), bslc_ok hi (by rw [h0, hρ]; exact rowF32_ok hs (DVs.okAt (cellsOf_ok hs (DVs.okAt ha 0 rfl) hcp0).2 2 rfl) hv62), trivial⟩, bslc_ok hi (by rw [h0, hρ]; exact rowF32_ok hs (DVs.okAt ha 1 rfl) hv63), trivial⟩ hy⟩) rfl
      | inr y =>
        simp only [Tree.run, Option.some.injEq, Prod.mk.injEq] at hr
        obtain ⟨rfl, rfl⟩ := hr
        exact call_ok1 hs (fun k => (([a1.av F, a2.av F, a3.av F, a4.av F, a5.av F] : List AV)[k]?).getD .top) [a1, a5] [.bptr (BR.root 0) [.bslc (BR.root 1) (.f32 v60), .bslc (BR.root 2) (.f32 v61), .bslc (BR.root 3) (.f32 v62)], .bslc (BR.root 4) (.f32 v63)] (fun F' h0 hi hρ => ⟨by simp [DVs.av, DV.av, BR.av, hρ], spec_l07Solve_fn v60 v61 v62 v63 F' (by rw [hi]; rfl) (st_nil hi) ⟨bptr_ok hi (by rw [h0]; simpa [DVs.av, DV.av, BR.av, hρ] using (cellsOf_ok hs (DVs.okAt ha 0 rfl) hcp0).1) ⟨bslc_ok hi (by rw [h0, hρ]; exact rowF32_ok hs (DVs.okAt (cellsOf_ok hs (DVs.okAt ha 0 rfl) hcp0).2 0 rfl) hv60), bslc_ok hi (by rw [h0, hρ]; exact rowF32_ok hs (DVs.okAt (cellsOf_ok hs (DVs.okAt ha 0 rfl) hcp0).2 1 rfl) hv61), bslc_ok hi (by rw [h0, hρ]; exact rowF32_ok hs (DVs.okAt (cellsOf_ok hs (DVs.okAt ha 0 rfl) hcp0).2 2 rfl) hv62), trivial⟩, bslc_ok hi (by rw [h0, hρ]; exact rowF32_ok hs (DVs.okAt ha 1 rfl) hv63), trivial⟩ hy⟩) rfl rfl
    · cases hr
  · cases hr
/-! spec.ThirdsSolve -/
noncomputable def spec_ThirdsSolve_LO (v55 : List Nat) (v56 : List Nat) (v57 : List Nat) (v58 : List Nat) : LOr := fun id e L =>
  match id with
  | _ => .fail
noncomputable def spec_ThirdsSolve_tab : List (FuncId × DFn × Bool) := [(102, spec_l07Fits_F, true), (153, spec_l07Solve_F, true)]
theorem spec_ThirdsSolve_hO : OrcOk Try.prog (tabD spec_ThirdsSolve_tab) (tabM spec_ThirdsSolve_tab) := tabD_cons spec_l07Fits_Fok (tabD_cons spec_l07Solve_Fok (tabD_nil _))
noncomputable def spec_ThirdsSolve_T (v55 : List Nat) (v56 : List Nat) (v57 : List Nat) (v58 : List Nat) : Tree ((Unit) ⊕ ((List Nat))) :=
  (.call (spec_l07Fits_g v55 v56 v57 v58) fun v59 =>
  (.br (!v59) (
   .leaf (.inl ())
  ) (
   (.call (spec_l07Solve_g v55 v56 v57 v58) fun v91 =>
   (.sum v91 (fun v92 =>
    .leaf (.inl ())
   ) (fun v93 =>
    .leaf (.inr v93)
   )))
  )))

noncomputable def spec_ThirdsSolve_g (v55 : List Nat) (v56 : List Nat) (v57 : List Nat) (v58 : List Nat) : Option ((Unit) ⊕ ((List Nat))) := (spec_ThirdsSolve_T v55 v56 v57 v58).run
def spec_ThirdsSolve_enc (v55 : List Nat) (v56 : List Nat) (v57 : List Nat) (v58 : List Nat) (y : (Unit) ⊕ ((List Nat))) : Rs := (match y with | .inl y => (.tup [.nilslc, .lit false], []) | .inr y => (.tup [.own 0 0 ((y).length), .lit true], [.row (.f32 y) 0]))
theorem spec_ThirdsSolve_den (v55 : List Nat) (v56 : List Nat) (v57 : List Nat) (v58 : List Nat) : (den TT (tabD spec_ThirdsSolve_tab) (tabM spec_ThirdsSolve_tab) (spec_ThirdsSolve_LO v55 v56 v57 v58) (codeOf Try.f103) ([.agg [.bslc (BR.root 0) (.f32 v55), .bslc (BR.root 1) (.f32 v56), .bslc (BR.root 2) (.f32 v57)], .bslc (BR.root 3) (.f32 v58)] ++ List.replicate (Try.f103.ntmps - ([.agg [.bslc (BR.root 0) (.f32 v55), .bslc (BR.root 1) (.f32 v56), .bslc (BR.root 2) (.f32 v57)], .bslc (BR.root 3) (.f32 v58)] : List DV).length) .undef) []).bind (retD TT Try.f103.results.toList 0) = (spec_ThirdsSolve_T v55 v56 v57 v58).bind fun y => .leaf (spec_ThirdsSolve_enc v55 v56 v57 v58 y) := by kernel_rfl
theorem spec_ThirdsSolve_fn (v55 : List Nat) (v56 : List Nat) (v57 : List Nat) (v58 : List Nat) (F : Fr) (hm : F.ids.length = 0) (h0 : St F [] F.H0) (hA : DVs.Ok F [] [.agg [.bslc (BR.root 0) (.f32 v55), .bslc (BR.root 1) (.f32 v56), .bslc (BR.root 2) (.f32 v57)], .bslc (BR.root 3) (.f32 v58)]) {y : (Unit) ⊕ ((List Nat))} (hy : spec_ThirdsSolve_g v55 v56 v57 v58 = some y) : ∃ H', FnOk Try.prog 103 (DVs.av F [.agg [.bslc (BR.root 0) (.f32 v55), .bslc (BR.root 1) (.f32 v56), .bslc (BR.root 2) (.f32 v57)], .bslc (BR.root 3) (.f32 v58)]) F.H0 ((spec_ThirdsSolve_enc v55 v56 v57 v58 y).1.av F) H' ∧ St F (spec_ThirdsSolve_enc v55 v56 v57 v58 y).2 H' ∧ (spec_ThirdsSolve_enc v55 v56 v57 v58 y).1.Ok F (spec_ThirdsSolve_enc v55 v56 v57 v58 y).2 :=
  fn_fin tok spec_ThirdsSolve_hO mixed Try.func103 Try.call103 (by kernel_rfl) (LoopsOk_eq (l := []) (by kernel_rfl) trivial) (spec_ThirdsSolve_den v55 v56 v57 v58) hy hm h0 hA
noncomputable def spec_ThirdsSolve_F : DFn := fun args L =>
  match args with
  | [.agg [a1, a2, a3], a4] =>
    optT (rowF32 L a1) fun v55 =>
    optT (rowF32 L a2) fun v56 =>
    optT (rowF32 L a3) fun v57 =>
    optT (rowF32 L a4) fun v58 =>
    .call (spec_ThirdsSolve_g v55 v56 v57 v58) fun y => .sum y (fun y0 => .leaf (.tup [.nilslc, .lit false], L)) (fun z0 => .leaf (.tup [.own (L.length + 0) 0 ((z0).length), .lit true], L ++ [.row (.f32 z0) 0]))
  | _ => .fail
theorem spec_ThirdsSolve_Fok : COk Try.prog 103 spec_ThirdsSolve_F true := by
  intro F L H args r L' hs ha hr
  unfold spec_ThirdsSolve_F at hr
  split at hr
  · rename_i a1 a2 a3 a4
    obtain ⟨v55, hv55, hr⟩ := optT_run hr
    obtain ⟨v56, hv56, hr⟩ := optT_run hr
    obtain ⟨v57, hv57, hr⟩ := optT_run hr
    obtain ⟨v58, hv58, hr⟩ := optT_run hr
    simp only [Tree.run] at hr
    obtain ⟨y, hy, hr⟩ := Option.bind_eq_some_iff.1 hr
    cases y with
    | inl y =>
      simp only [Tree.run, Option.some.injEq, Prod.mk.injEq] at hr
      obtain ⟨rfl, rfl⟩ := hr
      exact call_ok0 hs (fun k => (([a1.av F, a2.av F, a3.av F, a4.av F] : List AV)[k]?).getD .top) [.agg [a1, a2, a3], a4] [.agg [.bslc (BR.root 0) (.f32 v55), .bslc (BR.root 1) (.f32 v56), .bslc (BR.root 2) (.f32 v57)], .bslc (BR.root 3) (.f32 v58)] (fun F' h0 hi hρ => ⟨by simp [DVs.av, DV.av, BR.av, hρ], spec_ThirdsSolve_fn v55 v56 v57 v58 F' (by rw [hi]; rfl) (st_nil hi) ⟨⟨bslc_ok hi (by rw [h0, hρ]; exact rowF32_ok hs (DVs.okAt (DVs.okAt ha 0 rfl) 0 rfl) hv55), bslc_ok hi (by rw [h0, hρ]; exact rowF32_ok hs (DVs.okAt (DVs.okAt ha 0 rfl) 1 rfl) hv56), bslc_ok hi (by rw [h0, hρ]; exact rowF32_ok hs (DVs.okAt (DVs.okAt ha 0 rfl) 2 rfl) hv57), trivial⟩, bslc_ok hi (by rw [h0, hρ]; exact rowF32_ok hs (DVs.okAt ha 1 rfl) hv58), trivial⟩ hy⟩) rfl
    | inr y =>
      simp only [Tree.run, Option.some.injEq, Prod.mk.injEq] at hr
      obtain ⟨rfl, rfl⟩ := hr
      exact call_ok1 hs (fun k => (([a1.av F, a2.av F, a3.av F, a4.av F] : List AV)[k]?).getD .top) [.agg [a1, a2, a3], a4] [.agg [.bslc (BR.root 0) (.f32 v55), .bslc (BR.root 1) (.f32 v56), .bslc (BR.root 2) (.f32 v57)], .bslc (BR.root 3) (.f32 v58)] (fun F' h0 hi hρ => ⟨by simp [DVs.av, DV.av, BR.av, hρ], spec_ThirdsSolve_fn v55 v56 v57 v58 F' (by rw [hi]; rfl) (st_nil hi) ⟨⟨bslc_ok hi (by rw [h0, hρ]; exact rowF32_ok hs (DVs.okAt (DVs.okAt ha 0 rfl) 0 rfl) hv55), bslc_ok hi (by rw [h0, hρ]; exact rowF32_ok hs (DVs.okAt (DVs.okAt ha 0 rfl) 1 rfl) hv56), bslc_ok hi (by rw [h0, hρ]; exact rowF32_ok hs (DVs.okAt (DVs.okAt ha 0 rfl) 2 rfl) hv57), trivial⟩, bslc_ok hi (by rw [h0, hρ]; exact rowF32_ok hs (DVs.okAt ha 1 rfl) hv58), trivial⟩ hy⟩) rfl rfl
  · cases hr
/-! spec.ThirdsRing -/
noncomputable def spec_ThirdsRing_l0_T (v114 : Nat) (v115 : Int) (v117 : List Nat) (v118 : List Nat) (s : Int × (List Nat)) : Tree ((Int × (List Nat)) ⊕ ((List Nat))) :=
  (.br (decide (s.1 < v115)) (
   (.grd (inb s.1 ((v117).length)) <|
   (.grd (inb s.1 ((v118).length)) <|
   (.grd (fits (s.2 ++ ([fsub .f32 (nth v117 (Int.toNat s.1)) (fmul .f32 v114 (nth v118 (Int.toNat s.1)))] : List Nat)).length) <|
   .leaf (.inl (IntKind.i64.wrap (s.1 + (1 : Int)), s.2 ++ ([fsub .f32 (nth v117 (Int.toNat s.1)) (fmul .f32 v114 (nth v118 (Int.toNat s.1)))] : List Nat))))))
  ) (
   .leaf (.inr s.2)
  ))

noncomputable def spec_ThirdsRing_l0_g (v114 : Nat) (v115 : Int) (v117 : List Nat) (v118 : List Nat) (s0 : Int × (List Nat)) : Option ((List Nat)) := whileM (fun s => (spec_ThirdsRing_l0_T v114 v115 v117 v118 s).run) s0
def spec_ThirdsRing_l0_E (v28 : List Nat) (v29 : List Nat) (v30 : List Nat) (v31 : Nat) (v32 : Nat) (v33 : List Nat) (v114 : Nat) (v115 : Int) (v117 : List Nat) (v118 : List Nat) (s : Int × (List Nat)) : Sd := ([.top, .top, .top, .top, .top, .top, .top, .top, .top, .top, .top, .top, .top, .top, .top, .own 0 0 ((v117).length), .top, .own 1 0 ((v118).length), .top, .flt .f32 v114, .own 2 0 ((s.2).length), .top, .top, .top, .top, .top, .top, .top, .top, .top, .top, .top, .top, .top, .top, .top, .top, .top, .top, .top, .top, .top, .top, .top, .top, .top, .top, .top, .top, .top, .top, .top, .top, .top, .top, .top, .top, .top, .top, .top, .top, .top, .top, .top, .top, .top, .top, .top, .top, .top, .top, .top, .top, .top, .top, .top, .top, .top, .top, .top, .top, .top, .top, .top, .top, .top, .top, .top, .top, .top, .top, .top, .top, .top, .top, .top, .top, .top, .top, .top, .top, .top, .top, .top, .top, .top, .top, .top, .top, .top, .top, .top, .top, .top, .top, .top, .top, .top, .top, .top, .top, .top, .top, .top, .top, .top, .top, .top, .top, .top, .top, .top, .top, .top, .top, .top, .top, .top, .top, .top, .top, .top, .top, .int .i64 v115, .int .i64 s.1, .top, .top, .top, .top, .top, .top, .top, .top, .top, .top, .top, .top, .top, .top, .top, .top, .top, .top, .top, .top, .top], [.row (.f32 v117) 0, .row (.f32 v118) 0, .row (.f32 s.2) 0])
def spec_ThirdsRing_l0_X (v28 : List Nat) (v29 : List Nat) (v30 : List Nat) (v31 : Nat) (v32 : Nat) (v33 : List Nat) (v114 : Nat) (v115 : Int) (v117 : List Nat) (v118 : List Nat) (x : (List Nat)) : Out := (.normal, [.top, .top, .top, .top, .top, .top, .top, .top, .top, .top, .top, .top, .top, .top, .top, .top, .top, .top, .top, .top, .own 0 0 ((x).length), .top, .top, .top, .top, .top, .top, .top, .top, .top, .top, .top, .top, .top, .top, .top, .top, .top, .top, .top, .top, .top, .top, .top, .top, .top, .top, .top, .top, .top, .top, .top, .top, .top, .top, .top, .top, .top, .top, .top, .top, .top, .top, .top, .top, .top, .top, .top, .top, .top, .top, .top, .top, .top, .top, .top, .top, .top, .top, .top, .top, .top, .top, .top, .top, .top, .top, .top, .top, .top, .top, .top, .top, .top, .top, .top, .top, .top, .top, .top, .top, .top, .top, .top, .top, .top, .top, .top, .top, .top, .top, .top, .top, .top, .top, .top, .top, .top, .top, .top, .top, .top, .top, .top, .top, .top, .top, .top, .top, .top, .top, .top, .top, .top, .top, .top, .top, .top, .top, .top, .top, .top, .top, .top, .top, .top, .top, .top, .top, .top, .top, .top, .top, .top, .top, .top, .top, .top, .top, .top, .top, .top, .top, .top, .top, .top], [.row (.f32 x) 0])
def spec_ThirdsRing_l0_kill : List Nat := [1, 1, 1, 1, 1, 1, 1, 1, 1, 1, 1, 1, 1, 1, 1, 0, 1, 0, 1, 0, 0, 1, 1, 1, 1, 1, 1, 1, 1, 1, 1, 1, 1, 1, 1, 1, 1, 1, 1, 1, 1, 1, 1, 1, 1, 1, 1, 1, 1, 1, 1, 1, 1, 1, 1, 1, 1, 1, 1, 1, 1, 1, 1, 1, 1, 1, 1, 1, 1, 1, 1, 1, 1, 1, 1, 1, 1, 1, 1, 1, 1, 1, 1, 1, 1, 1, 1, 1, 1, 1, 1, 1, 1, 1, 1, 1, 1, 1, 1, 1, 1, 1, 1, 1, 1, 1, 1, 1, 1, 1, 1, 1, 1, 1, 1, 1, 1, 1, 1, 1, 1, 1, 1, 1, 1, 1, 1, 1, 1, 1, 1, 1, 1, 1, 1, 1, 1, 1, 1, 1, 1, 1, 1, 0, 0, 1, 1, 1, 1, 1, 1, 1, 1, 1, 1, 1, 1, 1, 1, 1, 1, 1, 1, 1, 1, 1]
def spec_ThirdsRing_l0_nx : Exit → List Nat
  | .exit 0 => [1, 1, 1, 1, 1, 1, 1, 1, 1, 1, 1, 1, 1, 1, 1, 1, 1, 1, 1, 1, 0, 1, 1, 1, 1, 1, 1, 1, 1, 1, 1, 1, 1, 1, 1, 1, 1, 1, 1, 1, 1, 1, 1, 1, 1, 1, 1, 1, 1, 1, 1, 1, 1, 1, 1, 1, 1, 1, 1, 1, 1, 1, 1, 1, 1, 1, 1, 1, 1, 1, 1, 1, 1, 1, 1, 1, 1, 1, 1, 1, 1, 1, 1, 1, 1, 1, 1, 1, 1, 1, 1, 1, 1, 1, 1, 1, 1, 1, 1, 1, 1, 1, 1, 1, 1, 1, 1, 1, 1, 1, 1, 1, 1, 1, 1, 1, 1, 1, 1, 1, 1, 1, 1, 1, 1, 1, 1, 1, 1, 1, 1, 1, 1, 1, 1, 1, 1, 1, 1, 1, 1, 1, 1, 1, 1, 1, 1, 1, 1, 1, 1, 1, 1, 1, 1, 1, 1, 1, 1, 1, 1, 1, 1, 1, 1, 1]
  | .ret => [1, 1, 1, 1, 1, 1, 1, 1, 0, 0, 1, 1, 1, 1, 1, 1, 1, 1, 1, 1, 1, 1, 1, 1, 1, 1, 1, 1, 1, 1, 1, 1, 1, 1, 1, 1, 1, 1, 1, 1, 1, 1, 1, 1, 1, 1, 1, 1, 1, 1, 1, 1, 1, 1, 1, 1, 1, 1, 1, 1, 1, 1, 1, 1, 1, 1, 1, 1, 1, 1, 1, 1, 1, 1, 1, 1, 1, 1, 1, 1, 1, 1, 1, 1, 1, 1, 1, 1, 1, 1, 1, 1, 1, 1, 1, 1, 1, 1, 1, 1, 1, 1, 1, 1, 1, 1, 1, 1, 1, 1, 1, 1, 1, 1, 1, 1, 1, 1, 1, 1, 1, 1, 1, 1, 1, 1, 1, 1, 1, 1, 1, 1, 1, 1, 1, 1, 1, 1, 1, 1, 1, 1, 1, 1, 1, 1, 1, 1, 1, 1, 1, 1, 1, 1, 1, 1, 1, 1, 1, 1, 1, 1, 1, 1, 1, 1]
  | _ => []
noncomputable def spec_ThirdsRing_LO (v28 : List Nat) (v29 : List Nat) (v30 : List Nat) (v31 : Nat) (v32 : Nat) (v33 : List Nat) : LOr := fun id e L =>
  match id with
  | 0 => .need (normA 0 spec_ThirdsRing_l0_kill e L = some (spec_ThirdsRing_l0_E v28 v29 v30 v31 v32 v33 (gF (vAt e 19)) (gI (vAt e 143)) (gRF L (vAt e 15)) (gRF L (vAt e 17)) ((gI (vAt e 144)), (gRF L (vAt e 20))))) (.call (spec_ThirdsRing_l0_g (gF (vAt e 19)) (gI (vAt e 143)) (gRF L (vAt e 15)) (gRF L (vAt e 17)) ((gI (vAt e 144)), (gRF L (vAt e 20)))) fun x => .leaf (spec_ThirdsRing_l0_X v28 v29 v30 v31 v32 v33 (gF (vAt e 19)) (gI (vAt e 143)) (gRF L (vAt e 15)) (gRF L (vAt e 17)) x))
  | _ => .fail
noncomputable def spec_ThirdsRing_tab : List (FuncId × DFn × Bool) := [(102, spec_l07Fits_F, true), (60, spec_l01Finite_F, true), (103, spec_ThirdsSolve_F, true), (90, spec_l02List_F, true)]
theorem spec_ThirdsRing_hO : OrcOk Try.prog (tabD spec_ThirdsRing_tab) (tabM spec_ThirdsRing_tab) := tabD_cons spec_l07Fits_Fok (tabD_cons spec_l01Finite_Fok (tabD_cons spec_ThirdsSolve_Fok (tabD_cons spec_l02List_Fok (tabD_nil _))))
theorem spec_ThirdsRing_l0_be (v28 : List Nat) (v29 : List Nat) (v30 : List Nat) (v31 : Nat) (v32 : Nat) (v33 : List Nat) (v114 : Nat) (v115 : Int) (v117 : List Nat) (v118 : List Nat) (s : Int × (List Nat)) : bodyT TT (tabD spec_ThirdsRing_tab) (tabM spec_ThirdsRing_tab) (spec_ThirdsRing_LO v28 v29 v30 v31 v32 v33) 0 spec_ThirdsRing_l0_kill spec_ThirdsRing_l0_nx (bodyOf Try.f43 0) 0 (spec_ThirdsRing_l0_E v28 v29 v30 v31 v32 v33 v114 v115 v117 v118 s) = (spec_ThirdsRing_l0_T v114 v115 v117 v118 s).bind fun y => .leaf (outS (spec_ThirdsRing_l0_E v28 v29 v30 v31 v32 v33 v114 v115 v117 v118) (spec_ThirdsRing_l0_X v28 v29 v30 v31 v32 v33 v114 v115 v117 v118) y) := by kernel_rfl
theorem spec_ThirdsRing_l0_ok (v28 : List Nat) (v29 : List Nat) (v30 : List Nat) (v31 : Nat) (v32 : Nat) (v33 : List Nat) : LSound Try.prog 0 (spec_ThirdsRing_LO v28 v29 v30 v31 v32 v33) 0 (bodyOf Try.f43 0) := by
  intro e L out h
  exact lo_ok (E := spec_ThirdsRing_l0_E v28 v29 v30 v31 v32 v33 (gF (vAt e 19)) (gI (vAt e 143)) (gRF L (vAt e 15)) (gRF L (vAt e 17))) (gT := spec_ThirdsRing_l0_T (gF (vAt e 19)) (gI (vAt e 143)) (gRF L (vAt e 15)) (gRF L (vAt e 17))) (X := spec_ThirdsRing_l0_X v28 v29 v30 v31 v32 v33 (gF (vAt e 19)) (gI (vAt e 143)) (gRF L (vAt e 15)) (gRF L (vAt e 17))) (s0 := ((gI (vAt e 144)), (gRF L (vAt e 20)))) tok spec_ThirdsRing_hO mixed (LoopsOk_eq (l := []) (by kernel_rfl) trivial) (spec_ThirdsRing_l0_be v28 v29 v30 v31 v32 v33 (gF (vAt e 19)) (gI (vAt e 143)) (gRF L (vAt e 15)) (gRF L (vAt e 17))) rfl (by intro x; rfl) h
noncomputable def spec_ThirdsRing_T (v28 : List Nat) (v29 : List Nat) (v30 : List Nat) (v31 : Nat) (v32 : Nat) (v33 : List Nat) : Tree ((Unit) ⊕ ((List Nat))) :=
  (.call (spec_l07Fits_g v28 v29 v30 v33) fun v54 =>
  (.br (!v54) (
   .leaf (.inl ())
  ) (
   (.br (decide (((v33.length : Nat) : Int) < (3 : Int))) (
    .leaf (.inl ())
   ) (
    (.br (!(spec_l01Finite_v v31)) (
     .leaf (.inl ())
    ) (
     (.br (!(spec_l01Finite_v v32)) (
      .leaf (.inl ())
     ) (
      (.grd (inb (0 : Int) v29.length) <|
      (.br (feq .f32 (nth v29 (Int.toNat (0 : Int))) (0 : Nat)) (
       .leaf (.inl ())
      ) (
       (.grd (inb (0 : Int) v29.length) <|
       (.grd (fits (([] : List Nat) ++ v29).length) <|
       (.grd (inb (0 : Int) ((([] : List Nat) ++ v29).length)) <|
       (.grd (inb (0 : Int) ((([] : List Nat) ++ v29).length)) <|
       (.grd (inb (IntKind.i64.wrap (((v33.length : Nat) : Int) - (1 : Int))) ((([] : List Nat) ++ v29).length)) <|
       (.grd (inb (IntKind.i64.wrap (((v33.length : Nat) : Int) - (1 : Int))) ((([] : List Nat) ++ v29).length)) <|
       (.need (((v33.length : Nat) : Int) = ((v33.length : Nat) : Int)) <|
       (.grd (inb ((v33.length : Nat) : Int) (maxN + 1)) <|
       (.grd (inb (0 : Int) (Int.toNat ((v33.length : Nat) : Int))) <|
       (.grd (inb (IntKind.i64.wrap (((v33.length : Nat) : Int) - (1 : Int))) (Int.toNat ((v33.length : Nat) : Int))) <|
       (.call (spec_ThirdsSolve_g v28 (List.set (List.set (([] : List Nat) ++ v29) (Int.toNat (0 : Int)) (fsub .f32 (nth (([] : List Nat) ++ v29) (Int.toNat (0 : Int))) (fneg .f32 (nth v29 (Int.toNat (0 : Int)))))) (Int.toNat (IntKind.i64.wrap (((v33.length : Nat) : Int) - (1 : Int)))) (fsub .f32 (nth (List.set (([] : List Nat) ++ v29) (Int.toNat (0 : Int)) (fsub .f32 (nth (([] : List Nat) ++ v29) (Int.toNat (0 : Int))) (fneg .f32 (nth v29 (Int.toNat (0 : Int)))))) (Int.toNat (IntKind.i64.wrap (((v33.length : Nat) : Int) - (1 : Int))))) (fdiv .f32 (fmul .f32 v31 v32) (fneg .f32 (nth v29 (Int.toNat (0 : Int))))))) v30 v33) fun v94 =>
       (.sum v94 (fun v95 =>
        (.call (spec_ThirdsSolve_g v28 (List.set (List.set (([] : List Nat) ++ v29) (Int.toNat (0 : Int)) (fsub .f32 (nth (([] : List Nat) ++ v29) (Int.toNat (0 : Int))) (fneg .f32 (nth v29 (Int.toNat (0 : Int)))))) (Int.toNat (IntKind.i64.wrap (((v33.length : Nat) : Int) - (1 : Int)))) (fsub .f32 (nth (List.set (([] : List Nat) ++ v29) (Int.toNat (0 : Int)) (fsub .f32 (nth (([] : List Nat) ++ v29) (Int.toNat (0 : Int))) (fneg .f32 (nth v29 (Int.toNat (0 : Int)))))) (Int.toNat (IntKind.i64.wrap (((v33.length : Nat) : Int) - (1 : Int))))) (fdiv .f32 (fmul .f32 v31 v32) (fneg .f32 (nth v29 (Int.toNat (0 : Int))))))) v30 (List.set (List.set (List.replicate (Int.toNat ((v33.length : Nat) : Int)) (0 : Nat)) (Int.toNat (0 : Int)) (fneg .f32 (nth v29 (Int.toNat (0 : Int))))) (Int.toNat (IntKind.i64.wrap (((v33.length : Nat) : Int) - (1 : Int)))) v32)) fun v97 =>
        (.sum v97 (fun v98 =>
         .leaf (.inl ())
        ) (fun v99 =>
         .leaf (.inl ())
        )))
       ) (fun v96 =>
        (.call (spec_ThirdsSolve_g v28 (List.set (List.set (([] : List Nat) ++ v29) (Int.toNat (0 : Int)) (fsub .f32 (nth (([] : List Nat) ++ v29) (Int.toNat (0 : Int))) (fneg .f32 (nth v29 (Int.toNat (0 : Int)))))) (Int.toNat (IntKind.i64.wrap (((v33.length : Nat) : Int) - (1 : Int)))) (fsub .f32 (nth (List.set (([] : List Nat) ++ v29) (Int.toNat (0 : Int)) (fsub .f32 (nth (([] : List Nat) ++ v29) (Int.toNat (0 : Int))) (fneg .f32 (nth v29 (Int.toNat (0 : Int)))))) (Int.toNat (IntKind.i64.wrap (((v33.length : Nat) : Int) - (1 : Int))))) (fdiv .f32 (fmul .f32 v31 v32) (fneg .f32 (nth v29 (Int.toNat (0 : Int))))))) v30 (List.set (List.set (List.replicate (Int.toNat ((v33.length : Nat) : Int)) (0 : Nat)) (Int.toNat (0 : Int)) (fneg .f32 (nth v29 (Int.toNat (0 : Int))))) (Int.toNat (IntKind.i64.wrap (((v33.length : Nat) : Int) - (1 : Int)))) v32)) fun v100 =>
        (.sum v100 (fun v101 =>
         .leaf (.inl ())
        ) (fun v102 =>
         (.grd (inb (0 : Int) ((v96).length)) <|
         (.grd (inb (IntKind.i64.wrap (((v33.length : Nat) : Int) - (1 : Int))) ((v96).length)) <|
         (.grd (inb (0 : Int) ((v102).length)) <|
         (.grd (inb (IntKind.i64.wrap (((v33.length : Nat) : Int) - (1 : Int))) ((v102).length)) <|
         (.need (some (spec_ThirdsRing_l0_E v28 v29 v30 v31 v32 v33 (fdiv .f32 (fadd .f32 (nth v96 (Int.toNat (0 : Int))) (fdiv .f32 (fmul .f32 v31 (nth v96 (Int.toNat (IntKind.i64.wrap (((v33.length : Nat) : Int) - (1 : Int)))))) (fneg .f32 (nth v29 (Int.toNat (0 : Int)))))) (fadd .f32 (fadd .f32 (1065353216 : Nat) (nth v102 (Int.toNat (0 : Int)))) (fdiv .f32 (fmul .f32 v31 (nth v102 (Int.toNat (IntKind.i64.wrap (((v33.length : Nat) : Int) - (1 : Int)))))) (fneg .f32 (nth v29 (Int.toNat (0 : Int))))))) (((v96).length : Nat) : Int) v96 v102 ((0 : Int), ([] : List Nat))) = some (spec_ThirdsRing_l0_E v28 v29 v30 v31 v32 v33 (fdiv .f32 (fadd .f32 (nth v96 (Int.toNat (0 : Int))) (fdiv .f32 (fmul .f32 v31 (nth v96 (Int.toNat (IntKind.i64.wrap (((v33.length : Nat) : Int) - (1 : Int)))))) (fneg .f32 (nth v29 (Int.toNat (0 : Int)))))) (fadd .f32 (fadd .f32 (1065353216 : Nat) (nth v102 (Int.toNat (0 : Int)))) (fdiv .f32 (fmul .f32 v31 (nth v102 (Int.toNat (IntKind.i64.wrap (((v33.length : Nat) : Int) - (1 : Int)))))) (fneg .f32 (nth v29 (Int.toNat (0 : Int))))))) (((v96).length : Nat) : Int) v96 v102 ((0 : Int), ([] : List Nat)))) <|
         (.call (spec_ThirdsRing_l0_g (fdiv .f32 (fadd .f32 (nth v96 (Int.toNat (0 : Int))) (fdiv .f32 (fmul .f32 v31 (nth v96 (Int.toNat (IntKind.i64.wrap (((v33.length : Nat) : Int) - (1 : Int)))))) (fneg .f32 (nth v29 (Int.toNat (0 : Int)))))) (fadd .f32 (fadd .f32 (1065353216 : Nat) (nth v102 (Int.toNat (0 : Int)))) (fdiv .f32 (fmul .f32 v31 (nth v102 (Int.toNat (IntKind.i64.wrap (((v33.length : Nat) : Int) - (1 : Int)))))) (fneg .f32 (nth v29 (Int.toNat (0 : Int))))))) (((v96).length : Nat) : Int) v96 v102 ((0 : Int), ([] : List Nat))) fun v120 =>
         (.call (spec_l02List_g v120) fun v121 =>
         (.sum v121 (fun v122 =>
          .leaf (.inl ())
         ) (fun v123 =>
          .leaf (.inr v120)
         )))))))))
        )))
       )))))))))))))
      )))
     ))
    ))
   ))
  )))

noncomputable def spec_ThirdsRing_g (v28 : List Nat) (v29 : List Nat) (v30 : List Nat) (v31 : Nat) (v32 : Nat) (v33 : List Nat) : Option ((Unit) ⊕ ((List Nat))) := (spec_ThirdsRing_T v28 v29 v30 v31 v32 v33).run
def spec_ThirdsRing_enc (v28 : List Nat) (v29 : List Nat) (v30 : List Nat) (v31 : Nat) (v32 : Nat) (v33 : List Nat) (y : (Unit) ⊕ ((List Nat))) : Rs := (match y with | .inl y => (.tup [.nilslc, .lit false], []) | .inr y => (.tup [.own 0 0 ((y).length), .lit true], [.row (.f32 y) 0]))
theorem spec_ThirdsRing_den (v28 : List Nat) (v29 : List Nat) (v30 : List Nat) (v31 : Nat) (v32 : Nat) (v33 : List Nat) : (den TT (tabD spec_ThirdsRing_tab) (tabM spec_ThirdsRing_tab) (spec_ThirdsRing_LO v28 v29 v30 v31 v32 v33) (codeOf Try.f43) ([.agg [.bslc (BR.root 0) (.f32 v28), .bslc (BR.root 1) (.f32 v29), .bslc (BR.root 2) (.f32 v30)], .flt .f32 v31, .flt .f32 v32, .bslc (BR.root 3) (.f32 v33)] ++ List.replicate (Try.f43.ntmps - ([.agg [.bslc (BR.root 0) (.f32 v28), .bslc (BR.root 1) (.f32 v29), .bslc (BR.root 2) (.f32 v30)], .flt .f32 v31, .flt .f32 v32, .bslc (BR.root 3) (.f32 v33)] : List DV).length) .undef) []).bind (retD TT Try.f43.results.toList 0) = (spec_ThirdsRing_T v28 v29 v30 v31 v32 v33).bind fun y => .leaf (spec_ThirdsRing_enc v28 v29 v30 v31 v32 v33 y) := by kernel_rfl
theorem spec_ThirdsRing_fn (v28 : List Nat) (v29 : List Nat) (v30 : List Nat) (v31 : Nat) (v32 : Nat) (v33 : List Nat) (F : Fr) (hm : F.ids.length = 0) (h0 : St F [] F.H0) (hA : DVs.Ok F [] [.agg [.bslc (BR.root 0) (.f32 v28), .bslc (BR.root 1) (.f32 v29), .bslc (BR.root 2) (.f32 v30)], .flt .f32 v31, .flt .f32 v32, .bslc (BR.root 3) (.f32 v33)]) {y : (Unit) ⊕ ((List Nat))} (hy : spec_ThirdsRing_g v28 v29 v30 v31 v32 v33 = some y) : ∃ H', FnOk Try.prog 43 (DVs.av F [.agg [.bslc (BR.root 0) (.f32 v28), .bslc (BR.root 1) (.f32 v29), .bslc (BR.root 2) (.f32 v30)], .flt .f32 v31, .flt .f32 v32, .bslc (BR.root 3) (.f32 v33)]) F.H0 ((spec_ThirdsRing_enc v28 v29 v30 v31 v32 v33 y).1.av F) H' ∧ St F (spec_ThirdsRing_enc v28 v29 v30 v31 v32 v33 y).2 H' ∧ (spec_ThirdsRing_enc v28 v29 v30 v31 v32 v33 y).1.Ok F (spec_ThirdsRing_enc v28 v29 v30 v31 v32 v33 y).2 :=
  fn_fin tok spec_ThirdsRing_hO mixed Try.func43 Try.call43 (by kernel_rfl) (LoopsOk_eq (l := [(0, bodyOf Try.f43 0)]) (by kernel_rfl) ⟨spec_ThirdsRing_l0_ok v28 v29 v30 v31 v32 v33, trivial⟩) (spec_ThirdsRing_den v28 v29 v30 v31 v32 v33) hy hm h0 hA
noncomputable def spec_ThirdsRing_F : DFn := fun args L =>
  match args with
  | [.agg [a1, a2, a3], .flt .f32 v31, .flt .f32 v32, a4] =>
    optT (rowF32 L a1) fun v28 =>
    optT (rowF32 L a2) fun v29 =>
    optT (rowF32 L a3) fun v30 =>
    optT (rowF32 L a4) fun v33 =>
    .call (spec_ThirdsRing_g v28 v29 v30 v31 v32 v33) fun y => .sum y (fun y0 => .leaf (.tup [.nilslc, .lit false], L)) (fun z0 => .leaf (.tup [.own (L.length + 0) 0 ((z0).length), .lit true], L ++ [.row (.f32 z0) 0]))
  | _ => .fail
theorem spec_ThirdsRing_Fok : COk Try.prog 43 spec_ThirdsRing_F true := by
  intro F L H args r L' hs ha hr
  unfold spec_ThirdsRing_F at hr
  split at hr
  · rename_i a1 a2 a3 v31 v32 a4
    obtain ⟨v28, hv28, hr⟩ := optT_run hr
    obtain ⟨v29, hv29, hr⟩ := optT_run hr
    obtain ⟨v30, hv30, hr⟩ := optT_run hr
    obtain ⟨v33, hv33, hr⟩ := optT_run hr
    simp only [Tree.run] at hr
    obtain ⟨y, hy, hr⟩ := Option.bind_eq_some_iff.1 hr
    cases y with
    | inl y =>
      simp only [Tree.run, Option.some.injEq, Prod.mk.injEq] at hr
      obtain ⟨rfl, rfl⟩ := hr
      exact call_ok0 hs (fun k => (([a1.av F, a2.av F, a3.av F, a4.av F] : List AV)[k]?).getD .top) [.agg [a1, a2, a3], .flt .f32 v31, .flt .f32 v32, a4] [.agg [.bslc (BR.root 0) (.f32 v28), .bslc (BR.root 1) (.f32 v29), .bslc (BR.root 2) (.f32 v30)], .flt .f32 v31, .flt .f32 v32, .bslc (BR.root 3) (.f32 v33)] (fun F' h0 hi hρ => ⟨by simp [DVs.av, DV.av, BR.av, hρ], spec_ThirdsRing_fn v28 v29 v30 v31 v32 v33 F' (by rw [hi]; rfl) (st_nil hi) ⟨⟨bslc_ok hi (by rw [h0, hρ]; exact rowF32_ok hs (DVs.okAt (DVs.okAt ha 0 rfl) 0 rfl) hv28), bslc_ok hi (by rw [h0, hρ]; exact rowF32_ok hs (DVs.okAt (DVs.okAt ha 0 rfl) 1 rfl) hv29), bslc_ok hi (by rw [h0, hρ]; exact rowF32_ok hs (DVs.okAt (DVs.okAt ha 0 rfl) 2 rfl) hv30), trivial⟩, trivial, trivial, bslc_ok hi (by rw [h0, hρ]; exact rowF32_ok hs (DVs.okAt ha 3 rfl) hv33), trivial⟩ hy⟩) rfl
    | inr y =>
      simp only [Tree.run, Option.some.injEq, Prod.mk.injEq] at hr
      obtain ⟨rfl, rfl⟩ := hr
      exact call_ok1 hs (fun k => (([a1.av F, a2.av F, a3.av F, a4.av F] : List AV)[k]?).getD .top) [.agg [a1, a2, a3], .flt .f32 v31, .flt .f32 v32, a4] [.agg [.bslc (BR.root 0) (.f32 v28), .bslc (BR.root 1) (.f32 v29), .bslc (BR.root 2) (.f32 v30)], .flt .f32 v31, .flt .f32 v32, .bslc (BR.root 3) (.f32 v33)] (fun F' h0 hi hρ => ⟨by simp [DVs.av, DV.av, BR.av, hρ], spec_ThirdsRing_fn v28 v29 v30 v31 v32 v33 F' (by rw [hi]; rfl) (st_nil hi) ⟨⟨bslc_ok hi (by rw [h0, hρ]; exact rowF32_ok hs (DVs.okAt (DVs.okAt ha 0 rfl) 0 rfl) hv28), bslc_ok hi (by rw [h0, hρ]; exact rowF32_ok hs (DVs.okAt (DVs.okAt ha 0 rfl) 1 rfl) hv29), bslc_ok hi (by rw [h0, hρ]; exact rowF32_ok hs (DVs.okAt (DVs.okAt ha 0 rfl) 2 rfl) hv30), trivial⟩, trivial, trivial, bslc_ok hi (by rw [h0, hρ]; exact rowF32_ok hs (DVs.okAt ha 3 rfl) hv33), trivial⟩ hy⟩) rfl rfl
  · cases hr
/-! impl.length[float32] -/
noncomputable def impl_lengthF_LO (v144 : List Nat) : LOr := fun id e L =>
  match id with
  | _ => .fail
noncomputable def impl_lengthF_tab : List (FuncId × DFn × Bool) := []
theorem impl_lengthF_hO : OrcOk Try.prog (tabD impl_lengthF_tab) (tabM impl_lengthF_tab) := tabD_nil _
noncomputable def impl_lengthF_T (v144 : List Nat) : Tree (Int) :=
  .leaf ((v144.length : Nat) : Int)

noncomputable def impl_lengthF_g (v144 : List Nat) : Option (Int) := (impl_lengthF_T v144).run
def impl_lengthF_enc (v144 : List Nat) (y : Int) : Rs := (.int .i64 y, [])
theorem impl_lengthF_den (v144 : List Nat) : (den TT (tabD impl_lengthF_tab) (tabM impl_lengthF_tab) (impl_lengthF_LO v144) (codeOf Try.f112) ([.bslc (BR.root 0) (.f32 v144)] ++ List.replicate (Try.f112.ntmps - ([.bslc (BR.root 0) (.f32 v144)] : List DV).length) .undef) []).bind (retD TT Try.f112.results.toList 0) = (impl_lengthF_T v144).bind fun y => .leaf (impl_lengthF_enc v144 y) := by kernel_rfl
theorem impl_lengthF_fn (v144 : List Nat) (F : Fr) (hm : F.ids.length = 0) (h0 : St F [] F.H0) (hA : DVs.Ok F [] [.bslc (BR.root 0) (.f32 v144)]) {y : Int} (hy : impl_lengthF_g v144 = some y) : ∃ H', FnOk Try.prog 112 (DVs.av F [.bslc (BR.root 0) (.f32 v144)]) F.H0 ((impl_lengthF_enc v144 y).1.av F) H' ∧ St F (impl_lengthF_enc v144 y).2 H' ∧ (impl_lengthF_enc v144 y).1.Ok F (impl_lengthF_enc v144 y).2 :=
  fn_fin tok impl_lengthF_hO mixed Try.func112 Try.call112 (by kernel_rfl) (LoopsOk_eq (l := []) (by kernel_rfl) trivial) (impl_lengthF_den v144) hy hm h0 hA
def impl_lengthF_v (v144 : List Nat) : Int :=
  ((v144.length : Nat) : Int)
theorem impl_lengthF_tot (v144 : List Nat) : impl_lengthF_g v144 = some (impl_lengthF_v v144) := by
  unfold impl_lengthF_g impl_lengthF_T impl_lengthF_v
  simp only [Tree.run]
  repeat' (first | rfl | split)
noncomputable def impl_lengthF_F : DFn := fun args L =>
  match args with
  | [a1] =>
    optT (rowF32 L a1) fun v144 =>
    .leaf (.int .i64 (impl_lengthF_v v144), L)
  | _ => .fail
theorem impl_lengthF_Fok : COk Try.prog 112 impl_lengthF_F true := by
  intro F L H args r L' hs ha hr
  unfold impl_lengthF_F at hr
  split at hr
  · rename_i a1
    obtain ⟨v144, hv144, hr⟩ := optT_run hr
    have hy := impl_lengthF_tot v144
    generalize impl_lengthF_v v144 = y at hy hr
    simp only [Tree.run, Option.some.injEq, Prod.mk.injEq] at hr
    obtain ⟨rfl, rfl⟩ := hr
    exact call_ok0 hs (fun k => (([a1.av F] : List AV)[k]?).getD .top) [a1] [.bslc (BR.root 0) (.f32 v144)] (fun F' h0 hi hρ => ⟨by simp [DVs.av, DV.av, BR.av, hρ], impl_lengthF_fn v144 F' (by rw [hi]; rfl) (st_nil hi) ⟨bslc_ok hi (by rw [h0, hρ]; exact rowF32_ok hs (DVs.okAt ha 0 rfl) hv144), trivial⟩ hy⟩) rfl
  · cases hr
/-! impl.inRange -/
noncomputable def impl_inRange_LO (v145 : Int) (v146 : Int) (v147 : Int) : LOr := fun id e L =>
  match id with
  | _ => .fail
noncomputable def impl_inRange_tab : List (FuncId × DFn × Bool) := []
theorem impl_inRange_hO : OrcOk Try.prog (tabD impl_inRange_tab) (tabM impl_inRange_tab) := tabD_nil _
noncomputable def impl_inRange_T (v145 : Int) (v146 : Int) (v147 : Int) : Tree (Bool) :=
  (.br (decide (v146 ≤ v145)) (
   .leaf (decide (v145 ≤ v147))
  ) (
   .leaf false
  ))

noncomputable def impl_inRange_g (v145 : Int) (v146 : Int) (v147 : Int) : Option (Bool) := (impl_inRange_T v145 v146 v147).run
def impl_inRange_enc (v145 : Int) (v146 : Int) (v147 : Int) (y : Bool) : Rs := (.bool y, [])
theorem impl_inRange_den (v145 : Int) (v146 : Int) (v147 : Int) : (den TT (tabD impl_inRange_tab) (tabM impl_inRange_tab) (impl_inRange_LO v145 v146 v147) (codeOf Try.f73) ([.int .i64 v145, .int .i64 v146, .int .i64 v147] ++ List.replicate (Try.f73.ntmps - ([.int .i64 v145, .int .i64 v146, .int .i64 v147] : List DV).length) .undef) []).bind (retD TT Try.f73.results.toList 0) = (impl_inRange_T v145 v146 v147).bind fun y => .leaf (impl_inRange_enc v145 v146 v147 y) := by kernel_rfl
theorem impl_inRange_fn (v145 : Int) (v146 : Int) (v147 : Int) (F : Fr) (hm : F.ids.length = 0) (h0 : St F [] F.H0) (hA : DVs.Ok F [] [.int .i64 v145, .int .i64 v146, .int .i64 v147]) {y : Bool} (hy : impl_inRange_g v145 v146 v147 = some y) : ∃ H', FnOk Try.prog 73 (DVs.av F [.int .i64 v145, .int .i64 v146, .int .i64 v147]) F.H0 ((impl_inRange_enc v145 v146 v147 y).1.av F) H' ∧ St F (impl_inRange_enc v145 v146 v147 y).2 H' ∧ (impl_inRange_enc v145 v146 v147 y).1.Ok F (impl_inRange_enc v145 v146 v147 y).2 :=
  fn_fin tok impl_inRange_hO mixed Try.func73 Try.call73 (by kernel_rfl) (LoopsOk_eq (l := []) (by kernel_rfl) trivial) (impl_inRange_den v145 v146 v147) hy hm h0 hA
def impl_inRange_v (v145 : Int) (v146 : Int) (v147 : Int) : Bool :=
  if (decide (v146 ≤ v145)) = true then (
   decide (v145 ≤ v147)
  ) else (
   false
  )
theorem impl_inRange_tot (v145 : Int) (v146 : Int) (v147 : Int) : impl_inRange_g v145 v146 v147 = some (impl_inRange_v v145 v146 v147) := by
  unfold impl_inRange_g impl_inRange_T impl_inRange_v
  simp only [Tree.run]
  repeat' (first | rfl | split)
noncomputable def impl_inRange_F : DFn := fun args L =>
  match args with
  | [.int .i64 v145, .int .i64 v146, .int .i64 v147] =>
    .leaf (.bool (impl_inRange_v v145 v146 v147), L)
  | _ => .fail
theorem impl_inRange_Fok : COk Try.prog 73 impl_inRange_F true := by
  intro F L H args r L' hs ha hr
  unfold impl_inRange_F at hr
  split at hr
  · rename_i v145 v146 v147
    have hy := impl_inRange_tot v145 v146 v147
    generalize impl_inRange_v v145 v146 v147 = y at hy hr
    simp only [Tree.run, Option.some.injEq, Prod.mk.injEq] at hr
    obtain ⟨rfl, rfl⟩ := hr
    exact call_ok0 hs (fun k => (([] : List AV)[k]?).getD .top) [.int .i64 v145, .int .i64 v146, .int .i64 v147] [.int .i64 v145, .int .i64 v146, .int .i64 v147] (fun F' h0 hi hρ => ⟨by simp [DVs.av, DV.av, BR.av, hρ], impl_inRange_fn v145 v146 v147 F' (by rw [hi]; rfl) (st_nil hi) ⟨trivial, trivial, trivial, trivial⟩ hy⟩) rfl
  · cases hr
/-! math.IsNaN -/
noncomputable def math_IsNaN_LO (v155 : Nat) : LOr := fun id e L =>
  match id with
  | _ => .fail
noncomputable def math_IsNaN_tab : List (FuncId × DFn × Bool) := []
theorem math_IsNaN_hO : OrcOk Try.prog (tabD math_IsNaN_tab) (tabM math_IsNaN_tab) := tabD_nil _
noncomputable def math_IsNaN_T (v155 : Nat) : Tree (Bool) :=
  .leaf (!feq .f64 v155 v155)

noncomputable def math_IsNaN_g (v155 : Nat) : Option (Bool) := (math_IsNaN_T v155).run
def math_IsNaN_enc (v155 : Nat) (y : Bool) : Rs := (.bool y, [])
theorem math_IsNaN_den (v155 : Nat) : (den TT (tabD math_IsNaN_tab) (tabM math_IsNaN_tab) (math_IsNaN_LO v155) (codeOf Try.f172) ([.flt .f64 v155] ++ List.replicate (Try.f172.ntmps - ([.flt .f64 v155] : List DV).length) .undef) []).bind (retD TT Try.f172.results.toList 0) = (math_IsNaN_T v155).bind fun y => .leaf (math_IsNaN_enc v155 y) := by kernel_rfl
theorem math_IsNaN_fn (v155 : Nat) (F : Fr) (hm : F.ids.length = 0) (h0 : St F [] F.H0) (hA : DVs.Ok F [] [.flt .f64 v155]) {y : Bool} (hy : math_IsNaN_g v155 = some y) : ∃ H', FnOk Try.prog 172 (DVs.av F [.flt .f64 v155]) F.H0 ((math_IsNaN_enc v155 y).1.av F) H' ∧ St F (math_IsNaN_enc v155 y).2 H' ∧ (math_IsNaN_enc v155 y).1.Ok F (math_IsNaN_enc v155 y).2 :=
  fn_fin tok math_IsNaN_hO mixed Try.func172 Try.call172 (by kernel_rfl) (LoopsOk_eq (l := []) (by kernel_rfl) trivial) (math_IsNaN_den v155) hy hm h0 hA
def math_IsNaN_v (v155 : Nat) : Bool :=
  !feq .f64 v155 v155
theorem math_IsNaN_tot (v155 : Nat) : math_IsNaN_g v155 = some (math_IsNaN_v v155) := by
  unfold math_IsNaN_g math_IsNaN_T math_IsNaN_v
  simp only [Tree.run]
  repeat' (first | rfl | split)
noncomputable def math_IsNaN_F : DFn := fun args L =>
  match args with
  | [.flt .f64 v155] =>
    .leaf (.bool (math_IsNaN_v v155), L)
  | _ => .fail
theorem math_IsNaN_Fok : COk Try.prog 172 math_IsNaN_F true := by
  intro F L H args r L' hs ha hr
  unfold math_IsNaN_F at hr
  split at hr
  · rename_i v155
    have hy := math_IsNaN_tot v155
    generalize math_IsNaN_v v155 = y at hy hr
    simp only [Tree.run, Option.some.injEq, Prod.mk.injEq] at hr
    obtain ⟨rfl, rfl⟩ := hr
    exact call_ok0 hs (fun k => (([] : List AV)[k]?).getD .top) [.flt .f64 v155] [.flt .f64 v155] (fun F' h0 hi hρ => ⟨by simp [DVs.av, DV.av, BR.av, hρ], math_IsNaN_fn v155 F' (by rw [hi]; rfl) (st_nil hi) ⟨trivial, trivial⟩ hy⟩) rfl
  · cases hr
/-! math.IsInf -/
noncomputable def math_IsInf_LO (v156 : Nat) (v157 : Int) : LOr := fun id e L =>
  match id with
  | _ => .fail
noncomputable def math_IsInf_tab : List (FuncId × DFn × Bool) := [(97, Abs_F, true)]
theorem math_IsInf_hO : OrcOk Try.prog (tabD math_IsInf_tab) (tabM math_IsInf_tab) := tabD_cons Abs_Fok (tabD_nil _)
noncomputable def math_IsInf_T (v156 : Nat) (v157 : Int) : Tree (Bool) :=
  (.br (decide (v157 = (0 : Int))) (
   .leaf (fgrt .f64 (fabs v156) (9218868437227405311 : Nat))
  ) (
   (.br (decide (v157 < (0 : Int))) (
    .leaf (fgrt .f64 (fneg .f64 v156) (9218868437227405311 : Nat))
   ) (
    .leaf (fgrt .f64 v156 (9218868437227405311 : Nat))
   ))
  ))

noncomputable def math_IsInf_g (v156 : Nat) (v157 : Int) : Option (Bool) := (math_IsInf_T v156 v157).run
def math_IsInf_enc (v156 : Nat) (v157 : Int) (y : Bool) : Rs := (.bool y, [])
theorem math_IsInf_den (v156 : Nat) (v157 : Int) : (den TT (tabD math_IsInf_tab) (tabM math_IsInf_tab) (math_IsInf_LO v156 v157) (codeOf Try.f173) ([.flt .f64 v156, .int .i64 v157] ++ List.replicate (Try.f173.ntmps - ([.flt .f64 v156, .int .i64 v157] : List DV).length) .undef) []).bind (retD TT Try.f173.results.toList 0) = (math_IsInf_T v156 v157).bind fun y => .leaf (math_IsInf_enc v156 v157 y) := by kernel_rfl
theorem math_IsInf_fn (v156 : Nat) (v157 : Int) (F : Fr) (hm : F.ids.length = 0) (h0 : St F [] F.H0) (hA : DVs.Ok F [] [.flt .f64 v156, .int .i64 v157]) {y : Bool} (hy : math_IsInf_g v156 v157 = some y) : ∃ H', FnOk Try.prog 173 (DVs.av F [.flt .f64 v156, .int .i64 v157]) F.H0 ((math_IsInf_enc v156 v157 y).1.av F) H' ∧ St F (math_IsInf_enc v156 v157 y).2 H' ∧ (math_IsInf_enc v156 v157 y).1.Ok F (math_IsInf_enc v156 v157 y).2 :=
  fn_fin tok math_IsInf_hO mixed Try.func173 Try.call173 (by kernel_rfl) (LoopsOk_eq (l := []) (by kernel_rfl) trivial) (math_IsInf_den v156 v157) hy hm h0 hA
def math_IsInf_v (v156 : Nat) (v157 : Int) : Bool :=
  if (decide (v157 = (0 : Int))) = true then (
   fgrt .f64 (fabs v156) (9218868437227405311 : Nat)
  ) else (
   if (decide (v157 < (0 : Int))) = true then (
    fgrt .f64 (fneg .f64 v156) (9218868437227405311 : Nat)
   ) else (
    fgrt .f64 v156 (9218868437227405311 : Nat)
   )
  )
theorem math_IsInf_tot (v156 : Nat) (v157 : Int) : math_IsInf_g v156 v157 = some (math_IsInf_v v156 v157) := by
  unfold math_IsInf_g math_IsInf_T math_IsInf_v
  simp only [Tree.run]
  repeat' (first | rfl | split)
noncomputable def math_IsInf_F : DFn := fun args L =>
  match args with
  | [.flt .f64 v156, .int .i64 v157] =>
    .leaf (.bool (math_IsInf_v v156 v157), L)
  | _ => .fail
theorem math_IsInf_Fok : COk Try.prog 173 math_IsInf_F true := by
  intro F L H args r L' hs ha hr
  unfold math_IsInf_F at hr
  split at hr
  · rename_i v156 v157
    have hy := math_IsInf_tot v156 v157
    generalize math_IsInf_v v156 v157 = y at hy hr
    simp only [Tree.run, Option.some.injEq, Prod.mk.injEq] at hr
    obtain ⟨rfl, rfl⟩ := hr
    exact call_ok0 hs (fun k => (([] : List AV)[k]?).getD .top) [.flt .f64 v156, .int .i64 v157] [.flt .f64 v156, .int .i64 v157] (fun F' h0 hi hρ => ⟨by simp [DVs.av, DV.av, BR.av, hρ], math_IsInf_fn v156 v157 F' (by rw [hi]; rfl) (st_nil hi) ⟨trivial, trivial, trivial⟩ hy⟩) rfl
  · cases hr
/-! impl.isFinite64 -/
noncomputable def impl_isFinite64_LO (v154 : Nat) : LOr := fun id e L =>
  match id with
  | _ => .fail
noncomputable def impl_isFinite64_tab : List (FuncId × DFn × Bool) := [(172, math_IsNaN_F, true), (173, math_IsInf_F, true)]
theorem impl_isFinite64_hO : OrcOk Try.prog (tabD impl_isFinite64_tab) (tabM impl_isFinite64_tab) := tabD_cons math_IsNaN_Fok (tabD_cons math_IsInf_Fok (tabD_nil _))
noncomputable def impl_isFinite64_T (v154 : Nat) : Tree (Bool) :=
  (.br (!(math_IsNaN_v v154)) (
   .leaf (!(math_IsInf_v v154 (0 : Int)))
  ) (
   .leaf false
  ))

noncomputable def impl_isFinite64_g (v154 : Nat) : Option (Bool) := (impl_isFinite64_T v154).run
def impl_isFinite64_enc (v154 : Nat) (y : Bool) : Rs := (.bool y, [])
theorem impl_isFinite64_den (v154 : Nat) : (den TT (tabD impl_isFinite64_tab) (tabM impl_isFinite64_tab) (impl_isFinite64_LO v154) (codeOf Try.f149) ([.flt .f64 v154] ++ List.replicate (Try.f149.ntmps - ([.flt .f64 v154] : List DV).length) .undef) []).bind (retD TT Try.f149.results.toList 0) = (impl_isFinite64_T v154).bind fun y => .leaf (impl_isFinite64_enc v154 y) := by kernel_rfl
theorem impl_isFinite64_fn (v154 : Nat) (F : Fr) (hm : F.ids.length = 0) (h0 : St F [] F.H0) (hA : DVs.Ok F [] [.flt .f64 v154]) {y : Bool} (hy : impl_isFinite64_g v154 = some y) : ∃ H', FnOk Try.prog 149 (DVs.av F [.flt .f64 v154]) F.H0 ((impl_isFinite64_enc v154 y).1.av F) H' ∧ St F (impl_isFinite64_enc v154 y).2 H' ∧ (impl_isFinite64_enc v154 y).1.Ok F (impl_isFinite64_enc v154 y).2 :=
  fn_fin tok impl_isFinite64_hO mixed Try.func149 Try.call149 (by kernel_rfl) (LoopsOk_eq (l := []) (by kernel_rfl) trivial) (impl_isFinite64_den v154) hy hm h0 hA
def impl_isFinite64_v (v154 : Nat) : Bool :=
  if (!(math_IsNaN_v v154)) = true then (
   !(math_IsInf_v v154 (0 : Int))
  ) else (
   false
  )
theorem impl_isFinite64_tot (v154 : Nat) : impl_isFinite64_g v154 = some (impl_isFinite64_v v154) := by
  unfold impl_isFinite64_g impl_isFinite64_T impl_isFinite64_v
  simp only [Tree.run]
  repeat' (first | rfl | split)
noncomputable def impl_isFinite64_F : DFn := fun args L =>
  match args with
  | [.flt .f64 v154] =>
    .leaf (.bool (impl_isFinite64_v v154), L)
  | _ => .fail
theorem impl_isFinite64_Fok : COk Try.prog 149 impl_isFinite64_F true := by
  intro F L H args r L' hs ha hr
  unfold impl_isFinite64_F at hr
  split at hr
  · rename_i v154
    have hy := impl_isFinite64_tot v154
    generalize impl_isFinite64_v v154 = y at hy hr
    simp only [Tree.run, Option.some.injEq, Prod.mk.injEq] at hr
    obtain ⟨rfl, rfl⟩ := hr
    exact call_ok0 hs (fun k => (([] : List AV)[k]?).getD .top) [.flt .f64 v154] [.flt .f64 v154] (fun F' h0 hi hρ => ⟨by simp [DVs.av, DV.av, BR.av, hρ], impl_isFinite64_fn v154 F' (by rw [hi]; rfl) (st_nil hi) ⟨trivial, trivial⟩ hy⟩) rfl
  · cases hr
/-! impl.IsFinite -/
noncomputable def impl_IsFinite_LO (v153 : Nat) : LOr := fun id e L =>
  match id with
  | _ => .fail
noncomputable def impl_IsFinite_tab : List (FuncId × DFn × Bool) := [(149, impl_isFinite64_F, true)]
theorem impl_IsFinite_hO : OrcOk Try.prog (tabD impl_IsFinite_tab) (tabM impl_IsFinite_tab) := tabD_cons impl_isFinite64_Fok (tabD_nil _)
noncomputable def impl_IsFinite_T (v153 : Nat) : Tree (Bool) :=
  .leaf (impl_isFinite64_v (wid v153))

noncomputable def impl_IsFinite_g (v153 : Nat) : Option (Bool) := (impl_IsFinite_T v153).run
def impl_IsFinite_enc (v153 : Nat) (y : Bool) : Rs := (.bool y, [])
theorem impl_IsFinite_den (v153 : Nat) : (den TT (tabD impl_IsFinite_tab) (tabM impl_IsFinite_tab) (impl_IsFinite_LO v153) (codeOf Try.f96) ([.flt .f32 v153] ++ List.replicate (Try.f96.ntmps - ([.flt .f32 v153] : List DV).length) .undef) []).bind (retD TT Try.f96.results.toList 0) = (impl_IsFinite_T v153).bind fun y => .leaf (impl_IsFinite_enc v153 y) := by kernel_rfl
theorem impl_IsFinite_fn (v153 : Nat) (F : Fr) (hm : F.ids.length = 0) (h0 : St F [] F.H0) (hA : DVs.Ok F [] [.flt .f32 v153]) {y : Bool} (hy : impl_IsFinite_g v153 = some y) : ∃ H', FnOk Try.prog 96 (DVs.av F [.flt .f32 v153]) F.H0 ((impl_IsFinite_enc v153 y).1.av F) H' ∧ St F (impl_IsFinite_enc v153 y).2 H' ∧ (impl_IsFinite_enc v153 y).1.Ok F (impl_IsFinite_enc v153 y).2 :=
  fn_fin tok impl_IsFinite_hO mixed Try.func96 Try.call96 (by kernel_rfl) (LoopsOk_eq (l := []) (by kernel_rfl) trivial) (impl_IsFinite_den v153) hy hm h0 hA
def impl_IsFinite_v (v153 : Nat) : Bool :=
  (impl_isFinite64_v (wid v153))
theorem impl_IsFinite_tot (v153 : Nat) : impl_IsFinite_g v153 = some (impl_IsFinite_v v153) := by
  unfold impl_IsFinite_g impl_IsFinite_T impl_IsFinite_v
  simp only [Tree.run]
  repeat' (first | rfl | split)
noncomputable def impl_IsFinite_F : DFn := fun args L =>
  match args with
  | [.flt .f32 v153] =>
    .leaf (.bool (impl_IsFinite_v v153), L)
  | _ => .fail
theorem impl_IsFinite_Fok : COk Try.prog 96 impl_IsFinite_F true := by
  intro F L H args r L' hs ha hr
  unfold impl_IsFinite_F at hr
  split at hr
  · rename_i v153
    have hy := impl_IsFinite_tot v153
    generalize impl_IsFinite_v v153 = y at hy hr
    simp only [Tree.run, Option.some.injEq, Prod.mk.injEq] at hr
    obtain ⟨rfl, rfl⟩ := hr
    exact call_ok0 hs (fun k => (([] : List AV)[k]?).getD .top) [.flt .f32 v153] [.flt .f32 v153] (fun F' h0 hi hρ => ⟨by simp [DVs.av, DV.av, BR.av, hρ], impl_IsFinite_fn v153 F' (by rw [hi]; rfl) (st_nil hi) ⟨trivial, trivial⟩ hy⟩) rfl
  · cases hr
/-! impl.areFinite$1 -/
noncomputable def impl_areFinite_1_LO (v152 : Nat) : LOr := fun id e L =>
  match id with
  | _ => .fail
noncomputable def impl_areFinite_1_tab : List (FuncId × DFn × Bool) := [(96, impl_IsFinite_F, true)]
theorem impl_areFinite_1_hO : OrcOk Try.prog (tabD impl_areFinite_1_tab) (tabM impl_areFinite_1_tab) := tabD_cons impl_IsFinite_Fok (tabD_nil _)
noncomputable def impl_areFinite_1_T (v152 : Nat) : Tree (Bool) :=
  .leaf (!(impl_IsFinite_v v152))

noncomputable def impl_areFinite_1_g (v152 : Nat) : Option (Bool) := (impl_areFinite_1_T v152).run
def impl_areFinite_1_enc (v152 : Nat) (y : Bool) : Rs := (.bool y, [])
theorem impl_areFinite_1_den (v152 : Nat) : (den TT (tabD impl_areFinite_1_tab) (tabM impl_areFinite_1_tab) (impl_areFinite_1_LO v152) (codeOf Try.f138) ([.flt .f32 v152] ++ List.replicate (Try.f138.ntmps - ([.flt .f32 v152] : List DV).length) .undef) []).bind (retD TT Try.f138.results.toList 0) = (impl_areFinite_1_T v152).bind fun y => .leaf (impl_areFinite_1_enc v152 y) := by kernel_rfl
theorem impl_areFinite_1_fn (v152 : Nat) (F : Fr) (hm : F.ids.length = 0) (h0 : St F [] F.H0) (hA : DVs.Ok F [] [.flt .f32 v152]) {y : Bool} (hy : impl_areFinite_1_g v152 = some y) : ∃ H', FnOk Try.prog 138 (DVs.av F [.flt .f32 v152]) F.H0 ((impl_areFinite_1_enc v152 y).1.av F) H' ∧ St F (impl_areFinite_1_enc v152 y).2 H' ∧ (impl_areFinite_1_enc v152 y).1.Ok F (impl_areFinite_1_enc v152 y).2 :=
  fn_fin tok impl_areFinite_1_hO mixed Try.func138 Try.call138 (by kernel_rfl) (LoopsOk_eq (l := []) (by kernel_rfl) trivial) (impl_areFinite_1_den v152) hy hm h0 hA
def impl_areFinite_1_v (v152 : Nat) : Bool :=
  !(impl_IsFinite_v v152)
theorem impl_areFinite_1_tot (v152 : Nat) : impl_areFinite_1_g v152 = some (impl_areFinite_1_v v152) := by
  unfold impl_areFinite_1_g impl_areFinite_1_T impl_areFinite_1_v
  simp only [Tree.run]
  repeat' (first | rfl | split)
noncomputable def impl_areFinite_1_F : DFn := fun args L =>
  match args with
  | [.flt .f32 v152] =>
    .leaf (.bool (impl_areFinite_1_v v152), L)
  | _ => .fail
theorem impl_areFinite_1_Fok : COk Try.prog 138 impl_areFinite_1_F true := by
  intro F L H args r L' hs ha hr
  unfold impl_areFinite_1_F at hr
  split at hr
  · rename_i v152
    have hy := impl_areFinite_1_tot v152
    generalize impl_areFinite_1_v v152 = y at hy hr
    simp only [Tree.run, Option.some.injEq, Prod.mk.injEq] at hr
    obtain ⟨rfl, rfl⟩ := hr
    exact call_ok0 hs (fun k => (([] : List AV)[k]?).getD .top) [.flt .f32 v152] [.flt .f32 v152] (fun F' h0 hi hρ => ⟨by simp [DVs.av, DV.av, BR.av, hρ], impl_areFinite_1_fn v152 F' (by rw [hi]; rfl) (st_nil hi) ⟨trivial, trivial⟩ hy⟩) rfl
  · cases hr
/-! slices.IndexFunc[list of float32,float32] -/
noncomputable def slices_IndexFuncF_l0_T (v150 : List Nat) (s : Int) : Tree ((Int) ⊕ ((Int) ⊕ (Unit))) :=
  (.br (decide (s < ((v150.length : Nat) : Int))) (
   (.grd (inb s v150.length) <|
   (.br (impl_areFinite_1_v (nth v150 (Int.toNat s))) (
    .leaf (.inr (.inl s))
   ) (
    .leaf (.inl (IntKind.i64.wrap (s + (1 : Int))))
   )))
  ) (
   .leaf (.inr (.inr ()))
  ))

noncomputable def slices_IndexFuncF_l0_g (v150 : List Nat) (s0 : Int) : Option ((Int) ⊕ (Unit)) := whileM (fun s => (slices_IndexFuncF_l0_T v150 s).run) s0
def slices_IndexFuncF_l0_E (v150 : List Nat) (s : Int) : Sd := ([.bslc (BR.root 0) (.f32 v150), .fn 138 [], .top, .top, .top, .top, .top, .int .i64 ((v150.length : Nat) : Int), .int .i64 s, .top, .top, .top, .top, .top, .top, .top, .top, .top, .top], [])
def slices_IndexFuncF_l0_X (v150 : List Nat) (x : (Int) ⊕ (Unit)) : Out := (match x with | .inl x => (.ret, [.top, .top, .top, .top, .int .i64 x, .top, .top, .top, .top, .top, .top, .top, .top, .top, .top, .top, .top, .top, .top], []) | .inr x => (.normal, [.top, .top, .top, .top, .top, .top, .top, .top, .top, .top, .top, .top, .top, .top, .top, .top, .top, .top, .top], []))
def slices_IndexFuncF_l0_kill : List Nat := [0, 0, 1, 1, 1, 1, 1, 0, 0, 1, 1, 1, 1, 1, 1, 1, 1, 1, 1]
def slices_IndexFuncF_l0_nx : Exit → List Nat
  | .exit 0 => [1, 1, 1, 1, 1, 1, 1, 1, 1, 1, 1, 1, 1, 1, 1, 1, 1, 1, 1]
  | .ret => [1, 1, 1, 1, 0, 1, 1, 1, 1, 1, 1, 1, 1, 1, 1, 1, 1, 1, 1]
  | _ => []
noncomputable def slices_IndexFuncF_LO (v150 : List Nat) : LOr := fun id e L =>
  match id with
  | 0 => .need (normA 0 slices_IndexFuncF_l0_kill e L = some (slices_IndexFuncF_l0_E v150 (gI (vAt e 8)))) (.call (slices_IndexFuncF_l0_g v150 (gI (vAt e 8))) fun x => .sum x (fun b0 => .leaf (slices_IndexFuncF_l0_X v150 (.inl b0))) (fun c0 => .leaf (slices_IndexFuncF_l0_X v150 (.inr c0))))
  | _ => .fail
noncomputable def slices_IndexFuncF_tab : List (FuncId × DFn × Bool) := [(138, impl_areFinite_1_F, true)]
theorem slices_IndexFuncF_hO : OrcOk Try.prog (tabD slices_IndexFuncF_tab) (tabM slices_IndexFuncF_tab) := tabD_cons impl_areFinite_1_Fok (tabD_nil _)
theorem slices_IndexFuncF_l0_be (v150 : List Nat) (s : Int) : bodyT TT (tabD slices_IndexFuncF_tab) (tabM slices_IndexFuncF_tab) (slices_IndexFuncF_LO v150) 0 slices_IndexFuncF_l0_kill slices_IndexFuncF_l0_nx (bodyOf Try.f168 0) 0 (slices_IndexFuncF_l0_E v150 s) = (slices_IndexFuncF_l0_T v150 s).bind fun y => .leaf (outS (slices_IndexFuncF_l0_E v150) (slices_IndexFuncF_l0_X v150) y) := by kernel_rfl
theorem slices_IndexFuncF_l0_ok (v150 : List Nat) : LSound Try.prog 0 (slices_IndexFuncF_LO v150) 0 (bodyOf Try.f168 0) := by
  intro e L out h
  exact lo_ok (E := slices_IndexFuncF_l0_E v150) (gT := slices_IndexFuncF_l0_T v150) (X := slices_IndexFuncF_l0_X v150) (s0 := (gI (vAt e 8))) tok slices_IndexFuncF_hO mixed (LoopsOk_eq (l := []) (by kernel_rfl) trivial) (slices_IndexFuncF_l0_be v150) rfl (by intro x; (cases x with | inl b => rfl | inr x => exact rfl)) h
noncomputable def slices_IndexFuncF_T (v150 : List Nat) : Tree (Int) :=
  (.need (some (slices_IndexFuncF_l0_E v150 (0 : Int)) = some (slices_IndexFuncF_l0_E v150 (0 : Int))) <|
  (.call (slices_IndexFuncF_l0_g v150 (0 : Int)) fun v160 =>
  (.sum v160 (fun v161 =>
   .leaf v161
  ) (fun v162 =>
   .leaf (-1 : Int)
  ))))

noncomputable def slices_IndexFuncF_g (v150 : List Nat) : Option (Int) := (slices_IndexFuncF_T v150).run
def slices_IndexFuncF_enc (v150 : List Nat) (y : Int) : Rs := (.int .i64 y, [])
theorem slices_IndexFuncF_den (v150 : List Nat) : (den TT (tabD slices_IndexFuncF_tab) (tabM slices_IndexFuncF_tab) (slices_IndexFuncF_LO v150) (codeOf Try.f168) ([.bslc (BR.root 0) (.f32 v150), .fn 138 []] ++ List.replicate (Try.f168.ntmps - ([.bslc (BR.root 0) (.f32 v150), .fn 138 []] : List DV).length) .undef) []).bind (retD TT Try.f168.results.toList 0) = (slices_IndexFuncF_T v150).bind fun y => .leaf (slices_IndexFuncF_enc v150 y) := by kernel_rfl
theorem slices_IndexFuncF_fn (v150 : List Nat) (F : Fr) (hm : F.ids.length = 0) (h0 : St F [] F.H0) (hA : DVs.Ok F [] [.bslc (BR.root 0) (.f32 v150), .fn 138 []]) {y : Int} (hy : slices_IndexFuncF_g v150 = some y) : ∃ H', FnOk Try.prog 168 (DVs.av F [.bslc (BR.root 0) (.f32 v150), .fn 138 []]) F.H0 ((slices_IndexFuncF_enc v150 y).1.av F) H' ∧ St F (slices_IndexFuncF_enc v150 y).2 H' ∧ (slices_IndexFuncF_enc v150 y).1.Ok F (slices_IndexFuncF_enc v150 y).2 :=
  fn_fin tok slices_IndexFuncF_hO mixed Try.func168 Try.call168 (by kernel_rfl) (LoopsOk_eq (l := [(0, bodyOf Try.f168 0)]) (by kernel_rfl) ⟨slices_IndexFuncF_l0_ok v150, trivial⟩) (slices_IndexFuncF_den v150) hy hm h0 hA
noncomputable def slices_IndexFuncF_F : DFn := fun args L =>
  match args with
  | [a1, .fn 138 []] =>
    optT (rowF32 L a1) fun v150 =>
    .call (slices_IndexFuncF_g v150) fun y => .leaf (.int .i64 y, L)
  | _ => .fail
theorem slices_IndexFuncF_Fok : COk Try.prog 168 slices_IndexFuncF_F true := by
  intro F L H args r L' hs ha hr
  unfold slices_IndexFuncF_F at hr
  split at hr
  · rename_i a1
    obtain ⟨v150, hv150, hr⟩ := optT_run hr
    simp only [Tree.run] at hr
    obtain ⟨y, hy, hr⟩ := Option.bind_eq_some_iff.1 hr
    simp only [Tree.run, Option.some.injEq, Prod.mk.injEq] at hr
    obtain ⟨rfl, rfl⟩ := hr
    exact call_ok0 hs (fun k => (([a1.av F] : List AV)[k]?).getD .top) [a1, .fn 138 []] [.bslc (BR.root 0) (.f32 v150), .fn 138 []] (fun F' h0 hi hρ => ⟨by simp [DVs.av, DV.av, BR.av, hρ], slices_IndexFuncF_fn v150 F' (by rw [hi]; rfl) (st_nil hi) ⟨bslc_ok hi (by rw [h0, hρ]; exact rowF32_ok hs (DVs.okAt ha 0 rfl) hv150), trivial, trivial⟩ hy⟩) rfl
  · cases hr
/-! slices.ContainsFunc[list of float32,float32] -/
noncomputable def slices_ContainsFuncF_LO (v149 : List Nat) : LOr := fun id e L =>
  match id with
  | _ => .fail
noncomputable def slices_ContainsFuncF_tab : List (FuncId × DFn × Bool) := [(168, slices_IndexFuncF_F, true)]
theorem slices_ContainsFuncF_hO : OrcOk Try.prog (tabD slices_ContainsFuncF_tab) (tabM slices_ContainsFuncF_tab) := tabD_cons slices_IndexFuncF_Fok (tabD_nil _)
noncomputable def slices_ContainsFuncF_T (v149 : List Nat) : Tree (Bool) :=
  (.call (slices_IndexFuncF_g v149) fun v163 =>
  .leaf (decide ((0 : Int) ≤ v163)))

noncomputable def slices_ContainsFuncF_g (v149 : List Nat) : Option (Bool) := (slices_ContainsFuncF_T v149).run
def slices_ContainsFuncF_enc (v149 : List Nat) (y : Bool) : Rs := (.bool y, [])
theorem slices_ContainsFuncF_den (v149 : List Nat) : (den TT (tabD slices_ContainsFuncF_tab) (tabM slices_ContainsFuncF_tab) (slices_ContainsFuncF_LO v149) (codeOf Try.f137) ([.bslc (BR.root 0) (.f32 v149), .fn 138 []] ++ List.replicate (Try.f137.ntmps - ([.bslc (BR.root 0) (.f32 v149), .fn 138 []] : List DV).length) .undef) []).bind (retD TT Try.f137.results.toList 0) = (slices_ContainsFuncF_T v149).bind fun y => .leaf (slices_ContainsFuncF_enc v149 y) := by kernel_rfl
theorem slices_ContainsFuncF_fn (v149 : List Nat) (F : Fr) (hm : F.ids.length = 0) (h0 : St F [] F.H0) (hA : DVs.Ok F [] [.bslc (BR.root 0) (.f32 v149), .fn 138 []]) {y : Bool} (hy : slices_ContainsFuncF_g v149 = some y) : ∃ H', FnOk Try.prog 137 (DVs.av F [.bslc (BR.root 0) (.f32 v149), .fn 138 []]) F.H0 ((slices_ContainsFuncF_enc v149 y).1.av F) H' ∧ St F (slices_ContainsFuncF_enc v149 y).2 H' ∧ (slices_ContainsFuncF_enc v149 y).1.Ok F (slices_ContainsFuncF_enc v149 y).2 :=
  fn_fin tok slices_ContainsFuncF_hO mixed Try.func137 Try.call137 (by kernel_rfl) (LoopsOk_eq (l := []) (by kernel_rfl) trivial) (slices_ContainsFuncF_den v149) hy hm h0 hA
noncomputable def slices_ContainsFuncF_F : DFn := fun args L =>
  match args with
  | [a1, .fn 138 []] =>
    optT (rowF32 L a1) fun v149 =>
    .call (slices_ContainsFuncF_g v149) fun y => .leaf (.bool y, L)
  | _ => .fail
theorem slices_ContainsFuncF_Fok : COk Try.prog 137 slices_ContainsFuncF_F true := by
  intro F L H args r L' hs ha hr
  unfold slices_ContainsFuncF_F at hr
  split at hr
  · rename_i a1
    obtain ⟨v149, hv149, hr⟩ := optT_run hr
    simp only [Tree.run] at hr
    obtain ⟨y, hy, hr⟩ := Option.bind_eq_some_iff.1 hr
    simp only [Tree.run, Option.some.injEq, Prod.mk.injEq] at hr
    obtain ⟨rfl, rfl⟩ := hr
    exact call_ok0 hs (fun k => (([a1.av F] : List AV)[k]?).getD .top) [a1, .fn 138 []] [.bslc (BR.root 0) (.f32 v149), .fn 138 []] (fun F' h0 hi hρ => ⟨by simp [DVs.av, DV.av, BR.av, hρ], slices_ContainsFuncF_fn v149 F' (by rw [hi]; rfl) (st_nil hi) ⟨bslc_ok hi (by rw [h0, hρ]; exact rowF32_ok hs (DVs.okAt ha 0 rfl) hv149), trivial, trivial⟩ hy⟩) rfl
  · cases hr
/-! impl.areFinite -/
noncomputable def impl_areFinite_LO (v148 : List Nat) : LOr := fun id e L =>
  match id with
  | _ => .fail
noncomputable def impl_areFinite_tab : List (FuncId × DFn × Bool) := [(137, slices_ContainsFuncF_F, true)]
theorem impl_areFinite_hO : OrcOk Try.prog (tabD impl_areFinite_tab) (tabM impl_areFinite_tab) := tabD_cons slices_ContainsFuncF_Fok (tabD_nil _)
noncomputable def impl_areFinite_T (v148 : List Nat) : Tree (Bool) :=
  (.call (slices_ContainsFuncF_g v148) fun v164 =>
  .leaf (!v164))

noncomputable def impl_areFinite_g (v148 : List Nat) : Option (Bool) := (impl_areFinite_T v148).run
def impl_areFinite_enc (v148 : List Nat) (y : Bool) : Rs := (.bool y, [])
theorem impl_areFinite_den (v148 : List Nat) : (den TT (tabD impl_areFinite_tab) (tabM impl_areFinite_tab) (impl_areFinite_LO v148) (codeOf Try.f68) ([.bslc (BR.root 0) (.f32 v148)] ++ List.replicate (Try.f68.ntmps - ([.bslc (BR.root 0) (.f32 v148)] : List DV).length) .undef) []).bind (retD TT Try.f68.results.toList 0) = (impl_areFinite_T v148).bind fun y => .leaf (impl_areFinite_enc v148 y) := by kernel_rfl
theorem impl_areFinite_fn (v148 : List Nat) (F : Fr) (hm : F.ids.length = 0) (h0 : St F [] F.H0) (hA : DVs.Ok F [] [.bslc (BR.root 0) (.f32 v148)]) {y : Bool} (hy : impl_areFinite_g v148 = some y) : ∃ H', FnOk Try.prog 68 (DVs.av F [.bslc (BR.root 0) (.f32 v148)]) F.H0 ((impl_areFinite_enc v148 y).1.av F) H' ∧ St F (impl_areFinite_enc v148 y).2 H' ∧ (impl_areFinite_enc v148 y).1.Ok F (impl_areFinite_enc v148 y).2 :=
  fn_fin tok impl_areFinite_hO mixed Try.func68 Try.call68 (by kernel_rfl) (LoopsOk_eq (l := []) (by kernel_rfl) trivial) (impl_areFinite_den v148) hy hm h0 hA
noncomputable def impl_areFinite_F : DFn := fun args L =>
  match args with
  | [a1] =>
    optT (rowF32 L a1) fun v148 =>
    .call (impl_areFinite_g v148) fun y => .leaf (.bool y, L)
  | _ => .fail
theorem impl_areFinite_Fok : COk Try.prog 68 impl_areFinite_F true := by
  intro F L H args r L' hs ha hr
  unfold impl_areFinite_F at hr
  split at hr
  · rename_i a1
    obtain ⟨v148, hv148, hr⟩ := optT_run hr
    simp only [Tree.run] at hr
    obtain ⟨y, hy, hr⟩ := Option.bind_eq_some_iff.1 hr
    simp only [Tree.run, Option.some.injEq, Prod.mk.injEq] at hr
    obtain ⟨rfl, rfl⟩ := hr
    exact call_ok0 hs (fun k => (([a1.av F] : List AV)[k]?).getD .top) [a1] [.bslc (BR.root 0) (.f32 v148)] (fun F' h0 hi hρ => ⟨by simp [DVs.av, DV.av, BR.av, hρ], impl_areFinite_fn v148 F' (by rw [hi]; rfl) (st_nil hi) ⟨bslc_ok hi (by rw [h0, hρ]; exact rowF32_ok hs (DVs.okAt ha 0 rfl) hv148), trivial⟩ hy⟩) rfl
  · cases hr
/-! impl.isList -/
noncomputable def impl_isList_LO (v142 : List Nat) (v143 : Int) : LOr := fun id e L =>
  match id with
  | _ => .fail
noncomputable def impl_isList_tab : List (FuncId × DFn × Bool) := [(112, impl_lengthF_F, true), (73, impl_inRange_F, true), (68, impl_areFinite_F, true)]
theorem impl_isList_hO : OrcOk Try.prog (tabD impl_isList_tab) (tabM impl_isList_tab) := tabD_cons impl_lengthF_Fok (tabD_cons impl_inRange_Fok (tabD_cons impl_areFinite_Fok (tabD_nil _)))
noncomputable def impl_isList_T (v142 : List Nat) (v143 : Int) : Tree (Bool) :=
  (.br (impl_inRange_v (impl_lengthF_v v142) (1 : Int) v143) (
   (.call (impl_areFinite_g v142) fun v165 =>
   .leaf v165)
  ) (
   .leaf false
  ))

noncomputable def impl_isList_g (v142 : List Nat) (v143 : Int) : Option (Bool) := (impl_isList_T v142 v143).run
def impl_isList_enc (v142 : List Nat) (v143 : Int) (y : Bool) : Rs := (.bool y, [])
theorem impl_isList_den (v142 : List Nat) (v143 : Int) : (den TT (tabD impl_isList_tab) (tabM impl_isList_tab) (impl_isList_LO v142 v143) (codeOf Try.f145) ([.bslc (BR.root 0) (.f32 v142), .int .i64 v143] ++ List.replicate (Try.f145.ntmps - ([.bslc (BR.root 0) (.f32 v142), .int .i64 v143] : List DV).length) .undef) []).bind (retD TT Try.f145.results.toList 0) = (impl_isList_T v142 v143).bind fun y => .leaf (impl_isList_enc v142 v143 y) := by kernel_rfl
theorem impl_isList_fn (v142 : List Nat) (v143 : Int) (F : Fr) (hm : F.ids.length = 0) (h0 : St F [] F.H0) (hA : DVs.Ok F [] [.bslc (BR.root 0) (.f32 v142), .int .i64 v143]) {y : Bool} (hy : impl_isList_g v142 v143 = some y) : ∃ H', FnOk Try.prog 145 (DVs.av F [.bslc (BR.root 0) (.f32 v142), .int .i64 v143]) F.H0 ((impl_isList_enc v142 v143 y).1.av F) H' ∧ St F (impl_isList_enc v142 v143 y).2 H' ∧ (impl_isList_enc v142 v143 y).1.Ok F (impl_isList_enc v142 v143 y).2 :=
  fn_fin tok impl_isList_hO mixed Try.func145 Try.call145 (by kernel_rfl) (LoopsOk_eq (l := []) (by kernel_rfl) trivial) (impl_isList_den v142 v143) hy hm h0 hA
noncomputable def impl_isList_F : DFn := fun args L =>
  match args with
  | [a1, .int .i64 v143] =>
    optT (rowF32 L a1) fun v142 =>
    .call (impl_isList_g v142 v143) fun y => .leaf (.bool y, L)
  | _ => .fail
theorem impl_isList_Fok : COk Try.prog 145 impl_isList_F true := by
  intro F L H args r L' hs ha hr
  unfold impl_isList_F at hr
  split at hr
  · rename_i a1 v143
    obtain ⟨v142, hv142, hr⟩ := optT_run hr
    simp only [Tree.run] at hr
    obtain ⟨y, hy, hr⟩ := Option.bind_eq_some_iff.1 hr
    simp only [Tree.run, Option.some.injEq, Prod.mk.injEq] at hr
    obtain ⟨rfl, rfl⟩ := hr
    exact call_ok0 hs (fun k => (([a1.av F] : List AV)[k]?).getD .top) [a1, .int .i64 v143] [.bslc (BR.root 0) (.f32 v142), .int .i64 v143] (fun F' h0 hi hρ => ⟨by simp [DVs.av, DV.av, BR.av, hρ], impl_isList_fn v142 v143 F' (by rw [hi]; rfl) (st_nil hi) ⟨bslc_ok hi (by rw [h0, hρ]; exact rowF32_ok hs (DVs.okAt ha 0 rfl) hv142), trivial, trivial⟩ hy⟩) rfl
  · cases hr
/-! impl.ValidThirds -/
noncomputable def impl_ValidThirds_LO (v139 : List Nat) (v140 : List Nat) (v141 : List Nat) : LOr := fun id e L =>
  match id with
  | _ => .fail
noncomputable def impl_ValidThirds_tab : List (FuncId × DFn × Bool) := [(145, impl_isList_F, true), (68, impl_areFinite_F, true)]
theorem impl_ValidThirds_hO : OrcOk Try.prog (tabD impl_ValidThirds_tab) (tabM impl_ValidThirds_tab) := tabD_cons impl_isList_Fok (tabD_cons impl_areFinite_Fok (tabD_nil _))
noncomputable def impl_ValidThirds_T (v139 : List Nat) (v140 : List Nat) (v141 : List Nat) : Tree (Bool) :=
  (.call (impl_isList_g v140 (32 : Int)) fun v166 =>
  (.br v166 (
   (.br (decide (((v139.length : Nat) : Int) = ((v140.length : Nat) : Int))) (
    (.br (decide (((v141.length : Nat) : Int) = ((v140.length : Nat) : Int))) (
     (.call (impl_areFinite_g v139) fun v167 =>
     (.br v167 (
      (.call (impl_areFinite_g v141) fun v168 =>
      (.br v168 (
       (.grd (inb (0 : Int) v139.length) <|
       (.br (feq .f32 (nth v139 (Int.toNat (0 : Int))) (0 : Nat)) (
        (.grd (inb (IntKind.i64.wrap (((v140.length : Nat) : Int) - (1 : Int))) v141.length) <|
        .leaf (feq .f32 (nth v141 (Int.toNat (IntKind.i64.wrap (((v140.length : Nat) : Int) - (1 : Int))))) (0 : Nat)))
       ) (
        .leaf false
       )))
      ) (
       .leaf false
      )))
     ) (
      .leaf false
     )))
    ) (
     .leaf false
    ))
   ) (
    .leaf false
   ))
  ) (
   .leaf false
  )))

noncomputable def impl_ValidThirds_g (v139 : List Nat) (v140 : List Nat) (v141 : List Nat) : Option (Bool) := (impl_ValidThirds_T v139 v140 v141).run
def impl_ValidThirds_enc (v139 : List Nat) (v140 : List Nat) (v141 : List Nat) (y : Bool) : Rs := (.bool y, [])
theorem impl_ValidThirds_den (v139 : List Nat) (v140 : List Nat) (v141 : List Nat) : (den TT (tabD impl_ValidThirds_tab) (tabM impl_ValidThirds_tab) (impl_ValidThirds_LO v139 v140 v141) (codeOf Try.f154) ([.agg [.bslc (BR.root 0) (.f32 v139), .bslc (BR.root 1) (.f32 v140), .bslc (BR.root 2) (.f32 v141)]] ++ List.replicate (Try.f154.ntmps - ([.agg [.bslc (BR.root 0) (.f32 v139), .bslc (BR.root 1) (.f32 v140), .bslc (BR.root 2) (.f32 v141)]] : List DV).length) .undef) []).bind (retD TT Try.f154.results.toList 0) = (impl_ValidThirds_T v139 v140 v141).bind fun y => .leaf (impl_ValidThirds_enc v139 v140 v141 y) := by kernel_rfl
theorem impl_ValidThirds_fn (v139 : List Nat) (v140 : List Nat) (v141 : List Nat) (F : Fr) (hm : F.ids.length = 0) (h0 : St F [] F.H0) (hA : DVs.Ok F [] [.agg [.bslc (BR.root 0) (.f32 v139), .bslc (BR.root 1) (.f32 v140), .bslc (BR.root 2) (.f32 v141)]]) {y : Bool} (hy : impl_ValidThirds_g v139 v140 v141 = some y) : ∃ H', FnOk Try.prog 154 (DVs.av F [.agg [.bslc (BR.root 0) (.f32 v139), .bslc (BR.root 1) (.f32 v140), .bslc (BR.root 2) (.f32 v141)]]) F.H0 ((impl_ValidThirds_enc v139 v140 v141 y).1.av F) H' ∧ St F (impl_ValidThirds_enc v139 v140 v141 y).2 H' ∧ (impl_ValidThirds_enc v139 v140 v141 y).1.Ok F (impl_ValidThirds_enc v139 v140 v141 y).2 :=
  fn_fin tok impl_ValidThirds_hO mixed Try.func154 Try.call154 (by kernel_rfl) (LoopsOk_eq (l := []) (by kernel_rfl) trivial) (impl_ValidThirds_den v139 v140 v141) hy hm h0 hA
noncomputable def impl_ValidThirds_F : DFn := fun args L =>
  match args with
  | [.agg [a1, a2, a3]] =>
    optT (rowF32 L a1) fun v139 =>
    optT (rowF32 L a2) fun v140 =>
    optT (rowF32 L a3) fun v141 =>
    .call (impl_ValidThirds_g v139 v140 v141) fun y => .leaf (.bool y, L)
  | _ => .fail
theorem impl_ValidThirds_Fok : COk Try.prog 154 impl_ValidThirds_F true := by
  intro F L H args r L' hs ha hr
  unfold impl_ValidThirds_F at hr
  split at hr
  · rename_i a1 a2 a3
    obtain ⟨v139, hv139, hr⟩ := optT_run hr
    obtain ⟨v140, hv140, hr⟩ := optT_run hr
    obtain ⟨v141, hv141, hr⟩ := optT_run hr
    simp only [Tree.run] at hr
    obtain ⟨y, hy, hr⟩ := Option.bind_eq_some_iff.1 hr
    simp only [Tree.run, Option.some.injEq, Prod.mk.injEq] at hr
    obtain ⟨rfl, rfl⟩ := hr
    exact call_ok0 hs (fun k => (([a1.av F, a2.av F, a3.av F] : List AV)[k]?).getD .top) [.agg [a1, a2, a3]] [.agg [.bslc (BR.root 0) (.f32 v139), .bslc (BR.root 1) (.f32 v140), .bslc (BR.root 2) (.f32 v141)]] (fun F' h0 hi hρ => ⟨by simp [DVs.av, DV.av, BR.av, hρ], impl_ValidThirds_fn v139 v140 v141 F' (by rw [hi]; rfl) (st_nil hi) ⟨⟨bslc_ok hi (by rw [h0, hρ]; exact rowF32_ok hs (DVs.okAt (DVs.okAt ha 0 rfl) 0 rfl) hv139), bslc_ok hi (by rw [h0, hρ]; exact rowF32_ok hs (DVs.okAt (DVs.okAt ha 0 rfl) 1 rfl) hv140), bslc_ok hi (by rw [h0, hρ]; exact rowF32_ok hs (DVs.okAt (DVs.okAt ha 0 rfl) 2 rfl) hv141), trivial⟩, trivial⟩ hy⟩) rfl
  · cases hr
/-! (impl.Thirds).takes -/
noncomputable def impl_Thirds_takes_LO (v135 : List Nat) (v136 : List Nat) (v137 : List Nat) (v138 : List Nat) : LOr := fun id e L =>
  match id with
  | _ => .fail
noncomputable def impl_Thirds_takes_tab : List (FuncId × DFn × Bool) := [(154, impl_ValidThirds_F, true), (68, impl_areFinite_F, true)]
theorem impl_Thirds_takes_hO : OrcOk Try.prog (tabD impl_Thirds_takes_tab) (tabM impl_Thirds_takes_tab) := tabD_cons impl_ValidThirds_Fok (tabD_cons impl_areFinite_Fok (tabD_nil _))
noncomputable def impl_Thirds_takes_T (v135 : List Nat) (v136 : List Nat) (v137 : List Nat) (v138 : List Nat) : Tree (Bool) :=
  (.call (impl_ValidThirds_g v135 v136 v137) fun v169 =>
  (.br v169 (
   (.br (decide (((v138.length : Nat) : Int) = ((v136.length : Nat) : Int))) (
    (.call (impl_areFinite_g v138) fun v170 =>
    .leaf v170)
   ) (
    .leaf false
   ))
  ) (
   .leaf false
  )))

noncomputable def impl_Thirds_takes_g (v135 : List Nat) (v136 : List Nat) (v137 : List Nat) (v138 : List Nat) : Option (Bool) := (impl_Thirds_takes_T v135 v136 v137 v138).run
def impl_Thirds_takes_enc (v135 : List Nat) (v136 : List Nat) (v137 : List Nat) (v138 : List Nat) (y : Bool) : Rs := (.bool y, [])
theorem impl_Thirds_takes_den (v135 : List Nat) (v136 : List Nat) (v137 : List Nat) (v138 : List Nat) : (den TT (tabD impl_Thirds_takes_tab) (tabM impl_Thirds_takes_tab) (impl_Thirds_takes_LO v135 v136 v137 v138) (codeOf Try.f104) ([.agg [.bslc (BR.root 0) (.f32 v135), .bslc (BR.root 1) (.f32 v136), .bslc (BR.root 2) (.f32 v137)], .bslc (BR.root 3) (.f32 v138)] ++ List.replicate (Try.f104.ntmps - ([.agg [.bslc (BR.root 0) (.f32 v135), .bslc (BR.root 1) (.f32 v136), .bslc (BR.root 2) (.f32 v137)], .bslc (BR.root 3) (.f32 v138)] : List DV).length) .undef) []).bind (retD TT Try.f104.results.toList 0) = (impl_Thirds_takes_T v135 v136 v137 v138).bind fun y => .leaf (impl_Thirds_takes_enc v135 v136 v137 v138 y) := by kernel_rfl
theorem impl_Thirds_takes_fn (v135 : List Nat) (v136 : List Nat) (v137 : List Nat) (v138 : List Nat) (F : Fr) (hm : F.ids.length = 0) (h0 : St F [] F.H0) (hA : DVs.Ok F [] [.agg [.bslc (BR.root 0) (.f32 v135), .bslc (BR.root 1) (.f32 v136), .bslc (BR.root 2) (.f32 v137)], .bslc (BR.root 3) (.f32 v138)]) {y : Bool} (hy : impl_Thirds_takes_g v135 v136 v137 v138 = some y) : ∃ H', FnOk Try.prog 104 (DVs.av F [.agg [.bslc (BR.root 0) (.f32 v135), .bslc (BR.root 1) (.f32 v136), .bslc (BR.root 2) (.f32 v137)], .bslc (BR.root 3) (.f32 v138)]) F.H0 ((impl_Thirds_takes_enc v135 v136 v137 v138 y).1.av F) H' ∧ St F (impl_Thirds_takes_enc v135 v136 v137 v138 y).2 H' ∧ (impl_Thirds_takes_enc v135 v136 v137 v138 y).1.Ok F (impl_Thirds_takes_enc v135 v136 v137 v138 y).2 :=
  fn_fin tok impl_Thirds_takes_hO mixed Try.func104 Try.call104 (by kernel_rfl) (LoopsOk_eq (l := []) (by kernel_rfl) trivial) (impl_Thirds_takes_den v135 v136 v137 v138) hy hm h0 hA
noncomputable def impl_Thirds_takes_F : DFn := fun args L =>
  match args with
  | [.agg [a1, a2, a3], a4] =>
    optT (rowF32 L a1) fun v135 =>
    optT (rowF32 L a2) fun v136 =>
    optT (rowF32 L a3) fun v137 =>
    optT (rowF32 L a4) fun v138 =>
    .call (impl_Thirds_takes_g v135 v136 v137 v138) fun y => .leaf (.bool y, L)
  | _ => .fail
theorem impl_Thirds_takes_Fok : COk Try.prog 104 impl_Thirds_takes_F true := by
  intro F L H args r L' hs ha hr
  unfold impl_Thirds_takes_F at hr
  split at hr
  · rename_i a1 a2 a3 a4
    obtain ⟨v135, hv135, hr⟩ := optT_run hr
    obtain ⟨v136, hv136, hr⟩ := optT_run hr
    obtain ⟨v137, hv137, hr⟩ := optT_run hr
    obtain ⟨v138, hv138, hr⟩ := optT_run hr
    simp only [Tree.run] at hr
    obtain ⟨y, hy, hr⟩ := Option.bind_eq_some_iff.1 hr
    simp only [Tree.run, Option.some.injEq, Prod.mk.injEq] at hr
    obtain ⟨rfl, rfl⟩ := hr
    exact call_ok0 hs (fun k => (([a1.av F, a2.av F, a3.av F, a4.av F] : List AV)[k]?).getD .top) [.agg [a1, a2, a3], a4] [.agg [.bslc (BR.root 0) (.f32 v135), .bslc (BR.root 1) (.f32 v136), .bslc (BR.root 2) (.f32 v137)], .bslc (BR.root 3) (.f32 v138)] (fun F' h0 hi hρ => ⟨by simp [DVs.av, DV.av, BR.av, hρ], impl_Thirds_takes_fn v135 v136 v137 v138 F' (by rw [hi]; rfl) (st_nil hi) ⟨⟨bslc_ok hi (by rw [h0, hρ]; exact rowF32_ok hs (DVs.okAt (DVs.okAt ha 0 rfl) 0 rfl) hv135), bslc_ok hi (by rw [h0, hρ]; exact rowF32_ok hs (DVs.okAt (DVs.okAt ha 0 rfl) 1 rfl) hv136), bslc_ok hi (by rw [h0, hρ]; exact rowF32_ok hs (DVs.okAt (DVs.okAt ha 0 rfl) 2 rfl) hv137), trivial⟩, bslc_ok hi (by rw [h0, hρ]; exact rowF32_ok hs (DVs.okAt ha 1 rfl) hv138), trivial⟩ hy⟩) rfl
  · cases hr
/-! slices.Clone[list of float32,float32] -/
noncomputable def slices_CloneF_LO (v173 : List Nat) : LOr := fun id e L =>
  match id with
  | _ => .fail
noncomputable def slices_CloneF_tab : List (FuncId × DFn × Bool) := []
theorem slices_CloneF_hO : OrcOk Try.prog (tabD slices_CloneF_tab) (tabM slices_CloneF_tab) := tabD_nil _
noncomputable def slices_CloneF_T (v173 : List Nat) : Tree (Unit) :=
  (.grd (decide (0 < v173.length)) <|
  (.grd (fits (([] : List Nat) ++ v173).length) <|
  .leaf ()))

noncomputable def slices_CloneF_g (v173 : List Nat) : Option (Unit) := (slices_CloneF_T v173).run
def slices_CloneF_enc (v173 : List Nat) (y : Unit) : Rs := (.own 0 0 ((([] : List Nat) ++ v173).length), [.row (.f32 (([] : List Nat) ++ v173)) 0])
theorem slices_CloneF_den (v173 : List Nat) : (den TT (tabD slices_CloneF_tab) (tabM slices_CloneF_tab) (slices_CloneF_LO v173) (codeOf Try.f105) ([.bslc (BR.root 0) (.f32 v173)] ++ List.replicate (Try.f105.ntmps - ([.bslc (BR.root 0) (.f32 v173)] : List DV).length) .undef) []).bind (retD TT Try.f105.results.toList 0) = (slices_CloneF_T v173).bind fun y => .leaf (slices_CloneF_enc v173 y) := by kernel_rfl
theorem slices_CloneF_fn (v173 : List Nat) (F : Fr) (hm : F.ids.length = 0) (h0 : St F [] F.H0) (hA : DVs.Ok F [] [.bslc (BR.root 0) (.f32 v173)]) {y : Unit} (hy : slices_CloneF_g v173 = some y) : ∃ H', FnOk Try.prog 105 (DVs.av F [.bslc (BR.root 0) (.f32 v173)]) F.H0 ((slices_CloneF_enc v173 y).1.av F) H' ∧ St F (slices_CloneF_enc v173 y).2 H' ∧ (slices_CloneF_enc v173 y).1.Ok F (slices_CloneF_enc v173 y).2 :=
  fn_fin tok slices_CloneF_hO mixed Try.func105 Try.call105 (by kernel_rfl) (LoopsOk_eq (l := []) (by kernel_rfl) trivial) (slices_CloneF_den v173) hy hm h0 hA
noncomputable def slices_CloneF_F : DFn := fun args L =>
  match args with
  | [a1] =>
    optT (rowF32 L a1) fun v173 =>
    .call (slices_CloneF_g v173) fun y => .leaf (.own (L.length + 0) 0 ((([] : List Nat) ++ v173).length), L ++ [.row (.f32 (([] : List Nat) ++ v173)) 0])
  | _ => .fail
theorem slices_CloneF_Fok : COk Try.prog 105 slices_CloneF_F true := by
  intro F L H args r L' hs ha hr
  unfold slices_CloneF_F at hr
  split at hr
  · rename_i a1
    obtain ⟨v173, hv173, hr⟩ := optT_run hr
    simp only [Tree.run] at hr
    obtain ⟨y, hy, hr⟩ := Option.bind_eq_some_iff.1 hr
    simp only [Tree.run, Option.some.injEq, Prod.mk.injEq] at hr
    obtain ⟨rfl, rfl⟩ := hr
    exact call_ok1 hs (fun k => (([a1.av F] : List AV)[k]?).getD .top) [a1] [.bslc (BR.root 0) (.f32 v173)] (fun F' h0 hi hρ => ⟨by simp [DVs.av, DV.av, BR.av, hρ], slices_CloneF_fn v173 F' (by rw [hi]; rfl) (st_nil hi) ⟨bslc_ok hi (by rw [h0, hρ]; exact rowF32_ok hs (DVs.okAt ha 0 rfl) hv173), trivial⟩ hy⟩) rfl rfl
  · cases hr
/-! impl.mul -/
noncomputable def impl_mul_LO (v175 : Nat) (v176 : Nat) : LOr := fun id e L =>
  match id with
  | _ => .fail
noncomputable def impl_mul_tab : List (FuncId × DFn × Bool) := []
theorem impl_mul_hO : OrcOk Try.prog (tabD impl_mul_tab) (tabM impl_mul_tab) := tabD_nil _
noncomputable def impl_mul_T (v175 : Nat) (v176 : Nat) : Tree (Nat) :=
  .leaf (fmul .f32 v175 v176)

noncomputable def impl_mul_g (v175 : Nat) (v176 : Nat) : Option (Nat) := (impl_mul_T v175 v176).run
def impl_mul_enc (v175 : Nat) (v176 : Nat) (y : Nat) : Rs := (.flt .f32 y, [])
theorem impl_mul_den (v175 : Nat) (v176 : Nat) : (den TT (tabD impl_mul_tab) (tabM impl_mul_tab) (impl_mul_LO v175 v176) (codeOf Try.f65) ([.flt .f32 v175, .flt .f32 v176] ++ List.replicate (Try.f65.ntmps - ([.flt .f32 v175, .flt .f32 v176] : List DV).length) .undef) []).bind (retD TT Try.f65.results.toList 0) = (impl_mul_T v175 v176).bind fun y => .leaf (impl_mul_enc v175 v176 y) := by kernel_rfl
theorem impl_mul_fn (v175 : Nat) (v176 : Nat) (F : Fr) (hm : F.ids.length = 0) (h0 : St F [] F.H0) (hA : DVs.Ok F [] [.flt .f32 v175, .flt .f32 v176]) {y : Nat} (hy : impl_mul_g v175 v176 = some y) : ∃ H', FnOk Try.prog 65 (DVs.av F [.flt .f32 v175, .flt .f32 v176]) F.H0 ((impl_mul_enc v175 v176 y).1.av F) H' ∧ St F (impl_mul_enc v175 v176 y).2 H' ∧ (impl_mul_enc v175 v176 y).1.Ok F (impl_mul_enc v175 v176 y).2 :=
  fn_fin tok impl_mul_hO mixed Try.func65 Try.call65 (by kernel_rfl) (LoopsOk_eq (l := []) (by kernel_rfl) trivial) (impl_mul_den v175 v176) hy hm h0 hA
def impl_mul_v (v175 : Nat) (v176 : Nat) : Nat :=
  fmul .f32 v175 v176
theorem impl_mul_tot (v175 : Nat) (v176 : Nat) : impl_mul_g v175 v176 = some (impl_mul_v v175 v176) := by
  unfold impl_mul_g impl_mul_T impl_mul_v
  simp only [Tree.run]
  repeat' (first | rfl | split)
noncomputable def impl_mul_F : DFn := fun args L =>
  match args with
  | [.flt .f32 v175, .flt .f32 v176] =>
    .leaf (.flt .f32 (impl_mul_v v175 v176), L)
  | _ => .fail
theorem impl_mul_Fok : COk Try.prog 65 impl_mul_F true := by
  intro F L H args r L' hs ha hr
  unfold impl_mul_F at hr
  split at hr
  · rename_i v175 v176
    have hy := impl_mul_tot v175 v176
    generalize impl_mul_v v175 v176 = y at hy hr
    simp only [Tree.run, Option.some.injEq, Prod.mk.injEq] at hr
    obtain ⟨rfl, rfl⟩ := hr
    exact call_ok0 hs (fun k => (([] : List AV)[k]?).getD .top) [.flt .f32 v175, .flt .f32 v176] [.flt .f32 v175, .flt .f32 v176] (fun F' h0 hi hρ => ⟨by simp [DVs.av, DV.av, BR.av, hρ], impl_mul_fn v175 v176 F' (by rw [hi]; rfl) (st_nil hi) ⟨trivial, trivial, trivial⟩ hy⟩) rfl
  · cases hr
/-! slices.Index[list of float32,float32] -/
noncomputable def slices_IndexF_l0_T (v194 : List Nat) (v195 : Nat) (s : Int) : Tree ((Int) ⊕ ((Int) ⊕ (Unit))) :=
  (.br (decide (s < ((v194.length : Nat) : Int))) (
   (.grd (inb s v194.length) <|
   (.br (feq .f32 v195 (nth v194 (Int.toNat s))) (
    .leaf (.inr (.inl s))
   ) (
    .leaf (.inl (IntKind.i64.wrap (s + (1 : Int))))
   )))
  ) (
   .leaf (.inr (.inr ()))
  ))

noncomputable def slices_IndexF_l0_g (v194 : List Nat) (v195 : Nat) (s0 : Int) : Option ((Int) ⊕ (Unit)) := whileM (fun s => (slices_IndexF_l0_T v194 v195 s).run) s0
def slices_IndexF_l0_E (v194 : List Nat) (v195 : Nat) (s : Int) : Sd := ([.bslc (BR.root 0) (.f32 v194), .flt .f32 v195, .top, .top, .top, .top, .top, .int .i64 ((v194.length : Nat) : Int), .int .i64 s, .top, .top, .top, .top, .top, .top, .top, .top, .top, .top], [])
def slices_IndexF_l0_X (v194 : List Nat) (v195 : Nat) (x : (Int) ⊕ (Unit)) : Out := (match x with | .inl x => (.ret, [.top, .top, .top, .top, .int .i64 x, .top, .top, .top, .top, .top, .top, .top, .top, .top, .top, .top, .top, .top, .top], []) | .inr x => (.normal, [.top, .top, .top, .top, .top, .top, .top, .top, .top, .top, .top, .top, .top, .top, .top, .top, .top, .top, .top], []))
def slices_IndexF_l0_kill : List Nat := [0, 0, 1, 1, 1, 1, 1, 0, 0, 1, 1, 1, 1, 1, 1, 1, 1, 1, 1]
def slices_IndexF_l0_nx : Exit → List Nat
  | .exit 0 => [1, 1, 1, 1, 1, 1, 1, 1, 1, 1, 1, 1, 1, 1, 1, 1, 1, 1, 1]
  | .ret => [1, 1, 1, 1, 0, 1, 1, 1, 1, 1, 1, 1, 1, 1, 1, 1, 1, 1, 1]
  | _ => []
noncomputable def slices_IndexF_LO (v194 : List Nat) (v195 : Nat) : LOr := fun id e L =>
  match id with
  | 0 => .need (normA 0 slices_IndexF_l0_kill e L = some (slices_IndexF_l0_E v194 v195 (gI (vAt e 8)))) (.call (slices_IndexF_l0_g v194 v195 (gI (vAt e 8))) fun x => .sum x (fun b0 => .leaf (slices_IndexF_l0_X v194 v195 (.inl b0))) (fun c0 => .leaf (slices_IndexF_l0_X v194 v195 (.inr c0))))
  | _ => .fail
noncomputable def slices_IndexF_tab : List (FuncId × DFn × Bool) := []
theorem slices_IndexF_hO : OrcOk Try.prog (tabD slices_IndexF_tab) (tabM slices_IndexF_tab) := tabD_nil _
theorem slices_IndexF_l0_be (v194 : List Nat) (v195 : Nat) (s : Int) : bodyT TT (tabD slices_IndexF_tab) (tabM slices_IndexF_tab) (slices_IndexF_LO v194 v195) 0 slices_IndexF_l0_kill slices_IndexF_l0_nx (bodyOf Try.f176 0) 0 (slices_IndexF_l0_E v194 v195 s) = (slices_IndexF_l0_T v194 v195 s).bind fun y => .leaf (outS (slices_IndexF_l0_E v194 v195) (slices_IndexF_l0_X v194 v195) y) := by kernel_rfl
theorem slices_IndexF_l0_ok (v194 : List Nat) (v195 : Nat) : LSound Try.prog 0 (slices_IndexF_LO v194 v195) 0 (bodyOf Try.f176 0) := by
  intro e L out h
  exact lo_ok (E := slices_IndexF_l0_E v194 v195) (gT := slices_IndexF_l0_T v194 v195) (X := slices_IndexF_l0_X v194 v195) (s0 := (gI (vAt e 8))) tok slices_IndexF_hO mixed (LoopsOk_eq (l := []) (by kernel_rfl) trivial) (slices_IndexF_l0_be v194 v195) rfl (by intro x; (cases x with | inl b => rfl | inr x => exact rfl)) h
noncomputable def slices_IndexF_T (v194 : List Nat) (v195 : Nat) : Tree (Int) :=
  (.need (some (slices_IndexF_l0_E v194 v195 (0 : Int)) = some (slices_IndexF_l0_E v194 v195 (0 : Int))) <|
  (.call (slices_IndexF_l0_g v194 v195 (0 : Int)) fun v199 =>
  (.sum v199 (fun v200 =>
   .leaf v200
  ) (fun v201 =>
   .leaf (-1 : Int)
  ))))

noncomputable def slices_IndexF_g (v194 : List Nat) (v195 : Nat) : Option (Int) := (slices_IndexF_T v194 v195).run
def slices_IndexF_enc (v194 : List Nat) (v195 : Nat) (y : Int) : Rs := (.int .i64 y, [])
theorem slices_IndexF_den (v194 : List Nat) (v195 : Nat) : (den TT (tabD slices_IndexF_tab) (tabM slices_IndexF_tab) (slices_IndexF_LO v194 v195) (codeOf Try.f176) ([.bslc (BR.root 0) (.f32 v194), .flt .f32 v195] ++ List.replicate (Try.f176.ntmps - ([.bslc (BR.root 0) (.f32 v194), .flt .f32 v195] : List DV).length) .undef) []).bind (retD TT Try.f176.results.toList 0) = (slices_IndexF_T v194 v195).bind fun y => .leaf (slices_IndexF_enc v194 v195 y) := by kernel_rfl
theorem slices_IndexF_fn (v194 : List Nat) (v195 : Nat) (F : Fr) (hm : F.ids.length = 0) (h0 : St F [] F.H0) (hA : DVs.Ok F [] [.bslc (BR.root 0) (.f32 v194), .flt .f32 v195]) {y : Int} (hy : slices_IndexF_g v194 v195 = some y) : ∃ H', FnOk Try.prog 176 (DVs.av F [.bslc (BR.root 0) (.f32 v194), .flt .f32 v195]) F.H0 ((slices_IndexF_enc v194 v195 y).1.av F) H' ∧ St F (slices_IndexF_enc v194 v195 y).2 H' ∧ (slices_IndexF_enc v194 v195 y).1.Ok F (slices_IndexF_enc v194 v195 y).2 :=
  fn_fin tok slices_IndexF_hO mixed Try.func176 Try.call176 (by kernel_rfl) (LoopsOk_eq (l := [(0, bodyOf Try.f176 0)]) (by kernel_rfl) ⟨slices_IndexF_l0_ok v194 v195, trivial⟩) (slices_IndexF_den v194 v195) hy hm h0 hA
noncomputable def slices_IndexF_F : DFn := fun args L =>
  match args with
  | [a1, .flt .f32 v195] =>
    optT (rowF32 L a1) fun v194 =>
    .call (slices_IndexF_g v194 v195) fun y => .leaf (.int .i64 y, L)
  | _ => .fail
theorem slices_IndexF_Fok : COk Try.prog 176 slices_IndexF_F true := by
  intro F L H args r L' hs ha hr
  unfold slices_IndexF_F at hr
  split at hr
  · rename_i a1 v195
    obtain ⟨v194, hv194, hr⟩ := optT_run hr
    simp only [Tree.run] at hr
    obtain ⟨y, hy, hr⟩ := Option.bind_eq_some_iff.1 hr
    simp only [Tree.run, Option.some.injEq, Prod.mk.injEq] at hr
    obtain ⟨rfl, rfl⟩ := hr
    exact call_ok0 hs (fun k => (([a1.av F] : List AV)[k]?).getD .top) [a1, .flt .f32 v195] [.bslc (BR.root 0) (.f32 v194), .flt .f32 v195] (fun F' h0 hi hρ => ⟨by simp [DVs.av, DV.av, BR.av, hρ], slices_IndexF_fn v194 v195 F' (by rw [hi]; rfl) (st_nil hi) ⟨bslc_ok hi (by rw [h0, hρ]; exact rowF32_ok hs (DVs.okAt ha 0 rfl) hv194), trivial, trivial⟩ hy⟩) rfl
  · cases hr
/-! slices.Contains[list of float32,float32] -/
noncomputable def slices_ContainsF_LO (v192 : List Nat) (v193 : Nat) : LOr := fun id e L =>
  match id with
  | _ => .fail
noncomputable def slices_ContainsF_tab : List (FuncId × DFn × Bool) := [(176, slices_IndexF_F, true)]
theorem slices_ContainsF_hO : OrcOk Try.prog (tabD slices_ContainsF_tab) (tabM slices_ContainsF_tab) := tabD_cons slices_IndexF_Fok (tabD_nil _)
noncomputable def slices_ContainsF_T (v192 : List Nat) (v193 : Nat) : Tree (Bool) :=
  (.call (slices_IndexF_g v192 v193) fun v202 =>
  .leaf (decide ((0 : Int) ≤ v202)))

noncomputable def slices_ContainsF_g (v192 : List Nat) (v193 : Nat) : Option (Bool) := (slices_ContainsF_T v192 v193).run
def slices_ContainsF_enc (v192 : List Nat) (v193 : Nat) (y : Bool) : Rs := (.bool y, [])
theorem slices_ContainsF_den (v192 : List Nat) (v193 : Nat) : (den TT (tabD slices_ContainsF_tab) (tabM slices_ContainsF_tab) (slices_ContainsF_LO v192 v193) (codeOf Try.f155) ([.bslc (BR.root 0) (.f32 v192), .flt .f32 v193] ++ List.replicate (Try.f155.ntmps - ([.bslc (BR.root 0) (.f32 v192), .flt .f32 v193] : List DV).length) .undef) []).bind (retD TT Try.f155.results.toList 0) = (slices_ContainsF_T v192 v193).bind fun y => .leaf (slices_ContainsF_enc v192 v193 y) := by kernel_rfl
theorem slices_ContainsF_fn (v192 : List Nat) (v193 : Nat) (F : Fr) (hm : F.ids.length = 0) (h0 : St F [] F.H0) (hA : DVs.Ok F [] [.bslc (BR.root 0) (.f32 v192), .flt .f32 v193]) {y : Bool} (hy : slices_ContainsF_g v192 v193 = some y) : ∃ H', FnOk Try.prog 155 (DVs.av F [.bslc (BR.root 0) (.f32 v192), .flt .f32 v193]) F.H0 ((slices_ContainsF_enc v192 v193 y).1.av F) H' ∧ St F (slices_ContainsF_enc v192 v193 y).2 H' ∧ (slices_ContainsF_enc v192 v193 y).1.Ok F (slices_ContainsF_enc v192 v193 y).2 :=
  fn_fin tok slices_ContainsF_hO mixed Try.func155 Try.call155 (by kernel_rfl) (LoopsOk_eq (l := []) (by kernel_rfl) trivial) (slices_ContainsF_den v192 v193) hy hm h0 hA
noncomputable def slices_ContainsF_F : DFn := fun args L =>
  match args with
  | [a1, .flt .f32 v193] =>
    optT (rowF32 L a1) fun v192 =>
    .call (slices_ContainsF_g v192 v193) fun y => .leaf (.bool y, L)
  | _ => .fail
theorem slices_ContainsF_Fok : COk Try.prog 155 slices_ContainsF_F true := by
  intro F L H args r L' hs ha hr
  unfold slices_ContainsF_F at hr
  split at hr
  · rename_i a1 v193
    obtain ⟨v192, hv192, hr⟩ := optT_run hr
    simp only [Tree.run] at hr
    obtain ⟨y, hy, hr⟩ := Option.bind_eq_some_iff.1 hr
    simp only [Tree.run, Option.some.injEq, Prod.mk.injEq] at hr
    obtain ⟨rfl, rfl⟩ := hr
    exact call_ok0 hs (fun k => (([a1.av F] : List AV)[k]?).getD .top) [a1, .flt .f32 v193] [.bslc (BR.root 0) (.f32 v192), .flt .f32 v193] (fun F' h0 hi hρ => ⟨by simp [DVs.av, DV.av, BR.av, hρ], slices_ContainsF_fn v192 v193 F' (by rw [hi]; rfl) (st_nil hi) ⟨bslc_ok hi (by rw [h0, hρ]; exact rowF32_ok hs (DVs.okAt ha 0 rfl) hv192), trivial, trivial⟩ hy⟩) rfl
  · cases hr
/-! impl.allFinite -/
noncomputable def impl_allFinite_LO (v214 : List Nat) : LOr := fun id e L =>
  match id with
  | _ => .fail
noncomputable def impl_allFinite_tab : List (FuncId × DFn × Bool) := [(68, impl_areFinite_F, true)]
theorem impl_allFinite_hO : OrcOk Try.prog (tabD impl_allFinite_tab) (tabM impl_allFinite_tab) := tabD_cons impl_areFinite_Fok (tabD_nil _)
noncomputable def impl_allFinite_T (v214 : List Nat) : Tree ((Unit) ⊕ (Unit)) :=
  (.call (impl_areFinite_g v214) fun v215 =>
  (.br (!v215) (
   .leaf (.inl ())
  ) (
   .leaf (.inr ())
  )))

noncomputable def impl_allFinite_g (v214 : List Nat) : Option ((Unit) ⊕ (Unit)) := (impl_allFinite_T v214).run
def impl_allFinite_enc (v214 : List Nat) (y : (Unit) ⊕ (Unit)) : Rs := (match y with | .inl y => (.tup [.nilslc, .lit false], []) | .inr y => (.tup [.bslc (BR.root 0) (.f32 v214), .lit true], []))
theorem impl_allFinite_den (v214 : List Nat) : (den TT (tabD impl_allFinite_tab) (tabM impl_allFinite_tab) (impl_allFinite_LO v214) (codeOf Try.f93) ([.bslc (BR.root 0) (.f32 v214)] ++ List.replicate (Try.f93.ntmps - ([.bslc (BR.root 0) (.f32 v214)] : List DV).length) .undef) []).bind (retD TT Try.f93.results.toList 0) = (impl_allFinite_T v214).bind fun y => .leaf (impl_allFinite_enc v214 y) := by kernel_rfl
theorem impl_allFinite_fn (v214 : List Nat) (F : Fr) (hm : F.ids.length = 0) (h0 : St F [] F.H0) (hA : DVs.Ok F [] [.bslc (BR.root 0) (.f32 v214)]) {y : (Unit) ⊕ (Unit)} (hy : impl_allFinite_g v214 = some y) : ∃ H', FnOk Try.prog 93 (DVs.av F [.bslc (BR.root 0) (.f32 v214)]) F.H0 ((impl_allFinite_enc v214 y).1.av F) H' ∧ St F (impl_allFinite_enc v214 y).2 H' ∧ (impl_allFinite_enc v214 y).1.Ok F (impl_allFinite_enc v214 y).2 :=
  fn_fin tok impl_allFinite_hO mixed Try.func93 Try.call93 (by kernel_rfl) (LoopsOk_eq (l := []) (by kernel_rfl) trivial) (impl_allFinite_den v214) hy hm h0 hA
noncomputable def impl_allFinite_F : DFn := fun args L =>
  match args with
  | [a1] =>
    optT (rowF32 L a1) fun v214 =>
    .call (impl_allFinite_g v214) fun y => .sum y (fun y0 => .leaf (.tup [.nilslc, .lit false], L)) (fun z0 => .leaf (.tup [a1, .lit true], L))
  | _ => .fail
theorem impl_allFinite_Fok : COk Try.prog 93 impl_allFinite_F true := by
  intro F L H args r L' hs ha hr
  unfold impl_allFinite_F at hr
  split at hr
  · rename_i a1
    obtain ⟨v214, hv214, hr⟩ := optT_run hr
    simp only [Tree.run] at hr
    obtain ⟨y, hy, hr⟩ := Option.bind_eq_some_iff.1 hr
    cases y with
    | inl y =>
      simp only [Tree.run, Option.some.injEq, Prod.mk.injEq] at hr
      obtain ⟨rfl, rfl⟩ := hr
      exact call_ok0 hs (fun k => (([a1.av F] : List AV)[k]?).getD .top) [a1] [.bslc (BR.root 0) (.f32 v214)] (fun F' h0 hi hρ => ⟨by simp [DVs.av, DV.av, BR.av, hρ], impl_allFinite_fn v214 F' (by rw [hi]; rfl) (st_nil hi) ⟨bslc_ok hi (by rw [h0, hρ]; exact rowF32_ok hs (DVs.okAt ha 0 rfl) hv214), trivial⟩ hy⟩) rfl
    | inr y =>
      simp only [Tree.run, Option.some.injEq, Prod.mk.injEq] at hr
      obtain ⟨rfl, rfl⟩ := hr
      exact call_al0 hs (fun k => (([a1.av F] : List AV)[k]?).getD .top) [a1] [.bslc (BR.root 0) (.f32 v214)] (fun F' h0 hi hρ => ⟨by simp [DVs.av, DV.av, BR.av, hρ], impl_allFinite_fn v214 F' (by rw [hi]; rfl) (st_nil hi) ⟨bslc_ok hi (by rw [h0, hρ]; exact rowF32_ok hs (DVs.okAt ha 0 rfl) hv214), trivial⟩ hy⟩) (fun F' h0 hi hρ => by simp [impl_allFinite_enc, DVs.av, DV.av, BR.av, hρ]) ⟨(DVs.okAt ha 0 rfl), trivial, trivial⟩
  · cases hr
/-! impl.ThirdsSolve -/
noncomputable def impl_ThirdsSolve_l0_T (v177 : List Nat) (v179 : List Nat) (v180 : List Nat) (s : Int × (List Nat) × (List Nat)) : Tree ((Int × (List Nat) × (List Nat)) ⊕ ((List Nat) × (List Nat))) :=
  (.br (decide (s.1 < ((v180.length : Nat) : Int))) (
   (.grd (inb s.1 v177.length) <|
   (.grd (inb (IntKind.i64.wrap (s.1 - (1 : Int))) ((s.2.1).length)) <|
   (.grd (inb s.1 ((s.2.1).length)) <|
   (.grd (inb (IntKind.i64.wrap (s.1 - (1 : Int))) v179.length) <|
   (.grd (inb s.1 ((s.2.1).length)) <|
   (.grd (inb s.1 ((s.2.2).length)) <|
   (.grd (inb (IntKind.i64.wrap (s.1 - (1 : Int))) ((s.2.2).length)) <|
   (.grd (inb s.1 ((s.2.2).length)) <|
   .leaf (.inl (IntKind.i64.wrap (s.1 + (1 : Int)), List.set s.2.1 (Int.toNat s.1) (fsub .f32 (nth s.2.1 (Int.toNat s.1)) (impl_mul_v (fdiv .f32 (nth v177 (Int.toNat s.1)) (nth s.2.1 (Int.toNat (IntKind.i64.wrap (s.1 - (1 : Int)))))) (nth v179 (Int.toNat (IntKind.i64.wrap (s.1 - (1 : Int))))))), List.set s.2.2 (Int.toNat s.1) (fsub .f32 (nth s.2.2 (Int.toNat s.1)) (impl_mul_v (fdiv .f32 (nth v177 (Int.toNat s.1)) (nth s.2.1 (Int.toNat (IntKind.i64.wrap (s.1 - (1 : Int)))))) (nth s.2.2 (Int.toNat (IntKind.i64.wrap (s.1 - (1 : Int)))))))))))))))))
  ) (
   .leaf (.inr (s.2.1, s.2.2))
  ))

noncomputable def impl_ThirdsSolve_l0_g (v177 : List Nat) (v179 : List Nat) (v180 : List Nat) (s0 : Int × (List Nat) × (List Nat)) : Option ((List Nat) × (List Nat)) := whileM (fun s => (impl_ThirdsSolve_l0_T v177 v179 v180 s).run) s0
def impl_ThirdsSolve_l0_E (v177 : List Nat) (v178 : List Nat) (v179 : List Nat) (v180 : List Nat) (s : Int × (List Nat) × (List Nat)) : Sd := ([.top, .top, .ptr 0 (0 : Nat) 0 (3 : Nat), .top, .top, .top, .own 1 0 ((s.2.1).length), .own 2 0 ((s.2.2).length), .int .i64 ((v180.length : Nat) : Int), .int .i64 s.1, .top, .top, .top, .top, .top, .top, .top, .top, .top, .top, .top, .top, .top, .top, .top, .top, .top, .top, .top, .top, .top, .top, .top, .top, .top, .top, .top, .top, .top, .top, .top, .top, .top, .top, .top, .top, .top, .top, .top, .top, .top, .top, .top, .top, .top, .top, .top, .top, .top, .top, .top, .top, .top, .top, .top, .top, .top, .top, .top, .top, .top, .top, .top, .top, .top, .top, .top, .top, .top, .top, .top, .top, .top, .top, .top, .top, .top, .top, .top, .top, .top, .top, .top, .top, .top, .top, .top, .top, .top, .top, .top, .top, .top, .top, .top, .top, .top, .top, .top], [.gen [.bslc (BR.root 0) (.f32 v177), .bslc (BR.root 1) (.f32 v178), .bslc (BR.root 2) (.f32 v179)] false 0, .row (.f32 s.2.1) 0, .row (.f32 s.2.2) 0])
def impl_ThirdsSolve_l0_X (v177 : List Nat) (v178 : List Nat) (v179 : List Nat) (v180 : List Nat) (x : (List Nat) × (List Nat)) : Out := (.normal, [.top, .top, .ptr 0 (0 : Nat) 0 (3 : Nat), .top, .top, .top, .own 1 0 ((x.1).length), .own 2 0 ((x.2).length), .int .i64 ((v180.length : Nat) : Int), .top, .top, .top, .top, .top, .top, .top, .top, .top, .top, .top, .top, .top, .top, .top, .top, .top, .top, .top, .top, .top, .top, .top, .top, .top, .top, .top, .top, .top, .top, .top, .top, .top, .top, .top, .top, .top, .top, .top, .top, .top, .top, .top, .top, .top, .top, .top, .top, .top, .top, .top, .top, .top, .top, .top, .top, .top, .top, .top, .top, .top, .top, .top, .top, .top, .top, .top, .top, .top, .top, .top, .top, .top, .top, .top, .top, .top, .top, .top, .top, .top, .top, .top, .top, .top, .top, .top, .top, .top, .top, .top, .top, .top, .top, .top, .top, .top, .top, .top, .top], [.gen [.bslc (BR.root 0) (.f32 v177), .bslc (BR.root 1) (.f32 v178), .bslc (BR.root 2) (.f32 v179)] false 0, .row (.f32 x.1) 0, .row (.f32 x.2) 0])
def impl_ThirdsSolve_l0_kill : List Nat := [1, 1, 0, 1, 1, 1, 0, 0, 0, 0, 1, 1, 1, 1, 1, 1, 1, 1, 1, 1, 1, 1, 1, 1, 1, 1, 1, 1, 1, 1, 1, 1, 1, 1, 1, 1, 1, 1, 1, 1, 1, 1, 1, 1, 1, 1, 1, 1, 1, 1, 1, 1, 1, 1, 1, 1, 1, 1, 1, 1, 1, 1, 1, 1, 1, 1, 1, 1, 1, 1, 1, 1, 1, 1, 1, 1, 1, 1, 1, 1, 1, 1, 1, 1, 1, 1, 1, 1, 1, 1, 1, 1, 1, 1, 1, 1, 1, 1, 1, 1, 1, 1, 1, 1, 1, 1, 1, 1, 1]
def impl_ThirdsSolve_l0_nx : Exit → List Nat
  | .exit 0 => [1, 1, 0, 1, 1, 1, 0, 0, 0, 1, 1, 1, 1, 1, 1, 1, 1, 1, 1, 1, 1, 1, 1, 1, 1, 1, 1, 1, 1, 1, 1, 1, 1, 1, 1, 1, 1, 1, 1, 1, 1, 1, 1, 1, 1, 1, 1, 1, 1, 1, 1, 1, 1, 1, 1, 1, 1, 1, 1, 1, 1, 1, 1, 1, 1, 1, 1, 1, 1, 1, 1, 1, 1, 1, 1, 1, 1, 1, 1, 1, 1, 1, 1, 1, 1, 1, 1, 1, 1, 1, 1, 1, 1, 1, 1, 1, 1, 1, 1, 1, 1, 1, 1, 1, 1, 1, 1, 1, 1]
  | .ret => [1, 1, 1, 1, 0, 0, 1, 1, 1, 1, 1, 1, 1, 1, 1, 1, 1, 1, 1, 1, 1, 1, 1, 1, 1, 1, 1, 1, 1, 1, 1, 1, 1, 1, 1, 1, 1, 1, 1, 1, 1, 1, 1, 1, 1, 1, 1, 1, 1, 1, 1, 1, 1, 1, 1, 1, 1, 1, 1, 1, 1, 1, 1, 1, 1, 1, 1, 1, 1, 1, 1, 1, 1, 1, 1, 1, 1, 1, 1, 1, 1, 1, 1, 1, 1, 1, 1, 1, 1, 1, 1, 1, 1, 1, 1, 1, 1, 1, 1, 1, 1, 1, 1, 1, 1, 1, 1, 1, 1]
  | _ => []
noncomputable def impl_ThirdsSolve_l2_T (v179 : List Nat) (v180 : List Nat) (v211 : List Nat) (s : Int × (List Nat)) : Tree ((Int × (List Nat)) ⊕ ((List Nat))) :=
  (.br (decide ((0 : Int) ≤ s.1)) (
   (.br (decide (IntKind.i64.wrap (s.1 + (1 : Int)) < ((v180.length : Nat) : Int))) (
    (.grd (inb s.1 ((s.2).length)) <|
    (.grd (inb s.1 v179.length) <|
    (.grd (inb (IntKind.i64.wrap (s.1 + (1 : Int))) ((s.2).length)) <|
    (.grd (inb s.1 ((s.2).length)) <|
    (.grd (inb s.1 ((s.2).length)) <|
    (.grd (inb s.1 ((v211).length)) <|
    (.grd (inb s.1 ((s.2).length)) <|
    .leaf (.inl (IntKind.i64.wrap (s.1 - (1 : Int)), List.set (List.set s.2 (Int.toNat s.1) (fsub .f32 (nth s.2 (Int.toNat s.1)) (impl_mul_v (nth v179 (Int.toNat s.1)) (nth s.2 (Int.toNat (IntKind.i64.wrap (s.1 + (1 : Int)))))))) (Int.toNat s.1) (fdiv .f32 (nth (List.set s.2 (Int.toNat s.1) (fsub .f32 (nth s.2 (Int.toNat s.1)) (impl_mul_v (nth v179 (Int.toNat s.1)) (nth s.2 (Int.toNat (IntKind.i64.wrap (s.1 + (1 : Int)))))))) (Int.toNat s.1)) (nth v211 (Int.toNat s.1))))))))))))
   ) (
    (.grd (inb s.1 ((s.2).length)) <|
    (.grd (inb s.1 ((v211).length)) <|
    (.grd (inb s.1 ((s.2).length)) <|
    .leaf (.inl (IntKind.i64.wrap (s.1 - (1 : Int)), List.set s.2 (Int.toNat s.1) (fdiv .f32 (nth s.2 (Int.toNat s.1)) (nth v211 (Int.toNat s.1))))))))
   ))
  ) (
   .leaf (.inr s.2)
  ))

noncomputable def impl_ThirdsSolve_l2_g (v179 : List Nat) (v180 : List Nat) (v211 : List Nat) (s0 : Int × (List Nat)) : Option ((List Nat)) := whileM (fun s => (impl_ThirdsSolve_l2_T v179 v180 v211 s).run) s0
def impl_ThirdsSolve_l2_E (v177 : List Nat) (v178 : List Nat) (v179 : List Nat) (v180 : List Nat) (v211 : List Nat) (s : Int × (List Nat)) : Sd := ([.top, .top, .ptr 0 (0 : Nat) 0 (3 : Nat), .top, .top, .top, .own 1 0 ((v211).length), .own 2 0 ((s.2).length), .int .i64 ((v180.length : Nat) : Int), .top, .top, .int .i64 s.1, .top, .top, .top, .top, .top, .top, .top, .top, .top, .top, .top, .top, .top, .top, .top, .top, .top, .top, .top, .top, .top, .top, .top, .top, .top, .top, .top, .top, .top, .top, .top, .top, .top, .top, .top, .top, .top, .top, .top, .top, .top, .top, .top, .top, .top, .top, .top, .top, .top, .top, .top, .top, .top, .top, .top, .top, .top, .top, .top, .top, .top, .top, .top, .top, .top, .top, .top, .top, .top, .top, .top, .top, .top, .top, .top, .top, .top, .top, .top, .top, .top, .top, .top, .top, .top, .top, .top, .top, .top, .top, .top, .top, .top, .top, .top, .top, .top], [.gen [.bslc (BR.root 0) (.f32 v177), .bslc (BR.root 1) (.f32 v178), .bslc (BR.root 2) (.f32 v179)] false 0, .row (.f32 v211) 0, .row (.f32 s.2) 0])
def impl_ThirdsSolve_l2_X (v177 : List Nat) (v178 : List Nat) (v179 : List Nat) (v180 : List Nat) (v211 : List Nat) (x : (List Nat)) : Out := (.normal, [.top, .top, .top, .top, .top, .top, .top, .own 0 0 ((x).length), .top, .top, .top, .top, .top, .top, .top, .top, .top, .top, .top, .top, .top, .top, .top, .top, .top, .top, .top, .top, .top, .top, .top, .top, .top, .top, .top, .top, .top, .top, .top, .top, .top, .top, .top, .top, .top, .top, .top, .top, .top, .top, .top, .top, .top, .top, .top, .top, .top, .top, .top, .top, .top, .top, .top, .top, .top, .top, .top, .top, .top, .top, .top, .top, .top, .top, .top, .top, .top, .top, .top, .top, .top, .top, .top, .top, .top, .top, .top, .top, .top, .top, .top, .top, .top, .top, .top, .top, .top, .top, .top, .top, .top, .top, .top, .top, .top, .top, .top, .top, .top], [.row (.f32 x) 0])
def impl_ThirdsSolve_l2_kill : List Nat := [1, 1, 0, 1, 1, 1, 0, 0, 0, 1, 1, 0, 1, 1, 1, 1, 1, 1, 1, 1, 1, 1, 1, 1, 1, 1, 1, 1, 1, 1, 1, 1, 1, 1, 1, 1, 1, 1, 1, 1, 1, 1, 1, 1, 1, 1, 1, 1, 1, 1, 1, 1, 1, 1, 1, 1, 1, 1, 1, 1, 1, 1, 1, 1, 1, 1, 1, 1, 1, 1, 1, 1, 1, 1, 1, 1, 1, 1, 1, 1, 1, 1, 1, 1, 1, 1, 1, 1, 1, 1, 1, 1, 1, 1, 1, 1, 1, 1, 1, 1, 1, 1, 1, 1, 1, 1, 1, 1, 1]
def impl_ThirdsSolve_l2_nx : Exit → List Nat
  | .exit 2 => [1, 1, 1, 1, 1, 1, 1, 0, 1, 1, 1, 1, 1, 1, 1, 1, 1, 1, 1, 1, 1, 1, 1, 1, 1, 1, 1, 1, 1, 1, 1, 1, 1, 1, 1, 1, 1, 1, 1, 1, 1, 1, 1, 1, 1, 1, 1, 1, 1, 1, 1, 1, 1, 1, 1, 1, 1, 1, 1, 1, 1, 1, 1, 1, 1, 1, 1, 1, 1, 1, 1, 1, 1, 1, 1, 1, 1, 1, 1, 1, 1, 1, 1, 1, 1, 1, 1, 1, 1, 1, 1, 1, 1, 1, 1, 1, 1, 1, 1, 1, 1, 1, 1, 1, 1, 1, 1, 1, 1]
  | .ret => [1, 1, 1, 1, 0, 0, 1, 1, 1, 1, 1, 1, 1, 1, 1, 1, 1, 1, 1, 1, 1, 1, 1, 1, 1, 1, 1, 1, 1, 1, 1, 1, 1, 1, 1, 1, 1, 1, 1, 1, 1, 1, 1, 1, 1, 1, 1, 1, 1, 1, 1, 1, 1, 1, 1, 1, 1, 1, 1, 1, 1, 1, 1, 1, 1, 1, 1, 1, 1, 1, 1, 1, 1, 1, 1, 1, 1, 1, 1, 1, 1, 1, 1, 1, 1, 1, 1, 1, 1, 1, 1, 1, 1, 1, 1, 1, 1, 1, 1, 1, 1, 1, 1, 1, 1, 1, 1, 1, 1]
  | _ => []
noncomputable def impl_ThirdsSolve_LO (v177 : List Nat) (v178 : List Nat) (v179 : List Nat) (v180 : List Nat) : LOr := fun id e L =>
  match id with
  | 0 => .need (normA 0 impl_ThirdsSolve_l0_kill e L = some (impl_ThirdsSolve_l0_E v177 v178 v179 v180 ((gI (vAt e 9)), (gRF L (vAt e 6)), (gRF L (vAt e 7))))) (.call (impl_ThirdsSolve_l0_g v177 v179 v180 ((gI (vAt e 9)), (gRF L (vAt e 6)), (gRF L (vAt e 7)))) fun x => .leaf (impl_ThirdsSolve_l0_X v177 v178 v179 v180 x))
  | 2 => .need (normA 0 impl_ThirdsSolve_l2_kill e L = some (impl_ThirdsSolve_l2_E v177 v178 v179 v180 (gRF L (vAt e 6)) ((gI (vAt e 11)), (gRF L (vAt e 7))))) (.call (impl_ThirdsSolve_l2_g v179 v180 (gRF L (vAt e 6)) ((gI (vAt e 11)), (gRF L (vAt e 7)))) fun x => .leaf (impl_ThirdsSolve_l2_X v177 v178 v179 v180 (gRF L (vAt e 6)) x))
  | _ => .fail
noncomputable def impl_ThirdsSolve_tab : List (FuncId × DFn × Bool) := [(104, impl_Thirds_takes_F, true), (105, slices_CloneF_F, true), (65, impl_mul_F, true), (155, slices_ContainsF_F, true), (93, impl_allFinite_F, true)]
theorem impl_ThirdsSolve_hO : OrcOk Try.prog (tabD impl_ThirdsSolve_tab) (tabM impl_ThirdsSolve_tab) := tabD_cons impl_Thirds_takes_Fok (tabD_cons slices_CloneF_Fok (tabD_cons impl_mul_Fok (tabD_cons slices_ContainsF_Fok (tabD_cons impl_allFinite_Fok (tabD_nil _)))))
theorem impl_ThirdsSolve_l0_be (v177 : List Nat) (v178 : List Nat) (v179 : List Nat) (v180 : List Nat) (s : Int × (List Nat) × (List Nat)) : bodyT TT (tabD impl_ThirdsSolve_tab) (tabM impl_ThirdsSolve_tab) (impl_ThirdsSolve_LO v177 v178 v179 v180) 0 impl_ThirdsSolve_l0_kill impl_ThirdsSolve_l0_nx (bodyOf Try.f106 0) 0 (impl_ThirdsSolve_l0_E v177 v178 v179 v180 s) = (impl_ThirdsSolve_l0_T v177 v179 v180 s).bind fun y => .leaf (outS (impl_ThirdsSolve_l0_E v177 v178 v179 v180) (impl_ThirdsSolve_l0_X v177 v178 v179 v180) y) := by kernel_rfl
theorem impl_ThirdsSolve_l0_ok (v177 : List Nat) (v178 : List Nat) (v179 : List Nat) (v180 : List Nat) : LSound Try.prog 0 (impl_ThirdsSolve_LO v177 v178 v179 v180) 0 (bodyOf Try.f106 0) := by
  intro e L out h
  exact lo_ok (E := impl_ThirdsSolve_l0_E v177 v178 v179 v180) (gT := impl_ThirdsSolve_l0_T v177 v179 v180) (X := impl_ThirdsSolve_l0_X v177 v178 v179 v180) (s0 := ((gI (vAt e 9)), (gRF L (vAt e 6)), (gRF L (vAt e 7)))) tok impl_ThirdsSolve_hO mixed (LoopsOk_eq (l := []) (by kernel_rfl) trivial) (impl_ThirdsSolve_l0_be v177 v178 v179 v180) rfl (by intro x; rfl) h
theorem impl_ThirdsSolve_l2_be (v177 : List Nat) (v178 : List Nat) (v179 : List Nat) (v180 : List Nat) (v211 : List Nat) (s : Int × (List Nat)) : bodyT TT (tabD impl_ThirdsSolve_tab) (tabM impl_ThirdsSolve_tab) (impl_ThirdsSolve_LO v177 v178 v179 v180) 0 impl_ThirdsSolve_l2_kill impl_ThirdsSolve_l2_nx (bodyOf Try.f106 2) 2 (impl_ThirdsSolve_l2_E v177 v178 v179 v180 v211 s) = (impl_ThirdsSolve_l2_T v179 v180 v211 s).bind fun y => .leaf (outS (impl_ThirdsSolve_l2_E v177 v178 v179 v180 v211) (impl_ThirdsSolve_l2_X v177 v178 v179 v180 v211) y) := by kernel_rfl
theorem impl_ThirdsSolve_l2_ok (v177 : List Nat) (v178 : List Nat) (v179 : List Nat) (v180 : List Nat) : LSound Try.prog 0 (impl_ThirdsSolve_LO v177 v178 v179 v180) 2 (bodyOf Try.f106 2) := by
  intro e L out h
  exact lo_ok (E := impl_ThirdsSolve_l2_E v177 v178 v179 v180 (gRF L (vAt e 6))) (gT := impl_ThirdsSolve_l2_T v179 v180 (gRF L (vAt e 6))) (X := impl_ThirdsSolve_l2_X v177 v178 v179 v180 (gRF L (vAt e 6))) (s0 := ((gI (vAt e 11)), (gRF L (vAt e 7)))) tok impl_ThirdsSolve_hO mixed (LoopsOk_eq (l := []) (by kernel_rfl) trivial) (impl_ThirdsSolve_l2_be v177 v178 v179 v180 (gRF L (vAt e 6))) rfl (by intro x; rfl) h
noncomputable def impl_ThirdsSolve_T (v177 : List Nat) (v178 : List Nat) (v179 : List Nat) (v180 : List Nat) : Tree ((Unit) ⊕ ((List Nat))) :=
  (.call (impl_Thirds_takes_g v177 v178 v179 v180) fun v181 =>
  (.br (!v181) (
   .leaf (.inl ())
  ) (
   (.call (slices_CloneF_g v178) fun v182 =>
   (.call (slices_CloneF_g v180) fun v183 =>
   (.need (some (impl_ThirdsSolve_l0_E v177 v178 v179 v180 ((1 : Int), ([] : List Nat) ++ v178, ([] : List Nat) ++ v180)) = some (impl_ThirdsSolve_l0_E v177 v178 v179 v180 ((1 : Int), ([] : List Nat) ++ v178, ([] : List Nat) ++ v180))) <|
   (.call (impl_ThirdsSolve_l0_g v177 v179 v180 ((1 : Int), ([] : List Nat) ++ v178, ([] : List Nat) ++ v180)) fun v191 =>
   (.call (slices_ContainsF_g v191.1 (0 : Nat)) fun v203 =>
   (.br v203 (
    .leaf (.inl ())
   ) (
    (.need (some (impl_ThirdsSolve_l2_E v177 v178 v179 v180 v191.1 (IntKind.i64.wrap (((v180.length : Nat) : Int) - (1 : Int)), v191.2)) = some (impl_ThirdsSolve_l2_E v177 v178 v179 v180 v191.1 (IntKind.i64.wrap (((v180.length : Nat) : Int) - (1 : Int)), v191.2))) <|
    (.call (impl_ThirdsSolve_l2_g v179 v180 v191.1 (IntKind.i64.wrap (((v180.length : Nat) : Int) - (1 : Int)), v191.2)) fun v213 =>
    (.call (impl_allFinite_g v213) fun v216 =>
    (.sum v216 (fun v217 =>
     .leaf (.inl ())
    ) (fun v218 =>
     .leaf (.inr v213)
    )))))
   )))))))
  )))

noncomputable def impl_ThirdsSolve_g (v177 : List Nat) (v178 : List Nat) (v179 : List Nat) (v180 : List Nat) : Option ((Unit) ⊕ ((List Nat))) := (impl_ThirdsSolve_T v177 v178 v179 v180).run
def impl_ThirdsSolve_enc (v177 : List Nat) (v178 : List Nat) (v179 : List Nat) (v180 : List Nat) (y : (Unit) ⊕ ((List Nat))) : Rs := (match y with | .inl y => (.tup [.nilslc, .lit false], []) | .inr y => (.tup [.own 0 0 ((y).length), .lit true], [.row (.f32 y) 0]))
theorem impl_ThirdsSolve_den (v177 : List Nat) (v178 : List Nat) (v179 : List Nat) (v180 : List Nat) : (den TT (tabD impl_ThirdsSolve_tab) (tabM impl_ThirdsSolve_tab) (impl_ThirdsSolve_LO v177 v178 v179 v180) (codeOf Try.f106) ([.agg [.bslc (BR.root 0) (.f32 v177), .bslc (BR.root 1) (.f32 v178), .bslc (BR.root 2) (.f32 v179)], .bslc (BR.root 3) (.f32 v180)] ++ List.replicate (Try.f106.ntmps - ([.agg [.bslc (BR.root 0) (.f32 v177), .bslc (BR.root 1) (.f32 v178), .bslc (BR.root 2) (.f32 v179)], .bslc (BR.root 3) (.f32 v180)] : List DV).length) .undef) []).bind (retD TT Try.f106.results.toList 0) = (impl_ThirdsSolve_T v177 v178 v179 v180).bind fun y => .leaf (impl_ThirdsSolve_enc v177 v178 v179 v180 y) := by kernel_rfl
theorem impl_ThirdsSolve_fn (v177 : List Nat) (v178 : List Nat) (v179 : List Nat) (v180 : List Nat) (F : Fr) (hm : F.ids.length = 0) (h0 : St F [] F.H0) (hA : DVs.Ok F [] [.agg [.bslc (BR.root 0) (.f32 v177), .bslc (BR.root 1) (.f32 v178), .bslc (BR.root 2) (.f32 v179)], .bslc (BR.root 3) (.f32 v180)]) {y : (Unit) ⊕ ((List Nat))} (hy : impl_ThirdsSolve_g v177 v178 v179 v180 = some y) : ∃ H', FnOk Try.prog 106 (DVs.av F [.agg [.bslc (BR.root 0) (.f32 v177), .bslc (BR.root 1) (.f32 v178), .bslc (BR.root 2) (.f32 v179)], .bslc (BR.root 3) (.f32 v180)]) F.H0 ((impl_ThirdsSolve_enc v177 v178 v179 v180 y).1.av F) H' ∧ St F (impl_ThirdsSolve_enc v177 v178 v179 v180 y).2 H' ∧ (impl_ThirdsSolve_enc v177 v178 v179 v180 y).1.Ok F (impl_ThirdsSolve_enc v177 v178 v179 v180 y).2 :=
  fn_fin tok impl_ThirdsSolve_hO mixed Try.func106 Try.call106 (by kernel_rfl) (LoopsOk_eq (l := [(0, bodyOf Try.f106 0), (2, bodyOf Try.f106 2)]) (by kernel_rfl) ⟨impl_ThirdsSolve_l0_ok v177 v178 v179 v180, impl_ThirdsSolve_l2_ok v177 v178 v179 v180, trivial⟩) (impl_ThirdsSolve_den v177 v178 v179 v180) hy hm h0 hA
noncomputable def impl_ThirdsSolve_F : DFn := fun args L =>
  match args with
  | [.agg [a1, a2, a3], a4] =>
    optT (rowF32 L a1) fun v177 =>
    optT (rowF32 L a2) fun v178 =>
    optT (rowF32 L a3) fun v179 =>
    optT (rowF32 L a4) fun v180 =>
    .call (impl_ThirdsSolve_g v177 v178 v179 v180) fun y => .sum y (fun y0 => .leaf (.tup [.nilslc, .lit false], L)) (fun z0 => .leaf (.tup [.own (L.length + 0) 0 ((z0).length), .lit true], L ++ [.row (.f32 z0) 0]))
  | _ => .fail
theorem impl_ThirdsSolve_Fok : COk Try.prog 106 impl_ThirdsSolve_F true := by
  intro F L H args r L' hs ha hr
  unfold impl_ThirdsSolve_F at hr
  split at hr
  · rename_i a1 a2 a3 a4
    obtain ⟨v177, hv177, hr⟩ := optT_run hr
    obtain ⟨v178, hv178, hr⟩ := optT_run hr
    obtain ⟨v179, hv179, hr⟩ := optT_run hr
    obtain ⟨v180, hv180, hr⟩ := optT_run hr
    simp only [Tree.run] at hr
    obtain ⟨y, hy, hr⟩ := Option.bind_eq_some_iff.1 hr
    cases y with
    | inl y =>
      simp only [Tree.run, Option.some.injEq, Prod.mk.injEq] at hr
      obtain ⟨rfl, rfl⟩ := hr
      exact call_ok0 hs (fun k => (([a1.av F, a2.av F, a3.av F, a4.av F] : List AV)[k]?).getD .top) [.agg [a1, a2, a3], a4] [.agg [.bslc (BR.root 0) (.f32 v177), .bslc (BR.root 1) (.f32 v178), .bslc (BR.root 2) (.f32 v179)], .bslc (BR.root 3) (.f32 v180)] (fun F' h0 hi hρ => ⟨by simp [DVs.av, DV.av, BR.av, hρ], impl_ThirdsSolve_fn v177 v178 v179 v180 F' (by rw [hi]; rfl) (st_nil hi) ⟨⟨bslc_ok hi (by rw [h0, hρ]; exact rowF32_ok hs (DVs.okAt (DVs.okAt ha 0 rfl) 0 rfl) hv177), bslc_ok hi (by rw [h0, hρ]; exact rowF32_ok hs (DVs.okAt (DVs.okAt ha 0 rfl) 1 rfl) hv178), bslc_ok hi (by rw [h0, hρ]; exact rowF32_ok hs (DVs.okAt (DVs.okAt ha 0 rfl) 2 rfl) hv179), trivial⟩, bslc_ok hi (by rw [h0, hρ]; exact rowF32_ok hs (DVs.okAt ha 1 rfl) hv180), trivial⟩ hy⟩) rfl
    | inr y =>
      simp only [Tree.run, Option.some.injEq, Prod.mk.injEq] at hr
      obtain ⟨rfl, rfl⟩ := hr
      exact call_ok1 hs (fun k => (([a1.av F, a2.av F, a3.av F, a4.av F] : List AV)[k]?).getD .top) [.agg [a1, a2, a3], a4] [.agg [.bslc (BR.root 0) (.f32 v177), .bslc (BR.root 1) (.f32 v178), .bslc (BR.root 2) (.f32 v179)], .bslc (BR.root 3) (.f32 v180)] (fun F' h0 hi hρ => ⟨by simp [DVs.av, DV.av, BR.av, hρ], impl_ThirdsSolve_fn v177 v178 v179 v180 F' (by rw [hi]; rfl) (st_nil hi) ⟨⟨bslc_ok hi (by rw [h0, hρ]; exact rowF32_ok hs (DVs.okAt (DVs.okAt ha 0 rfl) 0 rfl) hv177), bslc_ok hi (by rw [h0, hρ]; exact rowF32_ok hs (DVs.okAt (DVs.okAt ha 0 rfl) 1 rfl) hv178), bslc_ok hi (by rw [h0, hρ]; exact rowF32_ok hs (DVs.okAt (DVs.okAt ha 0 rfl) 2 rfl) hv179), trivial⟩, bslc_ok hi (by rw [h0, hρ]; exact rowF32_ok hs (DVs.okAt ha 1 rfl) hv180), trivial⟩ hy⟩) rfl rfl
  · cases hr
/-! impl.less -/
noncomputable def impl_less_l0_T (v232 : List Nat) (v233 : Nat) (v234 : List Nat) (s : Int × (List Nat)) : Tree ((Int × (List Nat)) ⊕ ((List Nat))) :=
  (.br (decide (s.1 < ((v232.length : Nat) : Int))) (
   (.grd (inb s.1 ((s.2).length)) <|
   (.grd (inb s.1 v234.length) <|
   (.grd (inb s.1 ((s.2).length)) <|
   .leaf (.inl (IntKind.i64.wrap (s.1 + (1 : Int)), List.set s.2 (Int.toNat s.1) (fsub .f32 (nth s.2 (Int.toNat s.1)) (impl_mul_v v233 (nth v234 (Int.toNat s.1)))))))))
  ) (
   .leaf (.inr s.2)
  ))

noncomputable def impl_less_l0_g (v232 : List Nat) (v233 : Nat) (v234 : List Nat) (s0 : Int × (List Nat)) : Option ((List Nat)) := whileM (fun s => (impl_less_l0_T v232 v233 v234 s).run) s0
def impl_less_l0_E (v232 : List Nat) (v233 : Nat) (v234 : List Nat) (s : Int × (List Nat)) : Sd := ([.own 0 0 ((s.2).length), .flt .f32 v233, .bslc (BR.root 1) (.f32 v234), .top, .top, .top, .top, .top, .int .i64 ((v232.length : Nat) : Int), .int .i64 s.1, .top, .top, .top, .top, .top, .top, .top, .top, .top, .top, .top, .top, .top, .top, .top], [.row (.f32 s.2) 0])
def impl_less_l0_X (v232 : List Nat) (v233 : Nat) (v234 : List Nat) (x : (List Nat)) : Out := (.normal, [.top, .top, .top, .top, .top, .top, .top, .top, .top, .top, .top, .top, .top, .top, .top, .top, .top, .top, .top, .top, .top, .top, .top, .top, .top], [.row (.f32 x) 0])
def impl_less_l0_kill : List Nat := [0, 0, 0, 1, 1, 1, 1, 1, 0, 0, 1, 1, 1, 1, 1, 1, 1, 1, 1, 1, 1, 1, 1, 1, 1]
def impl_less_l0_nx : Exit → List Nat
  | .exit 0 => [1, 1, 1, 1, 1, 1, 1, 1, 1, 1, 1, 1, 1, 1, 1, 1, 1, 1, 1, 1, 1, 1, 1, 1, 1]
  | .ret => [1, 1, 1, 1, 1, 1, 1, 1, 1, 1, 1, 1, 1, 1, 1, 1, 1, 1, 1, 1, 1, 1, 1, 1, 1]
  | _ => []
noncomputable def impl_less_LO (v232 : List Nat) (v233 : Nat) (v234 : List Nat) : LOr := fun id e L =>
  match id with
  | 0 => .need (normA 1 impl_less_l0_kill e L = some (impl_less_l0_E v232 v233 v234 ((gI (vAt e 9)), (gRF L (vAt e 0))))) (.call (impl_less_l0_g v232 v233 v234 ((gI (vAt e 9)), (gRF L (vAt e 0)))) fun x => .leaf (impl_less_l0_X v232 v233 v234 x))
  | _ => .fail
noncomputable def impl_less_tab : List (FuncId × DFn × Bool) := [(65, impl_mul_F, true)]
theorem impl_less_hO : OrcOk Try.prog (tabD impl_less_tab) (tabM impl_less_tab) := tabD_cons impl_mul_Fok (tabD_nil _)
theorem impl_less_l0_be (v232 : List Nat) (v233 : Nat) (v234 : List Nat) (s : Int × (List Nat)) : bodyT TT (tabD impl_less_tab) (tabM impl_less_tab) (impl_less_LO v232 v233 v234) 1 impl_less_l0_kill impl_less_l0_nx (bodyOf Try.f107 0) 0 (impl_less_l0_E v232 v233 v234 s) = (impl_less_l0_T v232 v233 v234 s).bind fun y => .leaf (outS (impl_less_l0_E v232 v233 v234) (impl_less_l0_X v232 v233 v234) y) := by kernel_rfl
theorem impl_less_l0_ok (v232 : List Nat) (v233 : Nat) (v234 : List Nat) : LSound Try.prog 1 (impl_less_LO v232 v233 v234) 0 (bodyOf Try.f107 0) := by
  intro e L out h
  exact lo_ok (E := impl_less_l0_E v232 v233 v234) (gT := impl_less_l0_T v232 v233 v234) (X := impl_less_l0_X v232 v233 v234) (s0 := ((gI (vAt e 9)), (gRF L (vAt e 0)))) tok impl_less_hO mixed (LoopsOk_eq (l := []) (by kernel_rfl) trivial) (impl_less_l0_be v232 v233 v234) rfl (by intro x; rfl) h
noncomputable def impl_less_T (v232 : List Nat) (v233 : Nat) (v234 : List Nat) : Tree ((List Nat)) :=
  (.need (some (impl_less_l0_E v232 v233 v234 ((0 : Int), v232)) = some (impl_less_l0_E v232 v233 v234 ((0 : Int), v232))) <|
  (.call (impl_less_l0_g v232 v233 v234 ((0 : Int), v232)) fun v240 =>
  .leaf v240))

noncomputable def impl_less_g (v232 : List Nat) (v233 : Nat) (v234 : List Nat) : Option ((List Nat)) := (impl_less_T v232 v233 v234).run
def impl_less_enc (v232 : List Nat) (v233 : Nat) (v234 : List Nat) (y : (List Nat)) : Rs := (.tup [], [.row (.f32 y) 0])
theorem impl_less_den (v232 : List Nat) (v233 : Nat) (v234 : List Nat) : (den TT (tabD impl_less_tab) (tabM impl_less_tab) (impl_less_LO v232 v233 v234) (codeOf Try.f107) ([.own 0 0 v232.length, .flt .f32 v233, .bslc (BR.root 1) (.f32 v234)] ++ List.replicate (Try.f107.ntmps - ([.own 0 0 v232.length, .flt .f32 v233, .bslc (BR.root 1) (.f32 v234)] : List DV).length) .undef) [.row (.f32 v232) 0]).bind (retD TT Try.f107.results.toList 1) = (impl_less_T v232 v233 v234).bind fun y => .leaf (impl_less_enc v232 v233 v234 y) := by kernel_rfl
theorem impl_less_fn (v232 : List Nat) (v233 : Nat) (v234 : List Nat) (F : Fr) (hm : F.ids.length = 1) (h0 : St F [.row (.f32 v232) 0] F.H0) (hA : DVs.Ok F [.row (.f32 v232) 0] [.own 0 0 v232.length, .flt .f32 v233, .bslc (BR.root 1) (.f32 v234)]) {y : (List Nat)} (hy : impl_less_g v232 v233 v234 = some y) : ∃ H', FnOk Try.prog 107 (DVs.av F [.own 0 0 v232.length, .flt .f32 v233, .bslc (BR.root 1) (.f32 v234)]) F.H0 ((impl_less_enc v232 v233 v234 y).1.av F) H' ∧ St F (impl_less_enc v232 v233 v234 y).2 H' ∧ (impl_less_enc v232 v233 v234 y).1.Ok F (impl_less_enc v232 v233 v234 y).2 :=
  fn_fin tok impl_less_hO mixed Try.func107 Try.call107 (by kernel_rfl) (LoopsOk_eq (l := [(0, bodyOf Try.f107 0)]) (by kernel_rfl) ⟨impl_less_l0_ok v232 v233 v234, trivial⟩) (impl_less_den v232 v233 v234) hy hm h0 hA
noncomputable def impl_less_F : DFn := fun args L =>
  match args with
  | [a1, .flt .f32 v233, a2] =>
    optT (ownF32 L a1) fun qv232 =>
    optT (rowF32 L a2) fun v234 =>
    (match sepB [qv232.1] [a2] with
    | true =>
    .call (impl_less_g qv232.2 v233 v234) fun y => .grd (decide (y.length = qv232.2.length)) (.leaf (.tup [], setRows L ([qv232.1].zip [.f32 y])))
    | false => .fail)
  | _ => .fail
theorem impl_less_Fok : COk Try.prog 107 impl_less_F false := by
  intro F L H args r L' hs ha hr
  unfold impl_less_F at hr
  split at hr
  · rename_i a1 v233 a2
    obtain ⟨⟨jv232, v232⟩, hqv232, hr⟩ := optT_run hr
    simp only at hr
    obtain ⟨v234, hv234, hr⟩ := optT_run hr
    split at hr
    · rename_i hsep
      obtain ⟨hnd, hsepv⟩ := sepB_spec hsep
      simp only [Tree.run] at hr
      obtain ⟨y, hy, hr⟩ := Option.bind_eq_some_iff.1 hr
      try simp only [Tree.run] at hr
      obtain ⟨hl0, hr⟩ := ite_run hr
      simp only [Option.some.injEq, Prod.mk.injEq] at hr
      obtain ⟨rfl, rfl⟩ := hr
      obtain ⟨hr0, hu0, ha0, hb0⟩ := (ownR_spec (DVs.okAt ha 0 rfl) (ownF32_or hqv232))
      exact mut_ok hs (fun k => (([a1.av F, a2.av F] : List AV)[k]?).getD .top) [a1, .flt .f32 v233, a2] [.own 0 0 v232.length, .flt .f32 v233, .bslc (BR.root 1) (.f32 v234)] [jv232] [.f32 v232] [.f32 y] hnd rfl rfl (fun i j q h1 h2 => by
          rcases i with _ | i
          · simp at h1 h2; subst h1; subst h2; exact hr0
          · simp at h1) (fun i q q' h1 h2 => by
          rcases i with _ | i
          · simp at h1 h2; subst h1; subst h2; exact of_decide_eq_true hl0
          · simp at h1) (fun j hj => by simp at hj; subst hj; simp [DVs.refs, DV.refs, hu0]) (fun F' h0 hi hρ hst hS => ⟨by (have ab0 : F'.abs 0 = F.abs jv232 := (by simp [Fr.abs, hi]); simp [DVs.av, DV.av, BR.av, hρ, Row.len, ha0, ab0]), by
          obtain ⟨H1, k1, k2, _⟩ := impl_less_fn v232 v233 v234 F' (by rw [hi]; rfl) hst ⟨⟨_, rfl, Nat.le_refl _, Nat.le_refl _, fun _ => rfl, (ownR_spec (DVs.okAt ha 0 rfl) (ownF32_or hqv232)).2.2.2⟩, trivial, bslcM hS (by rw [hρ]; rfl) (hsepv a2 (by simp)) (DVs.okAt ha 2 rfl) (rowF32_or hv234), trivial⟩ hy
          exact ⟨H1, k1, k2⟩⟩) (fun F' => rfl) (fun L' => trivial)
    · cases hr
  · cases hr
/-! impl.ThirdsRing -/
noncomputable def impl_ThirdsRing_LO (v129 : List Nat) (v130 : List Nat) (v131 : List Nat) (v132 : Nat) (v133 : Nat) (v134 : List Nat) : LOr := fun id e L =>
  match id with
  | _ => .fail
noncomputable def impl_ThirdsRing_tab : List (FuncId × DFn × Bool) := [(104, impl_Thirds_takes_F, true), (68, impl_areFinite_F, true), (105, slices_CloneF_F, true), (65, impl_mul_F, true), (106, impl_ThirdsSolve_F, true), (107, impl_less_F, false), (93, impl_allFinite_F, true)]
theorem impl_ThirdsRing_hO : OrcOk Try.prog (tabD impl_ThirdsRing_tab) (tabM impl_ThirdsRing_tab) := tabD_cons impl_Thirds_takes_Fok (tabD_cons impl_areFinite_Fok (tabD_cons slices_CloneF_Fok (tabD_cons impl_mul_Fok (tabD_cons impl_ThirdsSolve_Fok (tabD_cons impl_less_Fok (tabD_cons impl_allFinite_Fok (tabD_nil _)))))))
noncomputable def impl_ThirdsRing_T (v129 : List Nat) (v130 : List Nat) (v131 : List Nat) (v132 : Nat) (v133 : Nat) (v134 : List Nat) : Tree ((Unit) ⊕ ((List Nat))) :=
  (.call (impl_Thirds_takes_g v129 v130 v131 v134) fun v171 =>
  (.br (!v171) (
   .leaf (.inl ())
  ) (
   (.br (decide (((v130.length : Nat) : Int) < (3 : Int))) (
    .leaf (.inl ())
   ) (
    (.call (impl_areFinite_g ([v132, v133] : List Nat)) fun v172 =>
    (.br (!v172) (
     .leaf (.inl ())
    ) (
     (.grd (inb (0 : Int) v130.length) <|
     (.br (feq .f32 (nth v130 (Int.toNat (0 : Int))) (0 : Nat)) (
      .leaf (.inl ())
     ) (
      (.grd (inb (0 : Int) v130.length) <|
      (.call (slices_CloneF_g v130) fun v174 =>
      (.grd (inb (0 : Int) ((([] : List Nat) ++ v130).length)) <|
      (.grd (inb (0 : Int) ((([] : List Nat) ++ v130).length)) <|
      (.grd (inb (IntKind.i64.wrap (((v130.length : Nat) : Int) - (1 : Int))) ((([] : List Nat) ++ v130).length)) <|
      (.grd (inb (IntKind.i64.wrap (((v130.length : Nat) : Int) - (1 : Int))) ((([] : List Nat) ++ v130).length)) <|
      (.need (((v130.length : Nat) : Int) = ((v130.length : Nat) : Int)) <|
      (.grd (inb ((v130.length : Nat) : Int) (maxN + 1)) <|
      (.grd (inb (0 : Int) (Int.toNat ((v130.length : Nat) : Int))) <|
      (.grd (inb (IntKind.i64.wrap (((v130.length : Nat) : Int) - (1 : Int))) (Int.toNat ((v130.length : Nat) : Int))) <|
      (.call (impl_ThirdsSolve_g v129 (List.set (List.set (([] : List Nat) ++ v130) (Int.toNat (0 : Int)) (fsub .f32 (nth (([] : List Nat) ++ v130) (Int.toNat (0 : Int))) (fneg .f32 (nth v130 (Int.toNat (0 : Int)))))) (Int.toNat (IntKind.i64.wrap (((v130.length : Nat) : Int) - (1 : Int)))) (fsub .f32 (nth (List.set (([] : List Nat) ++ v130) (Int.toNat (0 : Int)) (fsub .f32 (nth (([] : List Nat) ++ v130) (Int.toNat (0 : Int))) (fneg .f32 (nth v130 (Int.toNat (0 : Int)))))) (Int.toNat (IntKind.i64.wrap (((v130.length : Nat) : Int) - (1 : Int))))) (fdiv .f32 (impl_mul_v v132 v133) (fneg .f32 (nth v130 (Int.toNat (0 : Int))))))) v131 v134) fun v219 =>
      (.sum v219 (fun v220 =>
       (.call (impl_ThirdsSolve_g v129 (List.set (List.set (([] : List Nat) ++ v130) (Int.toNat (0 : Int)) (fsub .f32 (nth (([] : List Nat) ++ v130) (Int.toNat (0 : Int))) (fneg .f32 (nth v130 (Int.toNat (0 : Int)))))) (Int.toNat (IntKind.i64.wrap (((v130.length : Nat) : Int) - (1 : Int)))) (fsub .f32 (nth (List.set (([] : List Nat) ++ v130) (Int.toNat (0 : Int)) (fsub .f32 (nth (([] : List Nat) ++ v130) (Int.toNat (0 : Int))) (fneg .f32 (nth v130 (Int.toNat (0 : Int)))))) (Int.toNat (IntKind.i64.wrap (((v130.length : Nat) : Int) - (1 : Int))))) (fdiv .f32 (impl_mul_v v132 v133) (fneg .f32 (nth v130 (Int.toNat (0 : Int))))))) v131 (List.set (List.set (List.replicate (Int.toNat ((v130.length : Nat) : Int)) (0 : Nat)) (Int.toNat (0 : Int)) (fneg .f32 (nth v130 (Int.toNat (0 : Int))))) (Int.toNat (IntKind.i64.wrap (((v130.length : Nat) : Int) - (1 : Int)))) v133)) fun v222 =>
       (.sum v222 (fun v223 =>
        .leaf (.inl ())
       ) (fun v224 =>
        .leaf (.inl ())
       )))
      ) (fun v221 =>
       (.call (impl_ThirdsSolve_g v129 (List.set (List.set (([] : List Nat) ++ v130) (Int.toNat (0 : Int)) (fsub .f32 (nth (([] : List Nat) ++ v130) (Int.toNat (0 : Int))) (fneg .f32 (nth v130 (Int.toNat (0 : Int)))))) (Int.toNat (IntKind.i64.wrap (((v130.length : Nat) : Int) - (1 : Int)))) (fsub .f32 (nth (List.set (([] : List Nat) ++ v130) (Int.toNat (0 : Int)) (fsub .f32 (nth (([] : List Nat) ++ v130) (Int.toNat (0 : Int))) (fneg .f32 (nth v130 (Int.toNat (0 : Int)))))) (Int.toNat (IntKind.i64.wrap (((v130.length : Nat) : Int) - (1 : Int))))) (fdiv .f32 (impl_mul_v v132 v133) (fneg .f32 (nth v130 (Int.toNat (0 : Int))))))) v131 (List.set (List.set (List.replicate (Int.toNat ((v130.length : Nat) : Int)) (0 : Nat)) (Int.toNat (0 : Int)) (fneg .f32 (nth v130 (Int.toNat (0 : Int))))) (Int.toNat (IntKind.i64.wrap (((v130.length : Nat) : Int) - (1 : Int)))) v133)) fun v225 =>
       (.sum v225 (fun v226 =>
        .leaf (.inl ())
       ) (fun v227 =>
        (.grd (inb (0 : Int) ((v221).length)) <|
        (.grd (inb (IntKind.i64.wrap (((v130.length : Nat) : Int) - (1 : Int))) ((v221).length)) <|
        (.grd (inb (0 : Int) ((v227).length)) <|
        (.grd (inb (IntKind.i64.wrap (((v130.length : Nat) : Int) - (1 : Int))) ((v227).length)) <|
        (.call (impl_less_g v221 (fdiv .f32 (fadd .f32 (nth v221 (Int.toNat (0 : Int))) (fdiv .f32 (impl_mul_v v132 (nth v221 (Int.toNat (IntKind.i64.wrap (((v130.length : Nat) : Int) - (1 : Int)))))) (fneg .f32 (nth v130 (Int.toNat (0 : Int)))))) (fadd .f32 (fadd .f32 (1065353216 : Nat) (nth v227 (Int.toNat (0 : Int)))) (fdiv .f32 (impl_mul_v v132 (nth v227 (Int.toNat (IntKind.i64.wrap (((v130.length : Nat) : Int) - (1 : Int)))))) (fneg .f32 (nth v130 (Int.toNat (0 : Int))))))) v227) fun v241 =>
        (.grd (decide (v241.length = v221.length)) <|
        (.call (impl_allFinite_g v241) fun v242 =>
        (.sum v242 (fun v243 =>
         .leaf (.inl ())
        ) (fun v244 =>
         .leaf (.inr v241)
        )))))))))
       )))
      )))))))))))))
     )))
    )))
   ))
  )))

noncomputable def impl_ThirdsRing_g (v129 : List Nat) (v130 : List Nat) (v131 : List Nat) (v132 : Nat) (v133 : Nat) (v134 : List Nat) : Option ((Unit) ⊕ ((List Nat))) := (impl_ThirdsRing_T v129 v130 v131 v132 v133 v134).run
def impl_ThirdsRing_enc (v129 : List Nat) (v130 : List Nat) (v131 : List Nat) (v132 : Nat) (v133 : Nat) (v134 : List Nat) (y : (Unit) ⊕ ((List Nat))) : Rs := (match y with | .inl y => (.tup [.nilslc, .lit false], []) | .inr y => (.tup [.own 0 0 ((y).length), .lit true], [.row (.f32 y) 0]))
theorem impl_ThirdsRing_den (v129 : List Nat) (v130 : List Nat) (v131 : List Nat) (v132 : Nat) (v133 : Nat) (v134 : List Nat) : (den TT (tabD impl_ThirdsRing_tab) (tabM impl_ThirdsRing_tab) (impl_ThirdsRing_LO v129 v130 v131 v132 v133 v134) (codeOf Try.f45) ([.agg [.bslc (BR.root 0) (.f32 v129), .bslc (BR.root 1) (.f32 v130), .bslc (BR.root 2) (.f32 v131)], .flt .f32 v132, .flt .f32 v133, .bslc (BR.root 3) (.f32 v134)] ++ List.replicate (Try.f45.ntmps - ([.agg [.bslc (BR.root 0) (.f32 v129), .bslc (BR.root 1) (.f32 v130), .bslc (BR.root 2) (.f32 v131)], .flt .f32 v132, .flt .f32 v133, .bslc (BR.root 3) (.f32 v134)] : List DV).length) .undef) []).bind (retD TT Try.f45.results.toList 0) = (impl_ThirdsRing_T v129 v130 v131 v132 v133 v134).bind fun y => .leaf (impl_ThirdsRing_enc v129 v130 v131 v132 v133 v134 y) := by kernel_rfl
theorem impl_ThirdsRing_fn (v129 : List Nat) (v130 : List Nat) (v131 : List Nat) (v132 : Nat) (v133 : Nat) (v134 : List Nat) (F : Fr) (hm : F.ids.length = 0) (h0 : St F [] F.H0) (hA : DVs.Ok F [] [.agg [.bslc (BR.root 0) (.f32 v129), .bslc (BR.root 1) (.f32 v130), .bslc (BR.root 2) (.f32 v131)], .flt .f32 v132, .flt .f32 v133, .bslc (BR.root 3) (.f32 v134)]) {y : (Unit) ⊕ ((List Nat))} (hy : impl_ThirdsRing_g v129 v130 v131 v132 v133 v134 = some y) : ∃ H', FnOk Try.prog 45 (DVs.av F [.agg [.bslc (BR.root 0) (.f32 v129), .bslc (BR.root 1) (.f32 v130), .bslc (BR.root 2) (.f32 v131)], .flt .f32 v132, .flt .f32 v133, .bslc (BR.root 3) (.f32 v134)]) F.H0 ((impl_ThirdsRing_enc v129 v130 v131 v132 v133 v134 y).1.av F) H' ∧ St F (impl_ThirdsRing_enc v129 v130 v131 v132 v133 v134 y).2 H' ∧ (impl_ThirdsRing_enc v129 v130 v131 v132 v133 v134 y).1.Ok F (impl_ThirdsRing_enc v129 v130 v131 v132 v133 v134 y).2 :=
  fn_fin tok impl_ThirdsRing_hO mixed Try.func45 Try.call45 (by kernel_rfl) (LoopsOk_eq (l := []) (by kernel_rfl) trivial) (impl_ThirdsRing_den v129 v130 v131 v132 v133 v134) hy hm h0 hA
noncomputable def impl_ThirdsRing_F : DFn := fun args L =>
  match args with
  | [.agg [a1, a2, a3], .flt .f32 v132, .flt .f32 v133, a4] =>
    optT (rowF32 L a1) fun v129 =>
    optT (rowF32 L a2) fun v130 =>
    optT (rowF32 L a3) fun v131 =>
    optT (rowF32 L a4) fun v134 =>
    .call (impl_ThirdsRing_g v129 v130 v131 v132 v133 v134) fun y => .sum y (fun y0 => .leaf (.tup [.nilslc, .lit false], L)) (fun z0 => .leaf (.tup [.own (L.length + 0) 0 ((z0).length), .lit true], L ++ [.row (.f32 z0) 0]))
  | _ => .fail
theorem impl_ThirdsRing_Fok : COk Try.prog 45 impl_ThirdsRing_F true := by
  intro F L H args r L' hs ha hr
  unfold impl_ThirdsRing_F at hr
  split at hr
  · rename_i a1 a2 a3 v132 v133 a4
    obtain ⟨v129, hv129, hr⟩ := optT_run hr
    obtain ⟨v130, hv130, hr⟩ := optT_run hr
    obtain ⟨v131, hv131, hr⟩ := optT_run hr
    obtain ⟨v134, hv134, hr⟩ := optT_run hr
    simp only [Tree.run] at hr
    obtain ⟨y, hy, hr⟩ := Option.bind_eq_some_iff.1 hr
    cases y with
    | inl y =>
      simp only [Tree.run, Option.some.injEq, Prod.mk.injEq] at hr
      obtain ⟨rfl, rfl⟩ := hr
      exact call_ok0 hs (fun k => (([a1.av F, a2.av F, a3.av F, a4.av F] : List AV)[k]?).getD .top) [.agg [a1, a2, a3], .flt .f32 v132, .flt .f32 v133, a4] [.agg [.bslc (BR.root 0) (.f32 v129), .bslc (BR.root 1) (.f32 v130), .bslc (BR.root 2) (.f32 v131)], .flt .f32 v132, .flt .f32 v133, .bslc (BR.root 3) (.f32 v134)] (fun F' h0 hi hρ => ⟨by simp [DVs.av, DV.av, BR.av, hρ], impl_ThirdsRing_fn v129 v130 v131 v132 v133 v134 F' (by rw [hi]; rfl) (st_nil hi) ⟨⟨bslc_ok hi (by rw [h0, hρ]; exact rowF32_ok hs (DVs.okAt (DVs.okAt ha 0 rfl) 0 rfl) hv129), bslc_ok hi (by rw [h0, hρ]; exact rowF32_ok hs (DVs.okAt (DVs.okAt ha 0 rfl) 1 rfl) hv130), bslc_ok hi (by rw [h0, hρ]; exact rowF32_ok hs (DVs.okAt (DVs.okAt ha 0 rfl) 2 rfl) hv131), trivial⟩, trivial, trivial, bslc_ok hi (by rw [h0, hρ]; exact rowF32_ok hs (DVs.okAt ha 3 rfl) hv134), trivial⟩ hy⟩) rfl
    | inr y =>
      simp only [Tree.run, Option.some.injEq, Prod.mk.injEq] at hr
      obtain ⟨rfl, rfl⟩ := hr
      exact call_ok1 hs (fun k => (([a1.av F, a2.av F, a3.av F, a4.av F] : List AV)[k]?).getD .top) [.agg [a1, a2, a3], .flt .f32 v132, .flt .f32 v133, a4] [.agg [.bslc (BR.root 0) (.f32 v129), .bslc (BR.root 1) (.f32 v130), .bslc (BR.root 2) (.f32 v131)], .flt .f32 v132, .flt .f32 v133, .bslc (BR.root 3) (.f32 v134)] (fun F' h0 hi hρ => ⟨by simp [DVs.av, DV.av, BR.av, hρ], impl_ThirdsRing_fn v129 v130 v131 v132 v133 v134 F' (by rw [hi]; rfl) (st_nil hi) ⟨⟨bslc_ok hi (by rw [h0, hρ]; exact rowF32_ok hs (DVs.okAt (DVs.okAt ha 0 rfl) 0 rfl) hv129), bslc_ok hi (by rw [h0, hρ]; exact rowF32_ok hs (DVs.okAt (DVs.okAt ha 0 rfl) 1 rfl) hv130), bslc_ok hi (by rw [h0, hρ]; exact rowF32_ok hs (DVs.okAt (DVs.okAt ha 0 rfl) 2 rfl) hv131), trivial⟩, trivial, trivial, bslc_ok hi (by rw [h0, hρ]; exact rowF32_ok hs (DVs.okAt ha 3 rfl) hv134), trivial⟩ hy⟩) rfl rfl
  · cases hr
/-! laws.sameFloat -/
noncomputable def laws_sameFloat_LO (v251 : Nat) (v252 : Nat) : LOr := fun id e L =>
  match id with
  | _ => .fail
noncomputable def laws_sameFloat_tab : List (FuncId × DFn × Bool) := []
theorem laws_sameFloat_hO : OrcOk Try.prog (tabD laws_sameFloat_tab) (tabM laws_sameFloat_tab) := tabD_nil _
noncomputable def laws_sameFloat_T (v251 : Nat) (v252 : Nat) : Tree (Bool) :=
  (.br (!feq .f64 v251 v251) (
   (.br (!feq .f64 v251 v251) (
    .leaf (!feq .f64 v252 v252)
   ) (
    .leaf false
   ))
  ) (
   (.br (!feq .f64 v252 v252) (
    (.br (!feq .f64 v251 v251) (
     .leaf (!feq .f64 v252 v252)
    ) (
     .leaf false
    ))
   ) (
    (.br (feq .f64 v251 (0 : Nat)) (
     (.br (feq .f64 v252 (0 : Nat)) (
      .leaf ((fgrt .f64 (fdiv .f64 (4607182418800017408 : Nat) v251) (0 : Nat)) == (fgrt .f64 (fdiv .f64 (4607182418800017408 : Nat) v252) (0 : Nat)))
     ) (
      .leaf (feq .f64 v251 v252)
     ))
    ) (
     .leaf (feq .f64 v251 v252)
    ))
   ))
  ))

noncomputable def laws_sameFloat_g (v251 : Nat) (v252 : Nat) : Option (Bool) := (laws_sameFloat_T v251 v252).run
def laws_sameFloat_enc (v251 : Nat) (v252 : Nat) (y : Bool) : Rs := (.bool y, [])
theorem laws_sameFloat_den (v251 : Nat) (v252 : Nat) : (den TT (tabD laws_sameFloat_tab) (tabM laws_sameFloat_tab) (laws_sameFloat_LO v251 v252) (codeOf Try.f31) ([.flt .f64 v251, .flt .f64 v252] ++ List.replicate (Try.f31.ntmps - ([.flt .f64 v251, .flt .f64 v252] : List DV).length) .undef) []).bind (retD TT Try.f31.results.toList 0) = (laws_sameFloat_T v251 v252).bind fun y => .leaf (laws_sameFloat_enc v251 v252 y) := by kernel_rfl
theorem laws_sameFloat_fn (v251 : Nat) (v252 : Nat) (F : Fr) (hm : F.ids.length = 0) (h0 : St F [] F.H0) (hA : DVs.Ok F [] [.flt .f64 v251, .flt .f64 v252]) {y : Bool} (hy : laws_sameFloat_g v251 v252 = some y) : ∃ H', FnOk Try.prog 31 (DVs.av F [.flt .f64 v251, .flt .f64 v252]) F.H0 ((laws_sameFloat_enc v251 v252 y).1.av F) H' ∧ St F (laws_sameFloat_enc v251 v252 y).2 H' ∧ (laws_sameFloat_enc v251 v252 y).1.Ok F (laws_sameFloat_enc v251 v252 y).2 :=
  fn_fin tok laws_sameFloat_hO mixed Try.func31 Try.call31 (by kernel_rfl) (LoopsOk_eq (l := []) (by kernel_rfl) trivial) (laws_sameFloat_den v251 v252) hy hm h0 hA
def laws_sameFloat_v (v251 : Nat) (v252 : Nat) : Bool :=
  if (!feq .f64 v251 v251) = true then (
   if (!feq .f64 v251 v251) = true then (
    !feq .f64 v252 v252
   ) else (
    false
   )
  ) else (
   if (!feq .f64 v252 v252) = true then (
    if (!feq .f64 v251 v251) = true then (
     !feq .f64 v252 v252
    ) else (
     false
    )
   ) else (
    if (feq .f64 v251 (0 : Nat)) = true then (
     if (feq .f64 v252 (0 : Nat)) = true then (
      (fgrt .f64 (fdiv .f64 (4607182418800017408 : Nat) v251) (0 : Nat)) == (fgrt .f64 (fdiv .f64 (4607182418800017408 : Nat) v252) (0 : Nat))
     ) else (
      feq .f64 v251 v252
     )
    ) else (
     feq .f64 v251 v252
    )
   )
  )
theorem laws_sameFloat_tot (v251 : Nat) (v252 : Nat) : laws_sameFloat_g v251 v252 = some (laws_sameFloat_v v251 v252) := by
  unfold laws_sameFloat_g laws_sameFloat_T laws_sameFloat_v
  simp only [Tree.run]
  repeat' (first | rfl | split)
noncomputable def laws_sameFloat_F : DFn := fun args L =>
  match args with
  | [.flt .f64 v251, .flt .f64 v252] =>
    .leaf (.bool (laws_sameFloat_v v251 v252), L)
  | _ => .fail
theorem laws_sameFloat_Fok : COk Try.prog 31 laws_sameFloat_F true := by
  intro F L H args r L' hs ha hr
  unfold laws_sameFloat_F at hr
  split at hr
  · rename_i v251 v252
    have hy := laws_sameFloat_tot v251 v252
    generalize laws_sameFloat_v v251 v252 = y at hy hr
    simp only [Tree.run, Option.some.injEq, Prod.mk.injEq] at hr
    obtain ⟨rfl, rfl⟩ := hr
    exact call_ok0 hs (fun k => (([] : List AV)[k]?).getD .top) [.flt .f64 v251, .flt .f64 v252] [.flt .f64 v251, .flt .f64 v252] (fun F' h0 hi hρ => ⟨by simp [DVs.av, DV.av, BR.av, hρ], laws_sameFloat_fn v251 v252 F' (by rw [hi]; rfl) (st_nil hi) ⟨trivial, trivial, trivial⟩ hy⟩) rfl
  · cases hr
/-! laws.eqFloat32S -/
noncomputable def laws_eqFloat32S_l0_T (v248 : List Nat) (v249 : List Nat) (s : Int) : Tree ((Int) ⊕ ((Unit) ⊕ (Unit))) :=
  (.br (decide (s < ((v248.length : Nat) : Int))) (
   (.grd (inb s v248.length) <|
   (.grd (inb s v249.length) <|
   (.br (!(laws_sameFloat_v (wid (nth v248 (Int.toNat s))) (wid (nth v249 (Int.toNat s))))) (
    .leaf (.inr (.inl ()))
   ) (
    .leaf (.inl (IntKind.i64.wrap (s + (1 : Int))))
   ))))
  ) (
   .leaf (.inr (.inr ()))
  ))

noncomputable def laws_eqFloat32S_l0_g (v248 : List Nat) (v249 : List Nat) (s0 : Int) : Option ((Unit) ⊕ (Unit)) := whileM (fun s => (laws_eqFloat32S_l0_T v248 v249 s).run) s0
def laws_eqFloat32S_l0_E (v248 : List Nat) (v249 : List Nat) (s : Int) : Sd := ([.bslc (BR.root 0) (.f32 v248), .bslc (BR.root 1) (.f32 v249), .top, .top, .top, .int .i64 s, .top, .top, .top, .top, .top, .top, .top, .top, .top, .top, .top, .top, .top, .top, .top, .top, .top, .top, .top, .top, .top, .top, .top], [])
def laws_eqFloat32S_l0_X (v248 : List Nat) (v249 : List Nat) (x : (Unit) ⊕ (Unit)) : Out := (match x with | .inl x => (.ret, [.top, .top, .top, .top, .lit false, .top, .top, .top, .top, .top, .top, .top, .top, .top, .top, .top, .top, .top, .top, .top, .top, .top, .top, .top, .top, .top, .top, .top, .top], []) | .inr x => (.normal, [.top, .top, .top, .top, .top, .top, .top, .top, .top, .top, .top, .top, .top, .top, .top, .top, .top, .top, .top, .top, .top, .top, .top, .top, .top, .top, .top, .top, .top], []))
def laws_eqFloat32S_l0_kill : List Nat := [0, 0, 1, 1, 1, 0, 1, 1, 1, 1, 1, 1, 1, 1, 1, 1, 1, 1, 1, 1, 1, 1, 1, 1, 1, 1, 1, 1, 1]
def laws_eqFloat32S_l0_nx : Exit → List Nat
  | .exit 0 => [1, 1, 1, 1, 1, 1, 1, 1, 1, 1, 1, 1, 1, 1, 1, 1, 1, 1, 1, 1, 1, 1, 1, 1, 1, 1, 1, 1, 1]
  | .ret => [1, 1, 1, 1, 0, 1, 1, 1, 1, 1, 1, 1, 1, 1, 1, 1, 1, 1, 1, 1, 1, 1, 1, 1, 1, 1, 1, 1, 1]
  | _ => []
noncomputable def laws_eqFloat32S_LO (v248 : List Nat) (v249 : List Nat) : LOr := fun id e L =>
  match id with
  | 0 => .need (normA 0 laws_eqFloat32S_l0_kill e L = some (laws_eqFloat32S_l0_E v248 v249 (gI (vAt e 5)))) (.call (laws_eqFloat32S_l0_g v248 v249 (gI (vAt e 5))) fun x => .sum x (fun b0 => .leaf (laws_eqFloat32S_l0_X v248 v249 (.inl b0))) (fun c0 => .leaf (laws_eqFloat32S_l0_X v248 v249 (.inr c0))))
  | _ => .fail
noncomputable def laws_eqFloat32S_tab : List (FuncId × DFn × Bool) := [(31, laws_sameFloat_F, true)]
theorem laws_eqFloat32S_hO : OrcOk Try.prog (tabD laws_eqFloat32S_tab) (tabM laws_eqFloat32S_tab) := tabD_cons laws_sameFloat_Fok (tabD_nil _)
theorem laws_eqFloat32S_l0_be (v248 : List Nat) (v249 : List Nat) (s : Int) : bodyT TT (tabD laws_eqFloat32S_tab) (tabM laws_eqFloat32S_tab) (laws_eqFloat32S_LO v248 v249) 0 laws_eqFloat32S_l0_kill laws_eqFloat32S_l0_nx (bodyOf Try.f20 0) 0 (laws_eqFloat32S_l0_E v248 v249 s) = (laws_eqFloat32S_l0_T v248 v249 s).bind fun y => .leaf (outS (laws_eqFloat32S_l0_E v248 v249) (laws_eqFloat32S_l0_X v248 v249) y) := by kernel_rfl
theorem laws_eqFloat32S_l0_ok (v248 : List Nat) (v249 : List Nat) : LSound Try.prog 0 (laws_eqFloat32S_LO v248 v249) 0 (bodyOf Try.f20 0) := by
  intro e L out h
  exact lo_ok (E := laws_eqFloat32S_l0_E v248 v249) (gT := laws_eqFloat32S_l0_T v248 v249) (X := laws_eqFloat32S_l0_X v248 v249) (s0 := (gI (vAt e 5))) tok laws_eqFloat32S_hO mixed (LoopsOk_eq (l := []) (by kernel_rfl) trivial) (laws_eqFloat32S_l0_be v248 v249) rfl (by intro x; (cases x with | inl b => rfl | inr x => exact rfl)) h
noncomputable def laws_eqFloat32S_T (v248 : List Nat) (v249 : List Nat) : Tree (Bool) :=
  (.br (!decide (((v248.length : Nat) : Int) = ((v249.length : Nat) : Int))) (
   .leaf false
  ) (
   (.need (some (laws_eqFloat32S_l0_E v248 v249 (0 : Int)) = some (laws_eqFloat32S_l0_E v248 v249 (0 : Int))) <|
   (.call (laws_eqFloat32S_l0_g v248 v249 (0 : Int)) fun v255 =>
   (.sum v255 (fun v256 =>
    .leaf false
   ) (fun v257 =>
    .leaf true
   ))))
  ))

noncomputable def laws_eqFloat32S_g (v248 : List Nat) (v249 : List Nat) : Option (Bool) := (laws_eqFloat32S_T v248 v249).run
def laws_eqFloat32S_enc (v248 : List Nat) (v249 : List Nat) (y : Bool) : Rs := (.bool y, [])
theorem laws_eqFloat32S_den (v248 : List Nat) (v249 : List Nat) : (den TT (tabD laws_eqFloat32S_tab) (tabM laws_eqFloat32S_tab) (laws_eqFloat32S_LO v248 v249) (codeOf Try.f20) ([.bslc (BR.root 0) (.f32 v248), .bslc (BR.root 1) (.f32 v249)] ++ List.replicate (Try.f20.ntmps - ([.bslc (BR.root 0) (.f32 v248), .bslc (BR.root 1) (.f32 v249)] : List DV).length) .undef) []).bind (retD TT Try.f20.results.toList 0) = (laws_eqFloat32S_T v248 v249).bind fun y => .leaf (laws_eqFloat32S_enc v248 v249 y) := by kernel_rfl
theorem laws_eqFloat32S_fn (v248 : List Nat) (v249 : List Nat) (F : Fr) (hm : F.ids.length = 0) (h0 : St F [] F.H0) (hA : DVs.Ok F [] [.bslc (BR.root 0) (.f32 v248), .bslc (BR.root 1) (.f32 v249)]) {y : Bool} (hy : laws_eqFloat32S_g v248 v249 = some y) : ∃ H', FnOk Try.prog 20 (DVs.av F [.bslc (BR.root 0) (.f32 v248), .bslc (BR.root 1) (.f32 v249)]) F.H0 ((laws_eqFloat32S_enc v248 v249 y).1.av F) H' ∧ St F (laws_eqFloat32S_enc v248 v249 y).2 H' ∧ (laws_eqFloat32S_enc v248 v249 y).1.Ok F (laws_eqFloat32S_enc v248 v249 y).2 :=
  fn_fin tok laws_eqFloat32S_hO mixed Try.func20 Try.call20 (by kernel_rfl) (LoopsOk_eq (l := [(0, bodyOf Try.f20 0)]) (by kernel_rfl) ⟨laws_eqFloat32S_l0_ok v248 v249, trivial⟩) (laws_eqFloat32S_den v248 v249) hy hm h0 hA
noncomputable def laws_eqFloat32S_F : DFn := fun args L =>
  match args with
  | [a1, a2] =>
    optT (rowF32 L a1) fun v248 =>
    optT (rowF32 L a2) fun v249 =>
    .call (laws_eqFloat32S_g v248 v249) fun y => .leaf (.bool y, L)
  | _ => .fail
theorem laws_eqFloat32S_Fok : COk Try.prog 20 laws_eqFloat32S_F true := by
  intro F L H args r L' hs ha hr
  unfold laws_eqFloat32S_F at hr
  split at hr
  · rename_i a1 a2
    obtain ⟨v248, hv248, hr⟩ := optT_run hr
    obtain ⟨v249, hv249, hr⟩ := optT_run hr
    simp only [Tree.run] at hr
    obtain ⟨y, hy, hr⟩ := Option.bind_eq_some_iff.1 hr
    simp only [Tree.run, Option.some.injEq, Prod.mk.injEq] at hr
    obtain ⟨rfl, rfl⟩ := hr
    exact call_ok0 hs (fun k => (([a1.av F, a2.av F] : List AV)[k]?).getD .top) [a1, a2] [.bslc (BR.root 0) (.f32 v248), .bslc (BR.root 1) (.f32 v249)] (fun F' h0 hi hρ => ⟨by simp [DVs.av, DV.av, BR.av, hρ], laws_eqFloat32S_fn v248 v249 F' (by rw [hi]; rfl) (st_nil hi) ⟨bslc_ok hi (by rw [h0, hρ]; exact rowF32_ok hs (DVs.okAt ha 0 rfl) hv248), bslc_ok hi (by rw [h0, hρ]; exact rowF32_ok hs (DVs.okAt ha 1 rfl) hv249), trivial⟩ hy⟩) rfl
  · cases hr
/-! laws.eqThirds -/
noncomputable def laws_eqThirds_LO (v260 : List Nat) (v261 : List Nat) (v262 : List Nat) (v263 : List Nat) (v264 : List Nat) (v265 : List Nat) : LOr := fun id e L =>
  match id with
  | _ => .fail
noncomputable def laws_eqThirds_tab : List (FuncId × DFn × Bool) := [(20, laws_eqFloat32S_F, true)]
theorem laws_eqThirds_hO : OrcOk Try.prog (tabD laws_eqThirds_tab) (tabM laws_eqThirds_tab) := tabD_cons laws_eqFloat32S_Fok (tabD_nil _)
noncomputable def laws_eqThirds_T (v260 : List Nat) (v261 : List Nat) (v262 : List Nat) (v263 : List Nat) (v264 : List Nat) (v265 : List Nat) : Tree (Bool) :=
  (.call (laws_eqFloat32S_g v260 v263) fun v266 =>
  (.br (!v266) (
   .leaf false
  ) (
   (.call (laws_eqFloat32S_g v261 v264) fun v267 =>
   (.br (!v267) (
    .leaf false
   ) (
    (.call (laws_eqFloat32S_g v262 v265) fun v268 =>
    (.br (!v268) (
     .leaf false
    ) (
     .leaf true
    )))
   )))
  )))

noncomputable def laws_eqThirds_g (v260 : List Nat) (v261 : List Nat) (v262 : List Nat) (v263 : List Nat) (v264 : List Nat) (v265 : List Nat) : Option (Bool) := (laws_eqThirds_T v260 v261 v262 v263 v264 v265).run
def laws_eqThirds_enc (v260 : List Nat) (v261 : List Nat) (v262 : List Nat) (v263 : List Nat) (v264 : List Nat) (v265 : List Nat) (y : Bool) : Rs := (.bool y, [])
theorem laws_eqThirds_den (v260 : List Nat) (v261 : List Nat) (v262 : List Nat) (v263 : List Nat) (v264 : List Nat) (v265 : List Nat) : (den TT (tabD laws_eqThirds_tab) (tabM laws_eqThirds_tab) (laws_eqThirds_LO v260 v261 v262 v263 v264 v265) (codeOf Try.f46) ([.agg [.bslc (BR.root 0) (.f32 v260), .bslc (BR.root 1) (.f32 v261), .bslc (BR.root 2) (.f32 v262)], .agg [.bslc (BR.root 3) (.f32 v263), .bslc (BR.root 4) (.f32 v264), .bslc (BR.root 5) (.f32 v265)]] ++ List.replicate (Try.f46.ntmps - ([.agg [.bslc (BR.root 0) (.f32 v260), .bslc (BR.root 1) (.f32 v261), .bslc (BR.root 2) (.f32 v262)], .agg [.bslc (BR.root 3) (.f32 v263), .bslc (BR.root 4) (.f32 v264), .bslc (BR.root 5) (.f32 v265)]] : List DV).length) .undef) []).bind (retD TT Try.f46.results.toList 0) = (laws_eqThirds_T v260 v261 v262 v263 v264 v265).bind fun y => .leaf (laws_eqThirds_enc v260 v261 v262 v263 v264 v265 y) := by kernel_rfl
theorem laws_eqThirds_fn (v260 : List Nat) (v261 : List Nat) (v262 : List Nat) (v263 : List Nat) (v264 : List Nat) (v265 : List Nat) (F : Fr) (hm : F.ids.length = 0) (h0 : St F [] F.H0) (hA : DVs.Ok F [] [.agg [.bslc (BR.root 0) (.f32 v260), .bslc (BR.root 1) (.f32 v261), .bslc (BR.root 2) (.f32 v262)], .agg [.bslc (BR.root 3) (.f32 v263), .bslc (BR.root 4) (.f32 v264), .bslc (BR.root 5) (.f32 v265)]]) {y : Bool} (hy : laws_eqThirds_g v260 v261 v262 v263 v264 v265 = some y) : ∃ H', FnOk Try.prog 46 (DVs.av F [.agg [.bslc (BR.root 0) (.f32 v260), .bslc (BR.root 1) (.f32 v261), .bslc (BR.root 2) (.f32 v262)], .agg [.bslc (BR.root 3) (.f32 v263), .bslc (BR.root 4) (.f32 v264), .bslc (BR.root 5) (.f32 v265)]]) F.H0 ((laws_eqThirds_enc v260 v261 v262 v263 v264 v265 y).1.av F) H' ∧ St F (laws_eqThirds_enc v260 v261 v262 v263 v264 v265 y).2 H' ∧ (laws_eqThirds_enc v260 v261 v262 v263 v264 v265 y).1.Ok F (laws_eqThirds_enc v260 v261 v262 v263 v264 v265 y).2 :=
  fn_fin tok laws_eqThirds_hO mixed Try.func46 Try.call46 (by kernel_rfl) (LoopsOk_eq (l := []) (by kernel_rfl) trivial) (laws_eqThirds_den v260 v261 v262 v263 v264 v265) hy hm h0 hA
noncomputable def laws_eqThirds_F : DFn := fun args L =>
  match args with
  | [.agg [a1, a2, a3], .agg [a4, a5, a6]] =>
    optT (rowF32 L a1) fun v260 =>
    optT (rowF32 L a2) fun v261 =>
    optT (rowF32 L a3) fun v262 =>
    optT (rowF32 L a4) fun v263 =>
    optT (rowF32 L a5) fun v264 =>
    optT (rowF32 L a6) fun v265 =>
    .call (laws_eqThirds_g v260 v261 v262 v263 v264 v265) fun y => .leaf (.bool y, L)
  | _ => .fail
theorem laws_eqThirds_Fok : COk Try.prog 46 laws_eqThirds_F true := by
  intro F L H args r L' hs ha hr
  unfold laws_eqThirds_F at hr
  split at hr
  · rename_i a1 a2 a3 a4 a5 a6
    obtain ⟨v260, hv260, hr⟩ := optT_run hr
    obtain ⟨v261, hv261, hr⟩ := optT_run hr
    obtain ⟨v262, hv262, hr⟩ := optT_run hr
    obtain ⟨v263, hv263, hr⟩ := optT_run hr
    obtain ⟨v264, hv264, hr⟩ := optT_run hr
    obtain ⟨v265, hv265, hr⟩ := optT_run hr
    simp only [Tree.run] at hr
    obtain ⟨y, hy, hr⟩ := Option.bind_eq_some_iff.1 hr
    simp only [Tree.run, Option.some.injEq, Prod.mk.injEq] at hr
    obtain ⟨rfl, rfl⟩ := hr
    exact call_ok0 hs (fun k => (([a1.av F, a2.av F, a3.av F, a4.av F, a5.av F, a6.av F] : List AV)[k]?).getD .top) [.agg [a1, a2, a3], .agg [a4, a5, a6]] [.agg [.bslc (BR.root 0) (.f32 v260), .bslc (BR.root 1) (.f32 v261), .bslc (BR.root 2) (.f32 v262)], .agg [.bslc (BR.root 3) (.f32 v263), .bslc (BR.root 4) (.f32 v264), .bslc (BR.root 5) (.f32 v265)]] (fun F' h0 hi hρ => ⟨by simp [DVs.av, DV.av, BR.av, hρ], laws_eqThirds_fn v260 v261 v262 v263 v264 v265 F' (by rw [hi]; rfl) (st_nil hi) ⟨⟨bslc_ok hi (by rw [h0, hρ]; exact rowF32_ok hs (DVs.okAt (DVs.okAt ha 0 rfl) 0 rfl) hv260), bslc_ok hi (by rw [h0, hρ]; exact rowF32_ok hs (DVs.okAt (DVs.okAt ha 0 rfl) 1 rfl) hv261), bslc_ok hi (by rw [h0, hρ]; exact rowF32_ok hs (DVs.okAt (DVs.okAt ha 0 rfl) 2 rfl) hv262), trivial⟩, ⟨bslc_ok hi (by rw [h0, hρ]; exact rowF32_ok hs (DVs.okAt (DVs.okAt ha 1 rfl) 0 rfl) hv263), bslc_ok hi (by rw [h0, hρ]; exact rowF32_ok hs (DVs.okAt (DVs.okAt ha 1 rfl) 1 rfl) hv264), bslc_ok hi (by rw [h0, hρ]; exact rowF32_ok hs (DVs.okAt (DVs.okAt ha 1 rfl) 2 rfl) hv265), trivial⟩, trivial⟩ hy⟩) rfl
  · cases hr
/-! laws.markFloat32S -/
noncomputable def laws_markFloat32S_l0_T (s : Int × Int × (List Nat)) : Tree ((Int × Int × (List Nat)) ⊕ (Int × (List Nat))) :=
  (.br (decide (s.2.1 < (((s.2.2).length : Nat) : Int))) (
   (.grd (inb s.2.1 ((s.2.2).length)) <|
   .leaf (.inl (IntKind.i64.wrap (s.1 + (1 : Int)), IntKind.i64.wrap (s.2.1 + (1 : Int)), List.set s.2.2 (Int.toNat s.2.1) (fofint .f32 s.1))))
  ) (
   .leaf (.inr (s.1, s.2.2))
  ))

noncomputable def laws_markFloat32S_l0_g (s0 : Int × Int × (List Nat)) : Option (Int × (List Nat)) := whileM (fun s => (laws_markFloat32S_l0_T s).run) s0
def laws_markFloat32S_l0_E (v280 : List Nat) (v281 : Int) (s : Int × Int × (List Nat)) : Sd := ([.own 0 0 ((s.2.2).length), .int .i64 s.1, .top, .top, .top, .int .i64 s.2.1, .top, .top, .top, .top, .top, .top, .top, .top, .top, .top, .top, .top, .top, .top], [.row (.f32 s.2.2) 0])
def laws_markFloat32S_l0_X (v280 : List Nat) (v281 : Int) (x : Int × (List Nat)) : Out := (.normal, [.top, .int .i64 x.1, .top, .top, .top, .top, .top, .top, .top, .top, .top, .top, .top, .top, .top, .top, .top, .top, .top, .top], [.row (.f32 x.2) 0])
def laws_markFloat32S_l0_kill : List Nat := [0, 0, 1, 1, 1, 0, 1, 1, 1, 1, 1, 1, 1, 1, 1, 1, 1, 1, 1, 1]
def laws_markFloat32S_l0_nx : Exit → List Nat
  | .exit 0 => [1, 0, 1, 1, 1, 1, 1, 1, 1, 1, 1, 1, 1, 1, 1, 1, 1, 1, 1, 1]
  | .ret => [1, 1, 1, 1, 0, 1, 1, 1, 1, 1, 1, 1, 1, 1, 1, 1, 1, 1, 1, 1]
  | _ => []
noncomputable def laws_markFloat32S_LO (v280 : List Nat) (v281 : Int) : LOr := fun id e L =>
  match id with
  | 0 => .need (normA 1 laws_markFloat32S_l0_kill e L = some (laws_markFloat32S_l0_E v280 v281 ((gI (vAt e 1)), (gI (vAt e 5)), (gRF L (vAt e 0))))) (.call (laws_markFloat32S_l0_g ((gI (vAt e 1)), (gI (vAt e 5)), (gRF L (vAt e 0)))) fun x => .leaf (laws_markFloat32S_l0_X v280 v281 x))
  | _ => .fail
noncomputable def laws_markFloat32S_tab : List (FuncId × DFn × Bool) := []
theorem laws_markFloat32S_hO : OrcOk Try.prog (tabD laws_markFloat32S_tab) (tabM laws_markFloat32S_tab) := tabD_nil _
theorem laws_markFloat32S_l0_be (v280 : List Nat) (v281 : Int) (s : Int × Int × (List Nat)) : bodyT TT (tabD laws_markFloat32S_tab) (tabM laws_markFloat32S_tab) (laws_markFloat32S_LO v280 v281) 1 laws_markFloat32S_l0_kill laws_markFloat32S_l0_nx (bodyOf Try.f22 0) 0 (laws_markFloat32S_l0_E v280 v281 s) = (laws_markFloat32S_l0_T s).bind fun y => .leaf (outS (laws_markFloat32S_l0_E v280 v281) (laws_markFloat32S_l0_X v280 v281) y) := by kernel_rfl
theorem laws_markFloat32S_l0_ok (v280 : List Nat) (v281 : Int) : LSound Try.prog 1 (laws_markFloat32S_LO v280 v281) 0 (bodyOf Try.f22 0) := by
  intro e L out h
  exact lo_ok (E := laws_markFloat32S_l0_E v280 v281) (gT := laws_markFloat32S_l0_T) (X := laws_markFloat32S_l0_X v280 v281) (s0 := ((gI (vAt e 1)), (gI (vAt e 5)), (gRF L (vAt e 0)))) tok laws_markFloat32S_hO mixed (LoopsOk_eq (l := []) (by kernel_rfl) trivial) (laws_markFloat32S_l0_be v280 v281) rfl (by intro x; rfl) h
noncomputable def laws_markFloat32S_T (v280 : List Nat) (v281 : Int) : Tree (Int × (List Nat)) :=
  (.need (some (laws_markFloat32S_l0_E v280 v281 (v281, (0 : Int), v280)) = some (laws_markFloat32S_l0_E v280 v281 (v281, (0 : Int), v280))) <|
  (.call (laws_markFloat32S_l0_g (v281, (0 : Int), v280)) fun v290 =>
  .leaf (v290.1, v290.2)))

noncomputable def laws_markFloat32S_g (v280 : List Nat) (v281 : Int) : Option (Int × (List Nat)) := (laws_markFloat32S_T v280 v281).run
def laws_markFloat32S_enc (v280 : List Nat) (v281 : Int) (y : Int × (List Nat)) : Rs := (.int .i64 y.1, [.row (.f32 y.2) 0])
theorem laws_markFloat32S_den (v280 : List Nat) (v281 : Int) : (den TT (tabD laws_markFloat32S_tab) (tabM laws_markFloat32S_tab) (laws_markFloat32S_LO v280 v281) (codeOf Try.f22) ([.own 0 0 v280.length, .int .i64 v281] ++ List.replicate (Try.f22.ntmps - ([.own 0 0 v280.length, .int .i64 v281] : List DV).length) .undef) [.row (.f32 v280) 0]).bind (retD TT Try.f22.results.toList 1) = (laws_markFloat32S_T v280 v281).bind fun y => .leaf (laws_markFloat32S_enc v280 v281 y) := by kernel_rfl
theorem laws_markFloat32S_fn (v280 : List Nat) (v281 : Int) (F : Fr) (hm : F.ids.length = 1) (h0 : St F [.row (.f32 v280) 0] F.H0) (hA : DVs.Ok F [.row (.f32 v280) 0] [.own 0 0 v280.length, .int .i64 v281]) {y : Int × (List Nat)} (hy : laws_markFloat32S_g v280 v281 = some y) : ∃ H', FnOk Try.prog 22 (DVs.av F [.own 0 0 v280.length, .int .i64 v281]) F.H0 ((laws_markFloat32S_enc v280 v281 y).1.av F) H' ∧ St F (laws_markFloat32S_enc v280 v281 y).2 H' ∧ (laws_markFloat32S_enc v280 v281 y).1.Ok F (laws_markFloat32S_enc v280 v281 y).2 :=
  fn_fin tok laws_markFloat32S_hO mixed Try.func22 Try.call22 (by kernel_rfl) (LoopsOk_eq (l := [(0, bodyOf Try.f22 0)]) (by kernel_rfl) ⟨laws_markFloat32S_l0_ok v280 v281, trivial⟩) (laws_markFloat32S_den v280 v281) hy hm h0 hA
noncomputable def laws_markFloat32S_F : DFn := fun args L =>
  match args with
  | [a1, .int .i64 v281] =>
    optT (ownF32 L a1) fun qv280 =>
    (match sepB [qv280.1] [] with
    | true =>
    .call (laws_markFloat32S_g qv280.2 v281) fun y => .grd (decide (y.2.length = qv280.2.length)) (.leaf (.int .i64 y.1, setRows L ([qv280.1].zip [.f32 y.2])))
    | false => .fail)
  | _ => .fail
theorem laws_markFloat32S_Fok : COk Try.prog 22 laws_markFloat32S_F false := by
  intro F L H args r L' hs ha hr
  unfold laws_markFloat32S_F at hr
  split at hr
  · rename_i a1 v281
    obtain ⟨⟨jv280, v280⟩, hqv280, hr⟩ := optT_run hr
    simp only at hr
    split at hr
    · rename_i hsep
      obtain ⟨hnd, hsepv⟩ := sepB_spec hsep
      simp only [Tree.run] at hr
      obtain ⟨y, hy, hr⟩ := Option.bind_eq_some_iff.1 hr
      try simp only [Tree.run] at hr
      obtain ⟨hl0, hr⟩ := ite_run hr
      simp only [Option.some.injEq, Prod.mk.injEq] at hr
      obtain ⟨rfl, rfl⟩ := hr
      obtain ⟨hr0, hu0, ha0, hb0⟩ := (ownR_spec (DVs.okAt ha 0 rfl) (ownF32_or hqv280))
      exact mut_ok hs (fun k => (([a1.av F] : List AV)[k]?).getD .top) [a1, .int .i64 v281] [.own 0 0 v280.length, .int .i64 v281] [jv280] [.f32 v280] [.f32 y.2] hnd rfl rfl (fun i j q h1 h2 => by
          rcases i with _ | i
          · simp at h1 h2; subst h1; subst h2; exact hr0
          · simp at h1) (fun i q q' h1 h2 => by
          rcases i with _ | i
          · simp at h1 h2; subst h1; subst h2; exact of_decide_eq_true hl0
          · simp at h1) (fun j hj => by simp at hj; subst hj; simp [DVs.refs, DV.refs, hu0]) (fun F' h0 hi hρ hst hS => ⟨by (have ab0 : F'.abs 0 = F.abs jv280 := (by simp [Fr.abs, hi]); simp [DVs.av, DV.av, BR.av, hρ, Row.len, ha0, ab0]), by
          obtain ⟨H1, k1, k2, _⟩ := laws_markFloat32S_fn v280 v281 F' (by rw [hi]; rfl) hst ⟨⟨_, rfl, Nat.le_refl _, Nat.le_refl _, fun _ => rfl, (ownR_spec (DVs.okAt ha 0 rfl) (ownF32_or hqv280)).2.2.2⟩, trivial, trivial⟩ hy
          exact ⟨H1, k1, k2⟩⟩) (fun F' => rfl) (fun L' => trivial)
    · cases hr
  · cases hr
/-! laws.markThirds -/
noncomputable def laws_markThirds_LO (v302 : List Nat) (v303 : List Nat) (v304 : List Nat) (v305 : Int) : LOr := fun id e L =>
  match id with
  | _ => .fail
noncomputable def laws_markThirds_tab : List (FuncId × DFn × Bool) := [(22, laws_markFloat32S_F, false)]
theorem laws_markThirds_hO : OrcOk Try.prog (tabD laws_markThirds_tab) (tabM laws_markThirds_tab) := tabD_cons laws_markFloat32S_Fok (tabD_nil _)
noncomputable def laws_markThirds_T (v302 : List Nat) (v303 : List Nat) (v304 : List Nat) (v305 : Int) : Tree (Int × (List Nat) × (List Nat) × (List Nat)) :=
  (.call (laws_markFloat32S_g v302 v305) fun v306 =>
  (.grd (decide (v306.2.length = v302.length)) <|
  (.call (laws_markFloat32S_g v303 v306.1) fun v307 =>
  (.grd (decide (v307.2.length = v303.length)) <|
  (.call (laws_markFloat32S_g v304 v307.1) fun v308 =>
  (.grd (decide (v308.2.length = v304.length)) <|
  .leaf (v308.1, v306.2, v307.2, v308.2)))))))

noncomputable def laws_markThirds_g (v302 : List Nat) (v303 : List Nat) (v304 : List Nat) (v305 : Int) : Option (Int × (List Nat) × (List Nat) × (List Nat)) := (laws_markThirds_T v302 v303 v304 v305).run
def laws_markThirds_enc (v302 : List Nat) (v303 : List Nat) (v304 : List Nat) (v305 : Int) (y : Int × (List Nat) × (List Nat) × (List Nat)) : Rs := (.int .i64 y.1, [.row (.f32 y.2.1) 0, .row (.f32 y.2.2.1) 0, .row (.f32 y.2.2.2) 0])
theorem laws_markThirds_den (v302 : List Nat) (v303 : List Nat) (v304 : List Nat) (v305 : Int) : (den TT (tabD laws_markThirds_tab) (tabM laws_markThirds_tab) (laws_markThirds_LO v302 v303 v304 v305) (codeOf Try.f47) ([.agg [.own 0 0 v302.length, .own 1 0 v303.length, .own 2 0 v304.length], .int .i64 v305] ++ List.replicate (Try.f47.ntmps - ([.agg [.own 0 0 v302.length, .own 1 0 v303.length, .own 2 0 v304.length], .int .i64 v305] : List DV).length) .undef) [.row (.f32 v302) 0, .row (.f32 v303) 0, .row (.f32 v304) 0]).bind (retD TT Try.f47.results.toList 3) = (laws_markThirds_T v302 v303 v304 v305).bind fun y => .leaf (laws_markThirds_enc v302 v303 v304 v305 y) := by kernel_rfl
theorem laws_markThirds_fn (v302 : List Nat) (v303 : List Nat) (v304 : List Nat) (v305 : Int) (F : Fr) (hm : F.ids.length = 3) (h0 : St F [.row (.f32 v302) 0, .row (.f32 v303) 0, .row (.f32 v304) 0] F.H0) (hA : DVs.Ok F [.row (.f32 v302) 0, .row (.f32 v303) 0, .row (.f32 v304) 0] [.agg [.own 0 0 v302.length, .own 1 0 v303.length, .own 2 0 v304.length], .int .i64 v305]) {y : Int × (List Nat) × (List Nat) × (List Nat)} (hy : laws_markThirds_g v302 v303 v304 v305 = some y) : ∃ H', FnOk Try.prog 47 (DVs.av F [.agg [.own 0 0 v302.length, .own 1 0 v303.length, .own 2 0 v304.length], .int .i64 v305]) F.H0 ((laws_markThirds_enc v302 v303 v304 v305 y).1.av F) H' ∧ St F (laws_markThirds_enc v302 v303 v304 v305 y).2 H' ∧ (laws_markThirds_enc v302 v303 v304 v305 y).1.Ok F (laws_markThirds_enc v302 v303 v304 v305 y).2 :=
  fn_fin tok laws_markThirds_hO mixed Try.func47 Try.call47 (by kernel_rfl) (LoopsOk_eq (l := []) (by kernel_rfl) trivial) (laws_markThirds_den v302 v303 v304 v305) hy hm h0 hA
noncomputable def laws_markThirds_F : DFn := fun args L =>
  match args with
  | [.agg [a1, a2, a3], .int .i64 v305] =>
    optT (ownF32 L a1) fun qv302 =>
    optT (ownF32 L a2) fun qv303 =>
    optT (ownF32 L a3) fun qv304 =>
    (match sepB [qv302.1, qv303.1, qv304.1] [] with
    | true =>
    .call (laws_markThirds_g qv302.2 qv303.2 qv304.2 v305) fun y => .grd (decide (y.2.1.length = qv302.2.length)) (.grd (decide (y.2.2.1.length = qv303.2.length)) (.grd (decide (y.2.2.2.length = qv304.2.length)) (.leaf (.int .i64 y.1, setRows L ([qv302.1, qv303.1, qv304.1].zip [.f32 y.2.1, .f32 y.2.2.1, .f32 y.2.2.2])))))
    | false => .fail)
  | _ => .fail
theorem laws_markThirds_Fok : COk Try.prog 47 laws_markThirds_F false := by
  intro F L H args r L' hs ha hr
  unfold laws_markThirds_F at hr
  split at hr
  · rename_i a1 a2 a3 v305
    obtain ⟨⟨jv302, v302⟩, hqv302, hr⟩ := optT_run hr
    simp only at hr
    obtain ⟨⟨jv303, v303⟩, hqv303, hr⟩ := optT_run hr
    simp only at hr
    obtain ⟨⟨jv304, v304⟩, hqv304, hr⟩ := optT_run hr
    simp only at hr
    split at hr
    · rename_i hsep
      obtain ⟨hnd, hsepv⟩ := sepB_spec hsep
      simp only [Tree.run] at hr
      obtain ⟨y, hy, hr⟩ := Option.bind_eq_some_iff.1 hr
      try simp only [Tree.run] at hr
      obtain ⟨hl0, hr⟩ := ite_run hr
      obtain ⟨hl1, hr⟩ := ite_run hr
      obtain ⟨hl2, hr⟩ := ite_run hr
      simp only [Option.some.injEq, Prod.mk.injEq] at hr
      obtain ⟨rfl, rfl⟩ := hr
      obtain ⟨hr0, hu0, ha0, hb0⟩ := (ownR_spec (DVs.okAt (DVs.okAt ha 0 rfl) 0 rfl) (ownF32_or hqv302))
      obtain ⟨hr1, hu1, ha1, hb1⟩ := (ownR_spec (DVs.okAt (DVs.okAt ha 0 rfl) 1 rfl) (ownF32_or hqv303))
      obtain ⟨hr2, hu2, ha2, hb2⟩ := (ownR_spec (DVs.okAt (DVs.okAt ha 0 rfl) 2 rfl) (ownF32_or hqv304))
      exact mut_ok hs (fun k => (([a1.av F, a2.av F, a3.av F] : List AV)[k]?).getD .top) [.agg [a1, a2, a3], .int .i64 v305] [.agg [.own 0 0 v302.length, .own 1 0 v303.length, .own 2 0 v304.length], .int .i64 v305] [jv302, jv303, jv304] [.f32 v302, .f32 v303, .f32 v304] [.f32 y.2.1, .f32 y.2.2.1, .f32 y.2.2.2] hnd rfl rfl (fun i j q h1 h2 => by
          rcases i with _ | _ | _ | i
          · simp at h1 h2; subst h1; subst h2; exact hr0
          · simp at h1 h2; subst h1; subst h2; exact hr1
          · simp at h1 h2; subst h1; subst h2; exact hr2
          · simp at h1) (fun i q q' h1 h2 => by
          rcases i with _ | _ | _ | i
          · simp at h1 h2; subst h1; subst h2; exact of_decide_eq_true hl0
          · simp at h1 h2; subst h1; subst h2; exact of_decide_eq_true hl1
          · simp at h1 h2; subst h1; subst h2; exact of_decide_eq_true hl2
          · simp at h1) (fun j hj => by simp at hj; rcases hj with rfl | rfl | rfl <;> simp [DVs.refs, DV.refs, hu0, hu1, hu2]) (fun F' h0 hi hρ hst hS => ⟨by (have ab0 : F'.abs 0 = F.abs jv302 := (by simp [Fr.abs, hi]); have ab1 : F'.abs 1 = F.abs jv303 := (by simp [Fr.abs, hi]); have ab2 : F'.abs 2 = F.abs jv304 := (by simp [Fr.abs, hi]); simp [DVs.av, DV.av, BR.av, hρ, Row.len, ha0, ab0, ha1, ab1, ha2, ab2]), by
          obtain ⟨H1, k1, k2, _⟩ := laws_markThirds_fn v302 v303 v304 v305 F' (by rw [hi]; rfl) hst ⟨⟨⟨_, rfl, Nat.le_refl _, Nat.le_refl _, fun _ => rfl, (ownR_spec (DVs.okAt (DVs.okAt ha 0 rfl) 0 rfl) (ownF32_or hqv302)).2.2.2⟩, ⟨_, rfl, Nat.le_refl _, Nat.le_refl _, fun _ => rfl, (ownR_spec (DVs.okAt (DVs.okAt ha 0 rfl) 1 rfl) (ownF32_or hqv303)).2.2.2⟩, ⟨_, rfl, Nat.le_refl _, Nat.le_refl _, fun _ => rfl, (ownR_spec (DVs.okAt (DVs.okAt ha 0 rfl) 2 rfl) (ownF32_or hqv304)).2.2.2⟩, trivial⟩, trivial, trivial⟩ hy
          exact ⟨H1, k1, k2⟩⟩) (fun F' => rfl) (fun L' => trivial)
    · cases hr
  · cases hr
/-! laws.markFloat32S -/
noncomputable def laws_markFloat32S_i1_l0_T (s : Unit) : Tree ((Unit) ⊕ (Unit)) :=
  (.br (decide ((0 : Int) < (0 : Int))) (
   .fail
  ) (
   .leaf (.inr ())
  ))

noncomputable def laws_markFloat32S_i1_l0_g (s0 : Unit) : Option (Unit) := whileM (fun s => (laws_markFloat32S_i1_l0_T s).run) s0
def laws_markFloat32S_i1_l0_E (v312 : Int) (s : Unit) : Sd := ([.nilslc, .int .i64 v312, .top, .top, .top, .int .i64 (0 : Int), .top, .top, .top, .top, .top, .top, .top, .top, .top, .top, .top, .top, .top, .top], [])
def laws_markFloat32S_i1_l0_X (v312 : Int) (x : Unit) : Out := (.normal, [.top, .int .i64 v312, .top, .top, .top, .top, .top, .top, .top, .top, .top, .top, .top, .top, .top, .top, .top, .top, .top, .top], [])
def laws_markFloat32S_i1_l0_kill : List Nat := [0, 0, 1, 1, 1, 0, 1, 1, 1, 1, 1, 1, 1, 1, 1, 1, 1, 1, 1, 1]
def laws_markFloat32S_i1_l0_nx : Exit → List Nat
  | .exit 0 => [1, 0, 1, 1, 1, 1, 1, 1, 1, 1, 1, 1, 1, 1, 1, 1, 1, 1, 1, 1]
  | .ret => [1, 1, 1, 1, 0, 1, 1, 1, 1, 1, 1, 1, 1, 1, 1, 1, 1, 1, 1, 1]
  | _ => []
noncomputable def laws_markFloat32S_i1_LO (v312 : Int) : LOr := fun id e L =>
  match id with
  | 0 => .need (normA 0 laws_markFloat32S_i1_l0_kill e L = some (laws_markFloat32S_i1_l0_E v312 ())) (.call (laws_markFloat32S_i1_l0_g ()) fun x => .leaf (laws_markFloat32S_i1_l0_X v312 x))
  | _ => .fail
noncomputable def laws_markFloat32S_i1_tab : List (FuncId × DFn × Bool) := []
theorem laws_markFloat32S_i1_hO : OrcOk Try.prog (tabD laws_markFloat32S_i1_tab) (tabM laws_markFloat32S_i1_tab) := tabD_nil _
theorem laws_markFloat32S_i1_l0_be (v312 : Int) (s : Unit) : bodyT TT (tabD laws_markFloat32S_i1_tab) (tabM laws_markFloat32S_i1_tab) (laws_markFloat32S_i1_LO v312) 0 laws_markFloat32S_i1_l0_kill laws_markFloat32S_i1_l0_nx (bodyOf Try.f22 0) 0 (laws_markFloat32S_i1_l0_E v312 s) = (laws_markFloat32S_i1_l0_T s).bind fun y => .leaf (outS (laws_markFloat32S_i1_l0_E v312) (laws_markFloat32S_i1_l0_X v312) y) := by kernel_rfl
theorem laws_markFloat32S_i1_l0_ok (v312 : Int) : LSound Try.prog 0 (laws_markFloat32S_i1_LO v312) 0 (bodyOf Try.f22 0) := by
  intro e L out h
  exact lo_ok (E := laws_markFloat32S_i1_l0_E v312) (gT := laws_markFloat32S_i1_l0_T) (X := laws_markFloat32S_i1_l0_X v312) (s0 := ()) tok laws_markFloat32S_i1_hO mixed (LoopsOk_eq (l := []) (by kernel_rfl) trivial) (laws_markFloat32S_i1_l0_be v312) rfl (by intro x; rfl) h
noncomputable def laws_markFloat32S_i1_T (v312 : Int) : Tree (Int) :=
  (.need (some (laws_markFloat32S_i1_l0_E v312 ()) = some (laws_markFloat32S_i1_l0_E v312 ())) <|
  (.call (laws_markFloat32S_i1_l0_g ()) fun v315 =>
  .leaf v312))

noncomputable def laws_markFloat32S_i1_g (v312 : Int) : Option (Int) := (laws_markFloat32S_i1_T v312).run
def laws_markFloat32S_i1_enc (v312 : Int) (y : Int) : Rs := (.int .i64 y, [])
theorem laws_markFloat32S_i1_den (v312 : Int) : (den TT (tabD laws_markFloat32S_i1_tab) (tabM laws_markFloat32S_i1_tab) (laws_markFloat32S_i1_LO v312) (codeOf Try.f22) ([.nilslc, .int .i64 v312] ++ List.replicate (Try.f22.ntmps - ([.nilslc, .int .i64 v312] : List DV).length) .undef) []).bind (retD TT Try.f22.results.toList 0) = (laws_markFloat32S_i1_T v312).bind fun y => .leaf (laws_markFloat32S_i1_enc v312 y) := by kernel_rfl
theorem laws_markFloat32S_i1_fn (v312 : Int) (F : Fr) (hm : F.ids.length = 0) (h0 : St F [] F.H0) (hA : DVs.Ok F [] [.nilslc, .int .i64 v312]) {y : Int} (hy : laws_markFloat32S_i1_g v312 = some y) : ∃ H', FnOk Try.prog 22 (DVs.av F [.nilslc, .int .i64 v312]) F.H0 ((laws_markFloat32S_i1_enc v312 y).1.av F) H' ∧ St F (laws_markFloat32S_i1_enc v312 y).2 H' ∧ (laws_markFloat32S_i1_enc v312 y).1.Ok F (laws_markFloat32S_i1_enc v312 y).2 :=
  fn_fin tok laws_markFloat32S_i1_hO mixed Try.func22 Try.call22 (by kernel_rfl) (LoopsOk_eq (l := [(0, bodyOf Try.f22 0)]) (by kernel_rfl) ⟨laws_markFloat32S_i1_l0_ok v312, trivial⟩) (laws_markFloat32S_i1_den v312) hy hm h0 hA
noncomputable def laws_markFloat32S_i1_F : DFn := fun args L =>
  match args with
  | [.nilslc, .int .i64 v312] =>
    .call (laws_markFloat32S_i1_g v312) fun y => .leaf (.int .i64 y, L)
  | _ => .fail
theorem laws_markFloat32S_i1_Fok : COk Try.prog 22 laws_markFloat32S_i1_F true := by
  intro F L H args r L' hs ha hr
  unfold laws_markFloat32S_i1_F at hr
  split at hr
  · rename_i v312
    simp only [Tree.run] at hr
    obtain ⟨y, hy, hr⟩ := Option.bind_eq_some_iff.1 hr
    simp only [Tree.run, Option.some.injEq, Prod.mk.injEq] at hr
    obtain ⟨rfl, rfl⟩ := hr
    exact call_ok0 hs (fun k => (([] : List AV)[k]?).getD .top) [.nilslc, .int .i64 v312] [.nilslc, .int .i64 v312] (fun F' h0 hi hρ => ⟨by simp [DVs.av, DV.av, BR.av, hρ], laws_markFloat32S_i1_fn v312 F' (by rw [hi]; rfl) (st_nil hi) ⟨trivial, trivial, trivial⟩ hy⟩) rfl
  · cases hr
/-! laws.heldFloat32S -/
noncomputable def laws_heldFloat32S_l0_T (v317 : List Nat) (s : Int × Int) : Tree ((Int × Int) ⊕ ((Unit) ⊕ (Int))) :=
  (.br (decide (s.2 < ((v317.length : Nat) : Int))) (
   (.grd (inb s.2 v317.length) <|
   (.br (!feq .f32 (nth v317 (Int.toNat s.2)) (fofint .f32 s.1)) (
    .leaf (.inr (.inl ()))
   ) (
    .leaf (.inl (IntKind.i64.wrap (s.1 + (1 : Int)), IntKind.i64.wrap (s.2 + (1 : Int))))
   )))
  ) (
   .leaf (.inr (.inr s.1))
  ))

noncomputable def laws_heldFloat32S_l0_g (v317 : List Nat) (s0 : Int × Int) : Option ((Unit) ⊕ (Int)) := whileM (fun s => (laws_heldFloat32S_l0_T v317 s).run) s0
def laws_heldFloat32S_l0_E (v317 : List Nat) (v318 : Int) (s : Int × Int) : Sd := ([.bslc (BR.root 0) (.f32 v317), .int .i64 s.1, .top, .top, .top, .int .i64 s.2, .top, .top, .top, .top, .top, .top, .top, .top, .top, .top, .top, .top, .top, .top, .top, .top], [])
def laws_heldFloat32S_l0_X (v317 : List Nat) (v318 : Int) (x : (Unit) ⊕ (Int)) : Out := (match x with | .inl x => (.ret, [.top, .top, .top, .top, .int .i64 (-1 : Int), .top, .top, .top, .top, .top, .top, .top, .top, .top, .top, .top, .top, .top, .top, .top, .top, .top], []) | .inr x => (.normal, [.top, .int .i64 x, .top, .top, .top, .top, .top, .top, .top, .top, .top, .top, .top, .top, .top, .top, .top, .top, .top, .top, .top, .top], []))
def laws_heldFloat32S_l0_kill : List Nat := [0, 0, 1, 1, 1, 0, 1, 1, 1, 1, 1, 1, 1, 1, 1, 1, 1, 1, 1, 1, 1, 1]
def laws_heldFloat32S_l0_nx : Exit → List Nat
  | .exit 0 => [1, 0, 1, 1, 1, 1, 1, 1, 1, 1, 1, 1, 1, 1, 1, 1, 1, 1, 1, 1, 1, 1]
  | .ret => [1, 1, 1, 1, 0, 1, 1, 1, 1, 1, 1, 1, 1, 1, 1, 1, 1, 1, 1, 1, 1, 1]
  | _ => []
noncomputable def laws_heldFloat32S_LO (v317 : List Nat) (v318 : Int) : LOr := fun id e L =>
  match id with
  | 0 => .need (normA 0 laws_heldFloat32S_l0_kill e L = some (laws_heldFloat32S_l0_E v317 v318 ((gI (vAt e 1)), (gI (vAt e 5))))) (.call (laws_heldFloat32S_l0_g v317 ((gI (vAt e 1)), (gI (vAt e 5)))) fun x => .sum x (fun b0 => .leaf (laws_heldFloat32S_l0_X v317 v318 (.inl b0))) (fun c0 => .leaf (laws_heldFloat32S_l0_X v317 v318 (.inr c0))))
  | _ => .fail
noncomputable def laws_heldFloat32S_tab : List (FuncId × DFn × Bool) := []
theorem laws_heldFloat32S_hO : OrcOk Try.prog (tabD laws_heldFloat32S_tab) (tabM laws_heldFloat32S_tab) := tabD_nil _
theorem laws_heldFloat32S_l0_be (v317 : List Nat) (v318 : Int) (s : Int × Int) : bodyT TT (tabD laws_heldFloat32S_tab) (tabM laws_heldFloat32S_tab) (laws_heldFloat32S_LO v317 v318) 0 laws_heldFloat32S_l0_kill laws_heldFloat32S_l0_nx (bodyOf Try.f24 0) 0 (laws_heldFloat32S_l0_E v317 v318 s) = (laws_heldFloat32S_l0_T v317 s).bind fun y => .leaf (outS (laws_heldFloat32S_l0_E v317 v318) (laws_heldFloat32S_l0_X v317 v318) y) := by kernel_rfl
theorem laws_heldFloat32S_l0_ok (v317 : List Nat) (v318 : Int) : LSound Try.prog 0 (laws_heldFloat32S_LO v317 v318) 0 (bodyOf Try.f24 0) := by
  intro e L out h
  exact lo_ok (E := laws_heldFloat32S_l0_E v317 v318) (gT := laws_heldFloat32S_l0_T v317) (X := laws_heldFloat32S_l0_X v317 v318) (s0 := ((gI (vAt e 1)), (gI (vAt e 5)))) tok laws_heldFloat32S_hO mixed (LoopsOk_eq (l := []) (by kernel_rfl) trivial) (laws_heldFloat32S_l0_be v317 v318) rfl (by intro x; (cases x with | inl b => rfl | inr x => exact rfl)) h
noncomputable def laws_heldFloat32S_T (v317 : List Nat) (v318 : Int) : Tree (Int) :=
  (.need (some (laws_heldFloat32S_l0_E v317 v318 (v318, (0 : Int))) = some (laws_heldFloat32S_l0_E v317 v318 (v318, (0 : Int)))) <|
  (.call (laws_heldFloat32S_l0_g v317 (v318, (0 : Int))) fun v325 =>
  (.sum v325 (fun v326 =>
   .leaf (-1 : Int)
  ) (fun v327 =>
   .leaf v327
  ))))

noncomputable def laws_heldFloat32S_g (v317 : List Nat) (v318 : Int) : Option (Int) := (laws_heldFloat32S_T v317 v318).run
def laws_heldFloat32S_enc (v317 : List Nat) (v318 : Int) (y : Int) : Rs := (.int .i64 y, [])
theorem laws_heldFloat32S_den (v317 : List Nat) (v318 : Int) : (den TT (tabD laws_heldFloat32S_tab) (tabM laws_heldFloat32S_tab) (laws_heldFloat32S_LO v317 v318) (codeOf Try.f24) ([.bslc (BR.root 0) (.f32 v317), .int .i64 v318] ++ List.replicate (Try.f24.ntmps - ([.bslc (BR.root 0) (.f32 v317), .int .i64 v318] : List DV).length) .undef) []).bind (retD TT Try.f24.results.toList 0) = (laws_heldFloat32S_T v317 v318).bind fun y => .leaf (laws_heldFloat32S_enc v317 v318 y) := by kernel_rfl
theorem laws_heldFloat32S_fn (v317 : List Nat) (v318 : Int) (F : Fr) (hm : F.ids.length = 0) (h0 : St F [] F.H0) (hA : DVs.Ok F [] [.bslc (BR.root 0) (.f32 v317), .int .i64 v318]) {y : Int} (hy : laws_heldFloat32S_g v317 v318 = some y) : ∃ H', FnOk Try.prog 24 (DVs.av F [.bslc (BR.root 0) (.f32 v317), .int .i64 v318]) F.H0 ((laws_heldFloat32S_enc v317 v318 y).1.av F) H' ∧ St F (laws_heldFloat32S_enc v317 v318 y).2 H' ∧ (laws_heldFloat32S_enc v317 v318 y).1.Ok F (laws_heldFloat32S_enc v317 v318 y).2 :=
  fn_fin tok laws_heldFloat32S_hO mixed Try.func24 Try.call24 (by kernel_rfl) (LoopsOk_eq (l := [(0, bodyOf Try.f24 0)]) (by kernel_rfl) ⟨laws_heldFloat32S_l0_ok v317 v318, trivial⟩) (laws_heldFloat32S_den v317 v318) hy hm h0 hA
noncomputable def laws_heldFloat32S_F : DFn := fun args L =>
  match args with
  | [a1, .int .i64 v318] =>
    optT (rowF32 L a1) fun v317 =>
    .call (laws_heldFloat32S_g v317 v318) fun y => .leaf (.int .i64 y, L)
  | _ => .fail
theorem laws_heldFloat32S_Fok : COk Try.prog 24 laws_heldFloat32S_F true := by
  intro F L H args r L' hs ha hr
  unfold laws_heldFloat32S_F at hr
  split at hr
  · rename_i a1 v318
    obtain ⟨v317, hv317, hr⟩ := optT_run hr
    simp only [Tree.run] at hr
    obtain ⟨y, hy, hr⟩ := Option.bind_eq_some_iff.1 hr
    simp only [Tree.run, Option.some.injEq, Prod.mk.injEq] at hr
    obtain ⟨rfl, rfl⟩ := hr
    exact call_ok0 hs (fun k => (([a1.av F] : List AV)[k]?).getD .top) [a1, .int .i64 v318] [.bslc (BR.root 0) (.f32 v317), .int .i64 v318] (fun F' h0 hi hρ => ⟨by simp [DVs.av, DV.av, BR.av, hρ], laws_heldFloat32S_fn v317 v318 F' (by rw [hi]; rfl) (st_nil hi) ⟨bslc_ok hi (by rw [h0, hρ]; exact rowF32_ok hs (DVs.okAt ha 0 rfl) hv317), trivial, trivial⟩ hy⟩) rfl
  · cases hr
/-! laws.FnExactThirdsRing -/
noncomputable def laws_FnExactThirdsRing_LO (v1 : List Nat) (v2 : List Nat) (v3 : List Nat) (v4 : Nat) (v5 : Nat) (v6 : List Nat) : LOr := fun id e L =>
  match id with
  | _ => .fail
noncomputable def laws_FnExactThirdsRing_tab : List (FuncId × DFn × Bool) := [(42, laws_szThirds_F, true), (44, laws_toThirds_F, true), (33, laws_toFloat32S_F, true), (43, spec_ThirdsRing_F, true), (45, impl_ThirdsRing_F, true), (20, laws_eqFloat32S_F, true), (46, laws_eqThirds_F, true), (47, laws_markThirds_F, false), (22, (orD (fun args => match args with | [.nilslc, _] => true | _ => false) laws_markFloat32S_i1_F laws_markFloat32S_F), false), (24, laws_heldFloat32S_F, true)]
theorem laws_FnExactThirdsRing_hO : OrcOk Try.prog (tabD laws_FnExactThirdsRing_tab) (tabM laws_FnExactThirdsRing_tab) := tabD_cons laws_szThirds_Fok (tabD_cons laws_toThirds_Fok (tabD_cons laws_toFloat32S_Fok (tabD_cons spec_ThirdsRing_Fok (tabD_cons impl_ThirdsRing_Fok (tabD_cons laws_eqFloat32S_Fok (tabD_cons laws_eqThirds_Fok (tabD_cons laws_markThirds_Fok (tabD_cons (orD_ok (COk.weak laws_markFloat32S_i1_Fok) laws_markFloat32S_Fok) (tabD_cons laws_heldFloat32S_Fok (tabD_nil _))))))))))
noncomputable def laws_FnExactThirdsRing_T (v1 : List Nat) (v2 : List Nat) (v3 : List Nat) (v4 : Nat) (v5 : Nat) (v6 : List Nat) : Tree (Bool) :=
  (.br (decide ((1048576 : Int) < ((v6.length : Nat) : Int))) (
   .leaf true
  ) (
   (.br (decide ((laws_szThirds_v v1 v2 v3 (1048576 : Int)) < (0 : Int))) (
    .leaf true
   ) (
    (.call (laws_toThirds_g v1 v2 v3) fun v26 =>
    (.call (laws_toFloat32S_g v6) fun v27 =>
    (.call (spec_ThirdsRing_g v26.1 v26.2.1 v26.2.2 v4 v5 v27) fun v124 =>
    (.sum v124 (fun v125 =>
     (.call (laws_toThirds_g v1 v2 v3) fun v127 =>
     (.call (laws_toFloat32S_g v6) fun v128 =>
     (.call (impl_ThirdsRing_g v127.1 v127.2.1 v127.2.2 v4 v5 v128) fun v245 =>
     (.sum v245 (fun v246 =>
      (.call (laws_eqFloat32S_g ([] : List Nat) ([] : List Nat)) fun v258 =>
      (.br (!v258) (
       .leaf false
      ) (
       (.br (!(false == false)) (
        .leaf false
       ) (
        (.call (laws_toThirds_g v1 v2 v3) fun v259 =>
        (.call (laws_eqThirds_g v127.1 v127.2.1 v127.2.2 v259.1 v259.2.1 v259.2.2) fun v269 =>
        (.br (!v269) (
         .leaf false
        ) (
         (.call (laws_toFloat32S_g v6) fun v270 =>
         (.call (laws_eqFloat32S_g v128 v270) fun v271 =>
         (.br (!v271) (
          .leaf false
         ) (
          (.call (laws_markThirds_g v127.1 v127.2.1 v127.2.2 (1 : Int)) fun v309 =>
          (.grd (decide (v309.2.1.length = v127.1.length)) <|
          (.grd (decide (v309.2.2.1.length = v127.2.1.length)) <|
          (.grd (decide (v309.2.2.2.length = v127.2.2.length)) <|
          (.call (laws_markFloat32S_g v128 v309.1) fun v310 =>
          (.grd (decide (v310.2.length = v128.length)) <|
          (.br (decide (v310.1 < (0 : Int))) (
           .leaf false
          ) (
           (.call (laws_eqFloat32S_g ([] : List Nat) ([] : List Nat)) fun v311 =>
           (.br (!v311) (
            .leaf false
           ) (
            (.br (!(false == false)) (
             .leaf false
            ) (
             (.call (laws_markFloat32S_i1_g (1 : Int)) fun v316 =>
             (.call (laws_heldFloat32S_g ([] : List Nat) (1 : Int)) fun v328 =>
             (.br (decide (v328 < (0 : Int))) (
              .leaf false
             ) (
              (.br (!decide (v328 = v316)) (
               .leaf false
              ) (
               (.call (laws_toThirds_g v1 v2 v3) fun v329 =>
               (.call (laws_toFloat32S_g v6) fun v330 =>
               (.call (impl_ThirdsRing_g v329.1 v329.2.1 v329.2.2 v4 v5 v330) fun v331 =>
               (.sum v331 (fun v332 =>
                (.call (laws_eqFloat32S_g ([] : List Nat) ([] : List Nat)) fun v334 =>
                (.br (!v334) (
                 .leaf false
                ) (
                 (.br (!(false == false)) (
                  .leaf false
                 ) (
                  (.call (laws_heldFloat32S_g ([] : List Nat) (1 : Int)) fun v335 =>
                  (.br (decide (v335 < (0 : Int))) (
                   .leaf false
                  ) (
                   (.br (!decide (v335 = v316)) (
                    .leaf false
                   ) (
                    .leaf true
                   ))
                  )))
                 ))
                )))
               ) (fun v333 =>
                (.call (laws_eqFloat32S_g v333 ([] : List Nat)) fun v336 =>
                (.br (!v336) (
                 .leaf false
                ) (
                 (.br (!(true == false)) (
                  .leaf false
                 ) (
                  (.call (laws_heldFloat32S_g ([] : List Nat) (1 : Int)) fun v337 =>
                  (.br (decide (v337 < (0 : Int))) (
                   .leaf false
                  ) (
                   (.br (!decide (v337 = v316)) (
                    .leaf false
                   ) (
                    .leaf true
                   ))
                  )))
                 ))
                )))
               )))))
              ))
             ))))
            ))
           )))
          ))))))))
         ))))
        ))))
       ))
      )))
     ) (fun v247 =>
      (.call (laws_eqFloat32S_g v247 ([] : List Nat)) fun v338 =>
      (.br (!v338) (
       .leaf false
      ) (
       (.br (!(true == false)) (
        .leaf false
       ) (
        (.call (laws_toThirds_g v1 v2 v3) fun v339 =>
        (.call (laws_eqThirds_g v127.1 v127.2.1 v127.2.2 v339.1 v339.2.1 v339.2.2) fun v340 =>
        (.br (!v340) (
         .leaf false
        ) (
         (.call (laws_toFloat32S_g v6) fun v341 =>
         (.call (laws_eqFloat32S_g v128 v341) fun v342 =>
         (.br (!v342) (
          .leaf false
         ) (
          (.call (laws_markThirds_g v127.1 v127.2.1 v127.2.2 (1 : Int)) fun v343 =>
          (.grd (decide (v343.2.1.length = v127.1.length)) <|
          (.grd (decide (v343.2.2.1.length = v127.2.1.length)) <|
          (.grd (decide (v343.2.2.2.length = v127.2.2.length)) <|
          (.call (laws_markFloat32S_g v128 v343.1) fun v344 =>
          (.grd (decide (v344.2.length = v128.length)) <|
          (.br (decide (v344.1 < (0 : Int))) (
           .leaf false
          ) (
           (.call (laws_eqFloat32S_g v247 ([] : List Nat)) fun v345 =>
           (.br (!v345) (
            .leaf false
           ) (
            (.br (!(true == false)) (
             .leaf false
            ) (
             (.call (laws_markFloat32S_g v247 (1 : Int)) fun v346 =>
             (.grd (decide (v346.2.length = v247.length)) <|
             (.call (laws_heldFloat32S_g v346.2 (1 : Int)) fun v347 =>
             (.br (decide (v347 < (0 : Int))) (
              .leaf false
             ) (
              (.br (!decide (v347 = v346.1)) (
               .leaf false
              ) (
               (.call (laws_toThirds_g v1 v2 v3) fun v348 =>
               (.call (laws_toFloat32S_g v6) fun v349 =>
               (.call (impl_ThirdsRing_g v348.1 v348.2.1 v348.2.2 v4 v5 v349) fun v350 =>
               (.sum v350 (fun v351 =>
                (.call (laws_eqFloat32S_g ([] : List Nat) ([] : List Nat)) fun v353 =>
                (.br (!v353) (
                 .leaf false
                ) (
                 (.br (!(false == false)) (
                  .leaf false
                 ) (
                  (.call (laws_heldFloat32S_g v346.2 (1 : Int)) fun v354 =>
                  (.br (decide (v354 < (0 : Int))) (
                   .leaf false
                  ) (
                   (.br (!decide (v354 = v346.1)) (
                    .leaf false
                   ) (
                    .leaf true
                   ))
                  )))
                 ))
                )))
               ) (fun v352 =>
                (.call (laws_eqFloat32S_g v352 ([] : List Nat)) fun v355 =>
                (.br (!v355) (
                 .leaf false
                ) (
                 (.br (!(true == false)) (
                  .leaf false
                 ) (
                  (.call (laws_heldFloat32S_g v346.2 (1 : Int)) fun v356 =>
                  (.br (decide (v356 < (0 : Int))) (
                   .leaf false
                  ) (
                   (.br (!decide (v356 = v346.1)) (
                    .leaf false
                   ) (
                    .leaf true
                   ))
                  )))
                 ))
                )))
               )))))
              ))
             )))))
            ))
           )))
          ))))))))
         ))))
        ))))
       ))
      )))
     )))))
    ) (fun v126 =>
     (.call (laws_toThirds_g v1 v2 v3) fun v357 =>
     (.call (laws_toFloat32S_g v6) fun v358 =>
     (.call (impl_ThirdsRing_g v357.1 v357.2.1 v357.2.2 v4 v5 v358) fun v359 =>
     (.sum v359 (fun v360 =>
      (.call (laws_eqFloat32S_g ([] : List Nat) v126) fun v362 =>
      (.br (!v362) (
       .leaf false
      ) (
       (.br (!(false == true)) (
        .leaf false
       ) (
        (.call (laws_toThirds_g v1 v2 v3) fun v363 =>
        (.call (laws_eqThirds_g v357.1 v357.2.1 v357.2.2 v363.1 v363.2.1 v363.2.2) fun v364 =>
        (.br (!v364) (
         .leaf false
        ) (
         (.call (laws_toFloat32S_g v6) fun v365 =>
         (.call (laws_eqFloat32S_g v358 v365) fun v366 =>
         (.br (!v366) (
          .leaf false
         ) (
          (.call (laws_markThirds_g v357.1 v357.2.1 v357.2.2 (1 : Int)) fun v367 =>
          (.grd (decide (v367.2.1.length = v357.1.length)) <|
          (.grd (decide (v367.2.2.1.length = v357.2.1.length)) <|
          (.grd (decide (v367.2.2.2.length = v357.2.2.length)) <|
          (.call (laws_markFloat32S_g v358 v367.1) fun v368 =>
          (.grd (decide (v368.2.length = v358.length)) <|
          (.br (decide (v368.1 < (0 : Int))) (
           .leaf false
          ) (
           (.call (laws_eqFloat32S_g ([] : List Nat) v126) fun v369 =>
           (.br (!v369) (
            .leaf false
           ) (
            (.br (!(false == true)) (
             .leaf false
            ) (
             (.call (laws_markFloat32S_i1_g (1 : Int)) fun v370 =>
             (.call (laws_heldFloat32S_g ([] : List Nat) (1 : Int)) fun v371 =>
             (.br (decide (v371 < (0 : Int))) (
              .leaf false
             ) (
              (.br (!decide (v371 = v370)) (
               .leaf false
              ) (
               (.call (laws_toThirds_g v1 v2 v3) fun v372 =>
               (.call (laws_toFloat32S_g v6) fun v373 =>
               (.call (impl_ThirdsRing_g v372.1 v372.2.1 v372.2.2 v4 v5 v373) fun v374 =>
               (.sum v374 (fun v375 =>
                (.call (laws_eqFloat32S_g ([] : List Nat) v126) fun v377 =>
                (.br (!v377) (
                 .leaf false
                ) (
                 (.br (!(false == true)) (
                  .leaf false
                 ) (
                  (.call (laws_heldFloat32S_g ([] : List Nat) (1 : Int)) fun v378 =>
                  (.br (decide (v378 < (0 : Int))) (
                   .leaf false
                  ) (
                   (.br (!decide (v378 = v370)) (
                    .leaf false
                   ) (
                    .leaf true
                   ))
                  )))
                 ))
                )))
               ) (fun v376 =>
                (.call (laws_eqFloat32S_g v376 v126) fun v379 =>
                (.br (!v379) (
                 .leaf false
                ) (
                 (.br (!(true == true)) (
                  .leaf false
                 ) (
                  (.call (laws_heldFloat32S_g ([] : List Nat) (1 : Int)) fun v380 =>
                  (.br (decide (v380 < (0 : Int))) (
                   .leaf false
                  ) (
                   (.br (!decide (v380 = v370)) (
                    .leaf false
                   ) (
                    .leaf true
                   ))
                  )))
                 ))
                )))
               )))))
              ))
             ))))
            ))
           )))
          ))))))))
         ))))
        ))))
       ))
      )))
     ) (fun v361 =>
      (.call (laws_eqFloat32S_g v361 v126) fun v381 =>
      (.br (!v381) (
       .leaf false
      ) (
       (.br (!(true == true)) (
        .leaf false
       ) (
        (.call (laws_toThirds_g v1 v2 v3) fun v382 =>
        (.call (laws_eqThirds_g v357.1 v357.2.1 v357.2.2 v382.1 v382.2.1 v382.2.2) fun v383 =>
        (.br (!v383) (
         .leaf false
        ) (
         (.call (laws_toFloat32S_g v6) fun v384 =>
         (.call (laws_eqFloat32S_g v358 v384) fun v385 =>
         (.br (!v385) (
          .leaf false
         ) (
          (.call (laws_markThirds_g v357.1 v357.2.1 v357.2.2 (1 : Int)) fun v386 =>
          (.grd (decide (v386.2.1.length = v357.1.length)) <|
          (.grd (decide (v386.2.2.1.length = v357.2.1.length)) <|
          (.grd (decide (v386.2.2.2.length = v357.2.2.length)) <|
          (.call (laws_markFloat32S_g v358 v386.1) fun v387 =>
          (.grd (decide (v387.2.length = v358.length)) <|
          (.br (decide (v387.1 < (0 : Int))) (
           .leaf false
          ) (
           (.call (laws_eqFloat32S_g v361 v126) fun v388 =>
           (.br (!v388) (
            .leaf false
           ) (
            (.br (!(true == true)) (
             .leaf false
            ) (
             (.call (laws_markFloat32S_g v361 (1 : Int)) fun v389 =>
             (.grd (decide (v389.2.length = v361.length)) <|
             (.call (laws_heldFloat32S_g v389.2 (1 : Int)) fun v390 =>
             (.br (decide (v390 < (0 : Int))) (
              .leaf false
             ) (
              (.br (!decide (v390 = v389.1)) (
               .leaf false
              ) (
               (.call (laws_toThirds_g v1 v2 v3) fun v391 =>
               (.call (laws_toFloat32S_g v6) fun v392 =>
               (.call (impl_ThirdsRing_g v391.1 v391.2.1 v391.2.2 v4 v5 v392) fun v393 =>
               (.sum v393 (fun v394 =>
                (.call (laws_eqFloat32S_g ([] : List Nat) v126) fun v396 =>
                (.br (!v396) (
                 .leaf false
                ) (
                 (.br (!(false == true)) (
                  .leaf false
                 ) (
                  (.call (laws_heldFloat32S_g v389.2 (1 : Int)) fun v397 =>
                  (.br (decide (v397 < (0 : Int))) (
                   .leaf false
                  ) (
                   (.br (!decide (v397 = v389.1)) (
                    .leaf false
                   ) (
                    .leaf true
                   ))
                  )))
                 ))
                )))
               ) (fun v395 =>
                (.call (laws_eqFloat32S_g v395 v126) fun v398 =>
                (.br (!v398) (
                 .leaf false
                ) (
                 (.br (!(true == true)) (
                  .leaf false
                 ) (
                  (.call (laws_heldFloat32S_g v389.2 (1 : Int)) fun v399 =>
                  (.br (decide (v399 < (0 : Int))) (
                   .leaf false
                  ) (
                   (.br (!decide (v399 = v389.1)) (
                    .leaf false
                   ) (
                    .leaf true
                   ))
                  )))
                 ))
                )))
               )))))
              ))
             )))))
            ))
           )))
          ))))))))
         ))))
        ))))
       ))
      )))
     )))))
    )))))
   ))
  ))

noncomputable def laws_FnExactThirdsRing_g (v1 : List Nat) (v2 : List Nat) (v3 : List Nat) (v4 : Nat) (v5 : Nat) (v6 : List Nat) : Option (Bool) := (laws_FnExactThirdsRing_T v1 v2 v3 v4 v5 v6).run
def laws_FnExactThirdsRing_enc (v1 : List Nat) (v2 : List Nat) (v3 : List Nat) (v4 : Nat) (v5 : Nat) (v6 : List Nat) (y : Bool) : Rs := (.bool y, [])
theorem laws_FnExactThirdsRing_den (v1 : List Nat) (v2 : List Nat) (v3 : List Nat) (v4 : Nat) (v5 : Nat) (v6 : List Nat) : (den TT (tabD laws_FnExactThirdsRing_tab) (tabM laws_FnExactThirdsRing_tab) (laws_FnExactThirdsRing_LO v1 v2 v3 v4 v5 v6) (codeOf Try.f10) ([.agg [.bslc (BR.root 0) (.f32 v1), .bslc (BR.root 1) (.f32 v2), .bslc (BR.root 2) (.f32 v3)], .flt .f32 v4, .flt .f32 v5, .bslc (BR.root 3) (.f32 v6)] ++ List.replicate (Try.f10.ntmps - ([.agg [.bslc (BR.root 0) (.f32 v1), .bslc (BR.root 1) (.f32 v2), .bslc (BR.root 2) (.f32 v3)], .flt .f32 v4, .flt .f32 v5, .bslc (BR.root 3) (.f32 v6)] : List DV).length) .undef) []).bind (retD TT Try.f10.results.toList 0) = (laws_FnExactThirdsRing_T v1 v2 v3 v4 v5 v6).bind fun y => .leaf (laws_FnExactThirdsRing_enc v1 v2 v3 v4 v5 v6 y) := by kernel_rfl
theorem laws_FnExactThirdsRing_fn (v1 : List Nat) (v2 : List Nat) (v3 : List Nat) (v4 : Nat) (v5 : Nat) (v6 : List Nat) (F : Fr) (hm : F.ids.length = 0) (h0 : St F [] F.H0) (hA : DVs.Ok F [] [.agg [.bslc (BR.root 0) (.f32 v1), .bslc (BR.root 1) (.f32 v2), .bslc (BR.root 2) (.f32 v3)], .flt .f32 v4, .flt .f32 v5, .bslc (BR.root 3) (.f32 v6)]) {y : Bool} (hy : laws_FnExactThirdsRing_g v1 v2 v3 v4 v5 v6 = some y) : ∃ H', FnOk Try.prog 10 (DVs.av F [.agg [.bslc (BR.root 0) (.f32 v1), .bslc (BR.root 1) (.f32 v2), .bslc (BR.root 2) (.f32 v3)], .flt .f32 v4, .flt .f32 v5, .bslc (BR.root 3) (.f32 v6)]) F.H0 ((laws_FnExactThirdsRing_enc v1 v2 v3 v4 v5 v6 y).1.av F) H' ∧ St F (laws_FnExactThirdsRing_enc v1 v2 v3 v4 v5 v6 y).2 H' ∧ (laws_FnExactThirdsRing_enc v1 v2 v3 v4 v5 v6 y).1.Ok F (laws_FnExactThirdsRing_enc v1 v2 v3 v4 v5 v6 y).2 :=
  fn_fin tok laws_FnExactThirdsRing_hO mixed Try.func10 Try.call10 (by kernel_rfl) (LoopsOk_eq (l := []) (by kernel_rfl) trivial) (laws_FnExactThirdsRing_den v1 v2 v3 v4 v5 v6) hy hm h0 hA
noncomputable def laws_FnExactThirdsRing_F : DFn := fun args L =>
  match args with
  | [.agg [a1, a2, a3], .flt .f32 v4, .flt .f32 v5, a4] =>
    optT (rowF32 L a1) fun v1 =>
    optT (rowF32 L a2) fun v2 =>
    optT (rowF32 L a3) fun v3 =>
    optT (rowF32 L a4) fun v6 =>
    .call (laws_FnExactThirdsRing_g v1 v2 v3 v4 v5 v6) fun y => .leaf (.bool y, L)
  | _ => .fail
theorem laws_FnExactThirdsRing_Fok : COk Try.prog 10 laws_FnExactThirdsRing_F true := by
  intro F L H args r L' hs ha hr
  unfold laws_FnExactThirdsRing_F at hr
  split at hr
  · rename_i a1 a2 a3 v4 v5 a4
    obtain ⟨v1, hv1, hr⟩ := optT_run hr
    obtain ⟨v2, hv2, hr⟩ := optT_run hr
    obtain ⟨v3, hv3, hr⟩ := optT_run hr
    obtain ⟨v6, hv6, hr⟩ := optT_run hr
    simp only [Tree.run] at hr
    obtain ⟨y, hy, hr⟩ := Option.bind_eq_some_iff.1 hr
    simp only [Tree.run, Option.some.injEq, Prod.mk.injEq] at hr
    obtain ⟨rfl, rfl⟩ := hr
    exact call_ok0 hs (fun k => (([a1.av F, a2.av F, a3.av F, a4.av F] : List AV)[k]?).getD .top) [.agg [a1, a2, a3], .flt .f32 v4, .flt .f32 v5, a4] [.agg [.bslc (BR.root 0) (.f32 v1), .bslc (BR.root 1) (.f32 v2), .bslc (BR.root 2) (.f32 v3)], .flt .f32 v4, .flt .f32 v5, .bslc (BR.root 3) (.f32 v6)] (fun F' h0 hi hρ => ⟨by simp [DVs.av, DV.av, BR.av, hρ], laws_FnExactThirdsRing_fn v1 v2 v3 v4 v5 v6 F' (by rw [hi]; rfl) (st_nil hi) ⟨⟨bslc_ok hi (by rw [h0, hρ]; exact rowF32_ok hs (DVs.okAt (DVs.okAt ha 0 rfl) 0 rfl) hv1), bslc_ok hi (by rw [h0, hρ]; exact rowF32_ok hs (DVs.okAt (DVs.okAt ha 0 rfl) 1 rfl) hv2), bslc_ok hi (by rw [h0, hρ]; exact rowF32_ok hs (DVs.okAt (DVs.okAt ha 0 rfl) 2 rfl) hv3), trivial⟩, trivial, trivial, bslc_ok hi (by rw [h0, hρ]; exact rowF32_ok hs (DVs.okAt ha 3 rfl) hv6), trivial⟩ hy⟩) rfl
  · cases hr
/-! laws.szFloat32S -/
noncomputable def laws_szFloat32S_len_LO (v410 : Nat) (v411 : Int) : LOr := fun id e L =>
  match id with
  | _ => .fail
noncomputable def laws_szFloat32S_len_tab : List (FuncId × DFn × Bool) := []
theorem laws_szFloat32S_len_hO : OrcOk Try.prog (tabD laws_szFloat32S_len_tab) (tabM laws_szFloat32S_len_tab) := tabD_nil _
noncomputable def laws_szFloat32S_len_T (v410 : Nat) (v411 : Int) : Tree (Int) :=
  (.br (decide (IntKind.i64.wrap (v411 - ((v410 : Nat) : Int)) < (0 : Int))) (
   .leaf (-1 : Int)
  ) (
   .leaf (IntKind.i64.wrap (v411 - ((v410 : Nat) : Int)))
  ))

noncomputable def laws_szFloat32S_len_g (v410 : Nat) (v411 : Int) : Option (Int) := (laws_szFloat32S_len_T v410 v411).run
def laws_szFloat32S_len_enc (v410 : Nat) (v411 : Int) (y : Int) : Rs := (.int .i64 y, [])
theorem laws_szFloat32S_len_den (v410 : Nat) (v411 : Int) : (den TT (tabD laws_szFloat32S_len_tab) (tabM laws_szFloat32S_len_tab) (laws_szFloat32S_len_LO v410 v411) (codeOf Try.f56) ([.hslc (BR.root 0) v410, .int .i64 v411] ++ List.replicate (Try.f56.ntmps - ([.hslc (BR.root 0) v410, .int .i64 v411] : List DV).length) .undef) []).bind (retD TT Try.f56.results.toList 0) = (laws_szFloat32S_len_T v410 v411).bind fun y => .leaf (laws_szFloat32S_len_enc v410 v411 y) := by kernel_rfl
theorem laws_szFloat32S_len_fn (v410 : Nat) (v411 : Int) (F : Fr) (hm : F.ids.length = 0) (h0 : St F [] F.H0) (hA : DVs.Ok F [] [.hslc (BR.root 0) v410, .int .i64 v411]) {y : Int} (hy : laws_szFloat32S_len_g v410 v411 = some y) : ∃ H', FnOk Try.prog 56 (DVs.av F [.hslc (BR.root 0) v410, .int .i64 v411]) F.H0 ((laws_szFloat32S_len_enc v410 v411 y).1.av F) H' ∧ St F (laws_szFloat32S_len_enc v410 v411 y).2 H' ∧ (laws_szFloat32S_len_enc v410 v411 y).1.Ok F (laws_szFloat32S_len_enc v410 v411 y).2 :=
  fn_fin tok laws_szFloat32S_len_hO mixed Try.func56 Try.call56 (by kernel_rfl) (LoopsOk_eq (l := []) (by kernel_rfl) trivial) (laws_szFloat32S_len_den v410 v411) hy hm h0 hA
def laws_szFloat32S_len_v (v410 : Nat) (v411 : Int) : Int :=
  if (decide (IntKind.i64.wrap (v411 - ((v410 : Nat) : Int)) < (0 : Int))) = true then (
   (-1 : Int)
  ) else (
   IntKind.i64.wrap (v411 - ((v410 : Nat) : Int))
  )
theorem laws_szFloat32S_len_tot (v410 : Nat) (v411 : Int) : laws_szFloat32S_len_g v410 v411 = some (laws_szFloat32S_len_v v410 v411) := by
  unfold laws_szFloat32S_len_g laws_szFloat32S_len_T laws_szFloat32S_len_v
  simp only [Tree.run]
  repeat' (first | rfl | split)
noncomputable def laws_szFloat32S_len_F : DFn := fun args L =>
  match args with
  | [a1, .int .i64 v411] =>
    optT (lenV L a1) fun v410 =>
    .leaf (.int .i64 (laws_szFloat32S_len_v v410 v411), L)
  | _ => .fail
theorem laws_szFloat32S_len_Fok : COk Try.prog 56 laws_szFloat32S_len_F true := by
  intro F L H args r L' hs ha hr
  unfold laws_szFloat32S_len_F at hr
  split at hr
  · rename_i a1 v411
    obtain ⟨v410, hv410, hr⟩ := optT_run hr
    have hy := laws_szFloat32S_len_tot v410 v411
    generalize laws_szFloat32S_len_v v410 v411 = y at hy hr
    simp only [Tree.run, Option.some.injEq, Prod.mk.injEq] at hr
    obtain ⟨rfl, rfl⟩ := hr
    exact call_ok0 hs (fun k => (([a1.av F] : List AV)[k]?).getD .top) [a1, .int .i64 v411] [.hslc (BR.root 0) v410, .int .i64 v411] (fun F' h0 hi hρ => ⟨by simp [DVs.av, DV.av, BR.av, hρ], laws_szFloat32S_len_fn v410 v411 F' (by rw [hi]; rfl) (st_nil hi) ⟨hslc_ok hi (by rw [h0, hρ]; exact lenV_ok hs (DVs.okAt ha 0 rfl) hv410), trivial, trivial⟩ hy⟩) rfl
  · cases hr
/-! laws.szThirds -/
noncomputable def laws_szThirds_len_LO (v406 : Nat) (v407 : Nat) (v408 : Nat) (v409 : Int) : LOr := fun id e L =>
  match id with
  | _ => .fail
noncomputable def laws_szThirds_len_tab : List (FuncId × DFn × Bool) := [(56, laws_szFloat32S_len_F, true)]
theorem laws_szThirds_len_hO : OrcOk Try.prog (tabD laws_szThirds_len_tab) (tabM laws_szThirds_len_tab) := tabD_cons laws_szFloat32S_len_Fok (tabD_nil _)
noncomputable def laws_szThirds_len_T (v406 : Nat) (v407 : Nat) (v408 : Nat) (v409 : Int) : Tree (Int) :=
  (.br (decide ((laws_szFloat32S_len_v v406 v409) < (0 : Int))) (
   .leaf (-1 : Int)
  ) (
   (.br (decide ((laws_szFloat32S_len_v v407 (laws_szFloat32S_len_v v406 v409)) < (0 : Int))) (
    .leaf (-1 : Int)
   ) (
    (.br (decide ((laws_szFloat32S_len_v v408 (laws_szFloat32S_len_v v407 (laws_szFloat32S_len_v v406 v409))) < (0 : Int))) (
     .leaf (-1 : Int)
    ) (
     .leaf (laws_szFloat32S_len_v v408 (laws_szFloat32S_len_v v407 (laws_szFloat32S_len_v v406 v409)))
    ))
   ))
  ))

noncomputable def laws_szThirds_len_g (v406 : Nat) (v407 : Nat) (v408 : Nat) (v409 : Int) : Option (Int) := (laws_szThirds_len_T v406 v407 v408 v409).run
def laws_szThirds_len_enc (v406 : Nat) (v407 : Nat) (v408 : Nat) (v409 : Int) (y : Int) : Rs := (.int .i64 y, [])
theorem laws_szThirds_len_den (v406 : Nat) (v407 : Nat) (v408 : Nat) (v409 : Int) : (den TT (tabD laws_szThirds_len_tab) (tabM laws_szThirds_len_tab) (laws_szThirds_len_LO v406 v407 v408 v409) (codeOf Try.f42) ([.agg [.hslc (BR.root 0) v406, .hslc (BR.root 1) v407, .hslc (BR.root 2) v408], .int .i64 v409] ++ List.replicate (Try.f42.ntmps - ([.agg [.hslc (BR.root 0) v406, .hslc (BR.root 1) v407, .hslc (BR.root 2) v408], .int .i64 v409] : List DV).length) .undef) []).bind (retD TT Try.f42.results.toList 0) = (laws_szThirds_len_T v406 v407 v408 v409).bind fun y => .leaf (laws_szThirds_len_enc v406 v407 v408 v409 y) := by kernel_rfl
theorem laws_szThirds_len_fn (v406 : Nat) (v407 : Nat) (v408 : Nat) (v409 : Int) (F : Fr) (hm : F.ids.length = 0) (h0 : St F [] F.H0) (hA : DVs.Ok F [] [.agg [.hslc (BR.root 0) v406, .hslc (BR.root 1) v407, .hslc (BR.root 2) v408], .int .i64 v409]) {y : Int} (hy : laws_szThirds_len_g v406 v407 v408 v409 = some y) : ∃ H', FnOk Try.prog 42 (DVs.av F [.agg [.hslc (BR.root 0) v406, .hslc (BR.root 1) v407, .hslc (BR.root 2) v408], .int .i64 v409]) F.H0 ((laws_szThirds_len_enc v406 v407 v408 v409 y).1.av F) H' ∧ St F (laws_szThirds_len_enc v406 v407 v408 v409 y).2 H' ∧ (laws_szThirds_len_enc v406 v407 v408 v409 y).1.Ok F (laws_szThirds_len_enc v406 v407 v408 v409 y).2 :=
  fn_fin tok laws_szThirds_len_hO mixed Try.func42 Try.call42 (by kernel_rfl) (LoopsOk_eq (l := []) (by kernel_rfl) trivial) (laws_szThirds_len_den v406 v407 v408 v409) hy hm h0 hA
def laws_szThirds_len_v (v406 : Nat) (v407 : Nat) (v408 : Nat) (v409 : Int) : Int :=
  if (decide ((laws_szFloat32S_len_v v406 v409) < (0 : Int))) = true then (
   (-1 : Int)
  ) else (
   if (decide ((laws_szFloat32S_len_v v407 (laws_szFloat32S_len_v v406 v409)) < (0 : Int))) = true then (
    (-1 : Int)
   ) else (
    if (decide ((laws_szFloat32S_len_v v408 (laws_szFloat32S_len_v v407 (laws_szFloat32S_len_v v406 v409))) < (0 : Int))) = true then (
     (-1 : Int)
    ) else (
     (laws_szFloat32S_len_v v408 (laws_szFloat32S_len_v v407 (laws_szFloat32S_len_v v406 v409)))
    )
   )
  )
theorem laws_szThirds_len_tot (v406 : Nat) (v407 : Nat) (v408 : Nat) (v409 : Int) : laws_szThirds_len_g v406 v407 v408 v409 = some (laws_szThirds_len_v v406 v407 v408 v409) := by
  unfold laws_szThirds_len_g laws_szThirds_len_T laws_szThirds_len_v
  simp only [Tree.run]
  repeat' (first | rfl | split)
noncomputable def laws_szThirds_len_F : DFn := fun args L =>
  match args with
  | [.agg [a1, a2, a3], .int .i64 v409] =>
    optT (lenV L a1) fun v406 =>
    optT (lenV L a2) fun v407 =>
    optT (lenV L a3) fun v408 =>
    .leaf (.int .i64 (laws_szThirds_len_v v406 v407 v408 v409), L)
  | _ => .fail
theorem laws_szThirds_len_Fok : COk Try.prog 42 laws_szThirds_len_F true := by
  intro F L H args r L' hs ha hr
  unfold laws_szThirds_len_F at hr
  split at hr
  · rename_i a1 a2 a3 v409
    obtain ⟨v406, hv406, hr⟩ := optT_run hr
    obtain ⟨v407, hv407, hr⟩ := optT_run hr
    obtain ⟨v408, hv408, hr⟩ := optT_run hr
    have hy := laws_szThirds_len_tot v406 v407 v408 v409
    generalize laws_szThirds_len_v v406 v407 v408 v409 = y at hy hr
    simp only [Tree.run, Option.some.injEq, Prod.mk.injEq] at hr
    obtain ⟨rfl, rfl⟩ := hr
    exact call_ok0 hs (fun k => (([a1.av F, a2.av F, a3.av F] : List AV)[k]?).getD .top) [.agg [a1, a2, a3], .int .i64 v409] [.agg [.hslc (BR.root 0) v406, .hslc (BR.root 1) v407, .hslc (BR.root 2) v408], .int .i64 v409] (fun F' h0 hi hρ => ⟨by simp [DVs.av, DV.av, BR.av, hρ], laws_szThirds_len_fn v406 v407 v408 v409 F' (by rw [hi]; rfl) (st_nil hi) ⟨⟨hslc_ok hi (by rw [h0, hρ]; exact lenV_ok hs (DVs.okAt (DVs.okAt ha 0 rfl) 0 rfl) hv406), hslc_ok hi (by rw [h0, hρ]; exact lenV_ok hs (DVs.okAt (DVs.okAt ha 0 rfl) 1 rfl) hv407), hslc_ok hi (by rw [h0, hρ]; exact lenV_ok hs (DVs.okAt (DVs.okAt ha 0 rfl) 2 rfl) hv408), trivial⟩, trivial, trivial⟩ hy⟩) rfl
  · cases hr
/-! laws.FnExactThirdsRing -/
noncomputable def laws_FnExactThirdsRing_len_LO (v400 : Nat) (v401 : Nat) (v402 : Nat) (v403 : Nat) (v404 : Nat) (v405 : Nat) : LOr := fun id e L =>
  match id with
  | _ => .fail
noncomputable def laws_FnExactThirdsRing_len_tab : List (FuncId × DFn × Bool) := [(42, laws_szThirds_len_F, true)]
theorem laws_FnExactThirdsRing_len_hO : OrcOk Try.prog (tabD laws_FnExactThirdsRing_len_tab) (tabM laws_FnExactThirdsRing_len_tab) := tabD_cons laws_szThirds_len_Fok (tabD_nil _)
noncomputable def laws_FnExactThirdsRing_len_T (v400 : Nat) (v401 : Nat) (v402 : Nat) (v405 : Nat) : Tree (Bool) :=
  (.br (decide ((1048576 : Int) < ((v405 : Nat) : Int))) (
   .leaf true
  ) (
   (.br (decide ((laws_szThirds_len_v v400 v401 v402 (1048576 : Int)) < (0 : Int))) (
    .leaf true
   ) (
    .fail
   ))
  ))

noncomputable def laws_FnExactThirdsRing_len_g (v400 : Nat) (v401 : Nat) (v402 : Nat) (v405 : Nat) : Option (Bool) := (laws_FnExactThirdsRing_len_T v400 v401 v402 v405).run
def laws_FnExactThirdsRing_len_enc (v400 : Nat) (v401 : Nat) (v402 : Nat) (v403 : Nat) (v404 : Nat) (v405 : Nat) (y : Bool) : Rs := (.bool y, [])
theorem laws_FnExactThirdsRing_len_den (v400 : Nat) (v401 : Nat) (v402 : Nat) (v403 : Nat) (v404 : Nat) (v405 : Nat) : (den TT (tabD laws_FnExactThirdsRing_len_tab) (tabM laws_FnExactThirdsRing_len_tab) (laws_FnExactThirdsRing_len_LO v400 v401 v402 v403 v404 v405) (codeOf Try.f10) ([.agg [.hslc (BR.root 0) v400, .hslc (BR.root 1) v401, .hslc (BR.root 2) v402], .flt .f32 v403, .flt .f32 v404, .hslc (BR.root 3) v405] ++ List.replicate (Try.f10.ntmps - ([.agg [.hslc (BR.root 0) v400, .hslc (BR.root 1) v401, .hslc (BR.root 2) v402], .flt .f32 v403, .flt .f32 v404, .hslc (BR.root 3) v405] : List DV).length) .undef) []).bind (retD TT Try.f10.results.toList 0) = (laws_FnExactThirdsRing_len_T v400 v401 v402 v405).bind fun y => .leaf (laws_FnExactThirdsRing_len_enc v400 v401 v402 v403 v404 v405 y) := by kernel_rfl
theorem laws_FnExactThirdsRing_len_fn (v400 : Nat) (v401 : Nat) (v402 : Nat) (v403 : Nat) (v404 : Nat) (v405 : Nat) (F : Fr) (hm : F.ids.length = 0) (h0 : St F [] F.H0) (hA : DVs.Ok F [] [.agg [.hslc (BR.root 0) v400, .hslc (BR.root 1) v401, .hslc (BR.root 2) v402], .flt .f32 v403, .flt .f32 v404, .hslc (BR.root 3) v405]) {y : Bool} (hy : laws_FnExactThirdsRing_len_g v400 v401 v402 v405 = some y) : ∃ H', FnOk Try.prog 10 (DVs.av F [.agg [.hslc (BR.root 0) v400, .hslc (BR.root 1) v401, .hslc (BR.root 2) v402], .flt .f32 v403, .flt .f32 v404, .hslc (BR.root 3) v405]) F.H0 ((laws_FnExactThirdsRing_len_enc v400 v401 v402 v403 v404 v405 y).1.av F) H' ∧ St F (laws_FnExactThirdsRing_len_enc v400 v401 v402 v403 v404 v405 y).2 H' ∧ (laws_FnExactThirdsRing_len_enc v400 v401 v402 v403 v404 v405 y).1.Ok F (laws_FnExactThirdsRing_len_enc v400 v401 v402 v403 v404 v405 y).2 :=
  fn_fin tok laws_FnExactThirdsRing_len_hO mixed Try.func10 Try.call10 (by kernel_rfl) (LoopsOk_eq (l := []) (by kernel_rfl) trivial) (laws_FnExactThirdsRing_len_den v400 v401 v402 v403 v404 v405) hy hm h0 hA
noncomputable def laws_FnExactThirdsRing_len_F : DFn := fun args L =>
  match args with
  | [.agg [a1, a2, a3], .flt .f32 v403, .flt .f32 v404, a4] =>
    optT (lenV L a1) fun v400 =>
    optT (lenV L a2) fun v401 =>
    optT (lenV L a3) fun v402 =>
    optT (lenV L a4) fun v405 =>
    .call (laws_FnExactThirdsRing_len_g v400 v401 v402 v405) fun y => .leaf (.bool y, L)
  | _ => .fail
theorem laws_FnExactThirdsRing_len_Fok : COk Try.prog 10 laws_FnExactThirdsRing_len_F true := by
  intro F L H args r L' hs ha hr
  unfold laws_FnExactThirdsRing_len_F at hr
  split at hr
  · rename_i a1 a2 a3 v403 v404 a4
    obtain ⟨v400, hv400, hr⟩ := optT_run hr
    obtain ⟨v401, hv401, hr⟩ := optT_run hr
    obtain ⟨v402, hv402, hr⟩ := optT_run hr
    obtain ⟨v405, hv405, hr⟩ := optT_run hr
    simp only [Tree.run] at hr
    obtain ⟨y, hy, hr⟩ := Option.bind_eq_some_iff.1 hr
    simp only [Tree.run, Option.some.injEq, Prod.mk.injEq] at hr
    obtain ⟨rfl, rfl⟩ := hr
    exact call_ok0 hs (fun k => (([a1.av F, a2.av F, a3.av F, a4.av F] : List AV)[k]?).getD .top) [.agg [a1, a2, a3], .flt .f32 v403, .flt .f32 v404, a4] [.agg [.hslc (BR.root 0) v400, .hslc (BR.root 1) v401, .hslc (BR.root 2) v402], .flt .f32 v403, .flt .f32 v404, .hslc (BR.root 3) v405] (fun F' h0 hi hρ => ⟨by simp [DVs.av, DV.av, BR.av, hρ], laws_FnExactThirdsRing_len_fn v400 v401 v402 v403 v404 v405 F' (by rw [hi]; rfl) (st_nil hi) ⟨⟨hslc_ok hi (by rw [h0, hρ]; exact lenV_ok hs (DVs.okAt (DVs.okAt ha 0 rfl) 0 rfl) hv400), hslc_ok hi (by rw [h0, hρ]; exact lenV_ok hs (DVs.okAt (DVs.okAt ha 0 rfl) 1 rfl) hv401), hslc_ok hi (by rw [h0, hρ]; exact lenV_ok hs (DVs.okAt (DVs.okAt ha 0 rfl) 2 rfl) hv402), trivial⟩, trivial, trivial, hslc_ok hi (by rw [h0, hρ]; exact lenV_ok hs (DVs.okAt ha 3 rfl) hv405), trivial⟩ hy⟩) rfl
  · cases hr
end Go.Proofs.Ytooakheodgndaaa.AM
