/- Functions: what they come to. -/
import Derived.Test.YtjadfgeemfdbmaaBase
set_option maxRecDepth 100000
set_option maxHeartbeats 4000000
set_option linter.unusedSimpArgs false
set_option linter.unusedVariables false
namespace Go.Proofs.Ytjadfgeemfdbmaa.AM
open Go.Proofs
/-! laws.szFloat32S -/
noncomputable def laws_szFloat32S_LO (v9 : List Nat) (v10 : Int) : LOr := fun id e L =>
  match id with
  | _ => .fail
noncomputable def laws_szFloat32S_tab : List (FuncId × DFn × Bool) := []
theorem laws_szFloat32S_hO : OrcOk Try.prog (tabD laws_szFloat32S_tab) (tabM laws_szFloat32S_tab) := tabD_nil _
noncomputable def laws_szFloat32S_T (v9 : List Nat) (v10 : Int) : Tree (Int) :=
  (.br (decide (IntKind.i64.wrap (v10 - ((v9.length : Nat) : Int)) < (0 : Int))) (
   .leaf (-1 : Int)
  ) (
   .leaf (IntKind.i64.wrap (v10 - ((v9.length : Nat) : Int)))
  ))

noncomputable def laws_szFloat32S_g (v9 : List Nat) (v10 : Int) : Option (Int) := (laws_szFloat32S_T v9 v10).run
def laws_szFloat32S_enc (v9 : List Nat) (v10 : Int) (y : Int) : Rs := (.int .i64 y, [])
theorem laws_szFloat32S_den (v9 : List Nat) (v10 : Int) : (den TT (tabD laws_szFloat32S_tab) (tabM laws_szFloat32S_tab) (laws_szFloat32S_LO v9 v10) (codeOf Try.f64) ([.bslc (BR.root 0) (.f32 v9), .int .i64 v10] ++ List.replicate (Try.f64.ntmps - ([.bslc (BR.root 0) (.f32 v9), .int .i64 v10] : List DV).length) .undef) []).bind (retD TT Try.f64.results.toList 0) = (laws_szFloat32S_T v9 v10).bind fun y => .leaf (laws_szFloat32S_enc v9 v10 y) := by kernel_rfl
theorem laws_szFloat32S_fn (v9 : List Nat) (v10 : Int) (F : Fr) (hm : F.ids.length = 0) (h0 : St F [] F.H0) (hA : DVs.Ok F [] [.bslc (BR.root 0) (.f32 v9), .int .i64 v10]) {y : Int} (hy : laws_szFloat32S_g v9 v10 = some y) : ∃ H', FnOk Try.prog 64 (DVs.av F [.bslc (BR.root 0) (.f32 v9), .int .i64 v10]) F.H0 ((laws_szFloat32S_enc v9 v10 y).1.av F) H' ∧ St F (laws_szFloat32S_enc v9 v10 y).2 H' ∧ (laws_szFloat32S_enc v9 v10 y).1.Ok F (laws_szFloat32S_enc v9 v10 y).2 :=
  fn_fin tok laws_szFloat32S_hO mixed Try.func64 Try.call64 (by kernel_rfl) (LoopsOk_eq (l := []) (by kernel_rfl) trivial) (laws_szFloat32S_den v9 v10) hy hm h0 hA
def laws_szFloat32S_v (v9 : List Nat) (v10 : Int) : Int :=
  if (decide (IntKind.i64.wrap (v10 - ((v9.length : Nat) : Int)) < (0 : Int))) = true then (
   (-1 : Int)
  ) else (
   IntKind.i64.wrap (v10 - ((v9.length : Nat) : Int))
  )
theorem laws_szFloat32S_tot (v9 : List Nat) (v10 : Int) : laws_szFloat32S_g v9 v10 = some (laws_szFloat32S_v v9 v10) := by
  unfold laws_szFloat32S_g laws_szFloat32S_T laws_szFloat32S_v
  simp only [Tree.run]
  repeat' (first | rfl | split)
noncomputable def laws_szFloat32S_F : DFn := fun args L =>
  match args with
  | [a1, .int .i64 v10] =>
    optT (rowF32 L a1) fun v9 =>
    .leaf (.int .i64 (laws_szFloat32S_v v9 v10), L)
  | _ => .fail
theorem laws_szFloat32S_Fok : COk Try.prog 64 laws_szFloat32S_F true := by
  intro F L H args r L' hs ha hr
  unfold laws_szFloat32S_F at hr
  split at hr
  · rename_i a1 v10
    obtain ⟨v9, hv9, hr⟩ := optT_run hr
    have hy := laws_szFloat32S_tot v9 v10
    generalize laws_szFloat32S_v v9 v10 = y at hy hr
    simp only [Tree.run, Option.some.injEq, Prod.mk.injEq] at hr
    obtain ⟨rfl, rfl⟩ := hr
    exact call_ok0 hs (fun k => (([a1.av F] : List AV)[k]?).getD .top) [a1, .int .i64 v10] [.bslc (BR.root 0) (.f32 v9), .int .i64 v10] (fun F' h0 hi hρ => ⟨by simp [DVs.av, DV.av, BR.av, hρ], laws_szFloat32S_fn v9 v10 F' (by rw [hi]; rfl) (st_nil hi) ⟨bslc_ok hi (by rw [h0, hρ]; exact rowF32_ok hs (DVs.okAt ha 0 rfl) hv9), trivial, trivial⟩ hy⟩) rfl
  · cases hr
/-! laws.szMatrix -/
noncomputable def laws_szMatrix_LO (v5 : Int) (v6 : Int) (v7 : List Nat) (v8 : Int) : LOr := fun id e L =>
  match id with
  | _ => .fail
noncomputable def laws_szMatrix_tab : List (FuncId × DFn × Bool) := [(64, laws_szFloat32S_F, true)]
theorem laws_szMatrix_hO : OrcOk Try.prog (tabD laws_szMatrix_tab) (tabM laws_szMatrix_tab) := tabD_cons laws_szFloat32S_Fok (tabD_nil _)
noncomputable def laws_szMatrix_T (v7 : List Nat) (v8 : Int) : Tree (Int) :=
  (.br (decide ((laws_szFloat32S_v v7 v8) < (0 : Int))) (
   .leaf (-1 : Int)
  ) (
   .leaf (laws_szFloat32S_v v7 v8)
  ))

noncomputable def laws_szMatrix_g (v7 : List Nat) (v8 : Int) : Option (Int) := (laws_szMatrix_T v7 v8).run
def laws_szMatrix_enc (v5 : Int) (v6 : Int) (v7 : List Nat) (v8 : Int) (y : Int) : Rs := (.int .i64 y, [])
theorem laws_szMatrix_den (v5 : Int) (v6 : Int) (v7 : List Nat) (v8 : Int) : (den TT (tabD laws_szMatrix_tab) (tabM laws_szMatrix_tab) (laws_szMatrix_LO v5 v6 v7 v8) (codeOf Try.f29) ([.agg [.int .i64 v5, .int .i64 v6, .bslc (BR.root 0) (.f32 v7)], .int .i64 v8] ++ List.replicate (Try.f29.ntmps - ([.agg [.int .i64 v5, .int .i64 v6, .bslc (BR.root 0) (.f32 v7)], .int .i64 v8] : List DV).length) .undef) []).bind (retD TT Try.f29.results.toList 0) = (laws_szMatrix_T v7 v8).bind fun y => .leaf (laws_szMatrix_enc v5 v6 v7 v8 y) := by kernel_rfl
theorem laws_szMatrix_fn (v5 : Int) (v6 : Int) (v7 : List Nat) (v8 : Int) (F : Fr) (hm : F.ids.length = 0) (h0 : St F [] F.H0) (hA : DVs.Ok F [] [.agg [.int .i64 v5, .int .i64 v6, .bslc (BR.root 0) (.f32 v7)], .int .i64 v8]) {y : Int} (hy : laws_szMatrix_g v7 v8 = some y) : ∃ H', FnOk Try.prog 29 (DVs.av F [.agg [.int .i64 v5, .int .i64 v6, .bslc (BR.root 0) (.f32 v7)], .int .i64 v8]) F.H0 ((laws_szMatrix_enc v5 v6 v7 v8 y).1.av F) H' ∧ St F (laws_szMatrix_enc v5 v6 v7 v8 y).2 H' ∧ (laws_szMatrix_enc v5 v6 v7 v8 y).1.Ok F (laws_szMatrix_enc v5 v6 v7 v8 y).2 :=
  fn_fin tok laws_szMatrix_hO mixed Try.func29 Try.call29 (by kernel_rfl) (LoopsOk_eq (l := []) (by kernel_rfl) trivial) (laws_szMatrix_den v5 v6 v7 v8) hy hm h0 hA
def laws_szMatrix_v (v7 : List Nat) (v8 : Int) : Int :=
  if (decide ((laws_szFloat32S_v v7 v8) < (0 : Int))) = true then (
   (-1 : Int)
  ) else (
   (laws_szFloat32S_v v7 v8)
  )
theorem laws_szMatrix_tot (v7 : List Nat) (v8 : Int) : laws_szMatrix_g v7 v8 = some (laws_szMatrix_v v7 v8) := by
  unfold laws_szMatrix_g laws_szMatrix_T laws_szMatrix_v
  simp only [Tree.run]
  repeat' (first | rfl | split)
noncomputable def laws_szMatrix_F : DFn := fun args L =>
  match args with
  | [.agg [.int .i64 v5, .int .i64 v6, a1], .int .i64 v8] =>
    optT (rowF32 L a1) fun v7 =>
    .leaf (.int .i64 (laws_szMatrix_v v7 v8), L)
  | _ => .fail
theorem laws_szMatrix_Fok : COk Try.prog 29 laws_szMatrix_F true := by
  intro F L H args r L' hs ha hr
  unfold laws_szMatrix_F at hr
  split at hr
  · rename_i v5 v6 a1 v8
    obtain ⟨v7, hv7, hr⟩ := optT_run hr
    have hy := laws_szMatrix_tot v7 v8
    generalize laws_szMatrix_v v7 v8 = y at hy hr
    simp only [Tree.run, Option.some.injEq, Prod.mk.injEq] at hr
    obtain ⟨rfl, rfl⟩ := hr
    exact call_ok0 hs (fun k => (([a1.av F] : List AV)[k]?).getD .top) [.agg [.int .i64 v5, .int .i64 v6, a1], .int .i64 v8] [.agg [.int .i64 v5, .int .i64 v6, .bslc (BR.root 0) (.f32 v7)], .int .i64 v8] (fun F' h0 hi hρ => ⟨by simp [DVs.av, DV.av, BR.av, hρ], laws_szMatrix_fn v5 v6 v7 v8 F' (by rw [hi]; rfl) (st_nil hi) ⟨⟨trivial, trivial, bslc_ok hi (by rw [h0, hρ]; exact rowF32_ok hs (DVs.okAt (DVs.okAt ha 0 rfl) 2 rfl) hv7), trivial⟩, trivial, trivial⟩ hy⟩) rfl
  · cases hr
/-! laws.toFloat32S -/
noncomputable def laws_toFloat32S_l0_T (v14 : List Nat) (s : Int × (List Nat)) : Tree ((Int × (List Nat)) ⊕ ((List Nat))) :=
  (.br (decide (s.1 < ((v14.length : Nat) : Int))) (
   (.grd (inb s.1 v14.length) <|
   (.grd (inb s.1 ((s.2).length)) <|
   .leaf (.inl (IntKind.i64.wrap (s.1 + (1 : Int)), List.set s.2 (Int.toNat s.1) (nth v14 (Int.toNat s.1))))))
  ) (
   .leaf (.inr s.2)
  ))

noncomputable def laws_toFloat32S_l0_g (v14 : List Nat) (s0 : Int × (List Nat)) : Option ((List Nat)) := whileM (fun s => (laws_toFloat32S_l0_T v14 s).run) s0
def laws_toFloat32S_l0_E (v14 : List Nat) (s : Int × (List Nat)) : Sd := ([.bslc (BR.root 0) (.f32 v14), .top, .top, .own 0 0 ((s.2).length), .int .i64 s.1, .top, .top, .top, .top, .top, .top, .top, .top, .top, .top, .top, .top, .top, .top, .top, .top, .top], [.row (.f32 s.2) 0])
def laws_toFloat32S_l0_X (v14 : List Nat) (x : (List Nat)) : Out := (.normal, [.top, .top, .top, .own 0 0 ((x).length), .top, .top, .top, .top, .top, .top, .top, .top, .top, .top, .top, .top, .top, .top, .top, .top, .top, .top], [.row (.f32 x) 0])
def laws_toFloat32S_l0_kill : List Nat := [0, 1, 1, 0, 0, 1, 1, 1, 1, 1, 1, 1, 1, 1, 1, 1, 1, 1, 1, 1, 1, 1]
def laws_toFloat32S_l0_nx : Exit → List Nat
  | .exit 0 => [1, 1, 1, 0, 1, 1, 1, 1, 1, 1, 1, 1, 1, 1, 1, 1, 1, 1, 1, 1, 1, 1]
  | .ret => [1, 1, 0, 1, 1, 1, 1, 1, 1, 1, 1, 1, 1, 1, 1, 1, 1, 1, 1, 1, 1, 1]
  | _ => []
noncomputable def laws_toFloat32S_LO (v14 : List Nat) : LOr := fun id e L =>
  match id with
  | 0 => .need (normA 0 laws_toFloat32S_l0_kill e L = some (laws_toFloat32S_l0_E v14 ((gI (vAt e 4)), (gRF L (vAt e 3))))) (.call (laws_toFloat32S_l0_g v14 ((gI (vAt e 4)), (gRF L (vAt e 3)))) fun x => .leaf (laws_toFloat32S_l0_X v14 x))
  | _ => .fail
noncomputable def laws_toFloat32S_tab : List (FuncId × DFn × Bool) := []
theorem laws_toFloat32S_hO : OrcOk Try.prog (tabD laws_toFloat32S_tab) (tabM laws_toFloat32S_tab) := tabD_nil _
theorem laws_toFloat32S_l0_be (v14 : List Nat) (s : Int × (List Nat)) : bodyT TT (tabD laws_toFloat32S_tab) (tabM laws_toFloat32S_tab) (laws_toFloat32S_LO v14) 0 laws_toFloat32S_l0_kill laws_toFloat32S_l0_nx (bodyOf Try.f18 0) 0 (laws_toFloat32S_l0_E v14 s) = (laws_toFloat32S_l0_T v14 s).bind fun y => .leaf (outS (laws_toFloat32S_l0_E v14) (laws_toFloat32S_l0_X v14) y) := by kernel_rfl
theorem laws_toFloat32S_l0_ok (v14 : List Nat) : LSound Try.prog 0 (laws_toFloat32S_LO v14) 0 (bodyOf Try.f18 0) := by
  intro e L out h
  exact lo_ok (E := laws_toFloat32S_l0_E v14) (gT := laws_toFloat32S_l0_T v14) (X := laws_toFloat32S_l0_X v14) (s0 := ((gI (vAt e 4)), (gRF L (vAt e 3)))) tok laws_toFloat32S_hO mixed (LoopsOk_eq (l := []) (by kernel_rfl) trivial) (laws_toFloat32S_l0_be v14) rfl (by intro x; rfl) h
noncomputable def laws_toFloat32S_T (v14 : List Nat) : Tree ((List Nat)) :=
  (.need (((v14.length : Nat) : Int) = ((v14.length : Nat) : Int)) <|
  (.grd (inb ((v14.length : Nat) : Int) (maxN + 1)) <|
  (.need (some (laws_toFloat32S_l0_E v14 ((0 : Int), List.replicate (Int.toNat ((v14.length : Nat) : Int)) (0 : Nat))) = some (laws_toFloat32S_l0_E v14 ((0 : Int), List.replicate (Int.toNat ((v14.length : Nat) : Int)) (0 : Nat)))) <|
  (.call (laws_toFloat32S_l0_g v14 ((0 : Int), List.replicate (Int.toNat ((v14.length : Nat) : Int)) (0 : Nat))) fun v20 =>
  .leaf v20))))

noncomputable def laws_toFloat32S_g (v14 : List Nat) : Option ((List Nat)) := (laws_toFloat32S_T v14).run
def laws_toFloat32S_enc (v14 : List Nat) (y : (List Nat)) : Rs := (.own 0 0 ((y).length), [.row (.f32 y) 0])
theorem laws_toFloat32S_den (v14 : List Nat) : (den TT (tabD laws_toFloat32S_tab) (tabM laws_toFloat32S_tab) (laws_toFloat32S_LO v14) (codeOf Try.f18) ([.bslc (BR.root 0) (.f32 v14)] ++ List.replicate (Try.f18.ntmps - ([.bslc (BR.root 0) (.f32 v14)] : List DV).length) .undef) []).bind (retD TT Try.f18.results.toList 0) = (laws_toFloat32S_T v14).bind fun y => .leaf (laws_toFloat32S_enc v14 y) := by kernel_rfl
theorem laws_toFloat32S_fn (v14 : List Nat) (F : Fr) (hm : F.ids.length = 0) (h0 : St F [] F.H0) (hA : DVs.Ok F [] [.bslc (BR.root 0) (.f32 v14)]) {y : (List Nat)} (hy : laws_toFloat32S_g v14 = some y) : ∃ H', FnOk Try.prog 18 (DVs.av F [.bslc (BR.root 0) (.f32 v14)]) F.H0 ((laws_toFloat32S_enc v14 y).1.av F) H' ∧ St F (laws_toFloat32S_enc v14 y).2 H' ∧ (laws_toFloat32S_enc v14 y).1.Ok F (laws_toFloat32S_enc v14 y).2 :=
  fn_fin tok laws_toFloat32S_hO mixed Try.func18 Try.call18 (by kernel_rfl) (LoopsOk_eq (l := [(0, bodyOf Try.f18 0)]) (by kernel_rfl) ⟨laws_toFloat32S_l0_ok v14, trivial⟩) (laws_toFloat32S_den v14) hy hm h0 hA
noncomputable def laws_toFloat32S_F : DFn := fun args L =>
  match args with
  | [a1] =>
    optT (rowF32 L a1) fun v14 =>
    .call (laws_toFloat32S_g v14) fun y => .leaf (.own (L.length + 0) 0 ((y).length), L ++ [.row (.f32 y) 0])
  | _ => .fail
theorem laws_toFloat32S_Fok : COk Try.prog 18 laws_toFloat32S_F true := by
  intro F L H args r L' hs ha hr
  unfold laws_toFloat32S_F at hr
  split at hr
  · rename_i a1
    obtain ⟨v14, hv14, hr⟩ := optT_run hr
    simp only [Tree.run] at hr
    obtain ⟨y, hy, hr⟩ := Option.bind_eq_some_iff.1 hr
    simp only [Tree.run, Option.some.injEq, Prod.mk.injEq] at hr
    obtain ⟨rfl, rfl⟩ := hr
    exact call_ok1 hs (fun k => (([a1.av F] : List AV)[k]?).getD .top) [a1] [.bslc (BR.root 0) (.f32 v14)] (fun F' h0 hi hρ => ⟨by simp [DVs.av, DV.av, BR.av, hρ], laws_toFloat32S_fn v14 F' (by rw [hi]; rfl) (st_nil hi) ⟨bslc_ok hi (by rw [h0, hρ]; exact rowF32_ok hs (DVs.okAt ha 0 rfl) hv14), trivial⟩ hy⟩) rfl rfl
  · cases hr
/-! laws.toMatrix -/
noncomputable def laws_toMatrix_LO (v11 : Int) (v12 : Int) (v13 : List Nat) : LOr := fun id e L =>
  match id with
  | _ => .fail
noncomputable def laws_toMatrix_tab : List (FuncId × DFn × Bool) := [(18, laws_toFloat32S_F, true)]
theorem laws_toMatrix_hO : OrcOk Try.prog (tabD laws_toMatrix_tab) (tabM laws_toMatrix_tab) := tabD_cons laws_toFloat32S_Fok (tabD_nil _)
noncomputable def laws_toMatrix_T (v11 : Int) (v12 : Int) (v13 : List Nat) : Tree (Int × Int × (List Nat)) :=
  (.call (laws_toFloat32S_g v13) fun v21 =>
  .leaf (v11, v12, v21))

noncomputable def laws_toMatrix_g (v11 : Int) (v12 : Int) (v13 : List Nat) : Option (Int × Int × (List Nat)) := (laws_toMatrix_T v11 v12 v13).run
def laws_toMatrix_enc (v11 : Int) (v12 : Int) (v13 : List Nat) (y : Int × Int × (List Nat)) : Rs := (.agg [.int .i64 y.1, .int .i64 y.2.1, .own 0 0 ((y.2.2).length)], [.row (.f32 y.2.2) 0])
theorem laws_toMatrix_den (v11 : Int) (v12 : Int) (v13 : List Nat) : (den TT (tabD laws_toMatrix_tab) (tabM laws_toMatrix_tab) (laws_toMatrix_LO v11 v12 v13) (codeOf Try.f31) ([.agg [.int .i64 v11, .int .i64 v12, .bslc (BR.root 0) (.f32 v13)]] ++ List.replicate (Try.f31.ntmps - ([.agg [.int .i64 v11, .int .i64 v12, .bslc (BR.root 0) (.f32 v13)]] : List DV).length) .undef) []).bind (retD TT Try.f31.results.toList 0) = (laws_toMatrix_T v11 v12 v13).bind fun y => .leaf (laws_toMatrix_enc v11 v12 v13 y) := by kernel_rfl
theorem laws_toMatrix_fn (v11 : Int) (v12 : Int) (v13 : List Nat) (F : Fr) (hm : F.ids.length = 0) (h0 : St F [] F.H0) (hA : DVs.Ok F [] [.agg [.int .i64 v11, .int .i64 v12, .bslc (BR.root 0) (.f32 v13)]]) {y : Int × Int × (List Nat)} (hy : laws_toMatrix_g v11 v12 v13 = some y) : ∃ H', FnOk Try.prog 31 (DVs.av F [.agg [.int .i64 v11, .int .i64 v12, .bslc (BR.root 0) (.f32 v13)]]) F.H0 ((laws_toMatrix_enc v11 v12 v13 y).1.av F) H' ∧ St F (laws_toMatrix_enc v11 v12 v13 y).2 H' ∧ (laws_toMatrix_enc v11 v12 v13 y).1.Ok F (laws_toMatrix_enc v11 v12 v13 y).2 :=
  fn_fin tok laws_toMatrix_hO mixed Try.func31 Try.call31 (by kernel_rfl) (LoopsOk_eq (l := []) (by kernel_rfl) trivial) (laws_toMatrix_den v11 v12 v13) hy hm h0 hA
noncomputable def laws_toMatrix_F : DFn := fun args L =>
  match args with
  | [.agg [.int .i64 v11, .int .i64 v12, a1]] =>
    optT (rowF32 L a1) fun v13 =>
    .call (laws_toMatrix_g v11 v12 v13) fun y => .leaf (.agg [.int .i64 y.1, .int .i64 y.2.1, .own (L.length + 0) 0 ((y.2.2).length)], L ++ [.row (.f32 y.2.2) 0])
  | _ => .fail
theorem laws_toMatrix_Fok : COk Try.prog 31 laws_toMatrix_F true := by
  intro F L H args r L' hs ha hr
  unfold laws_toMatrix_F at hr
  split at hr
  · rename_i v11 v12 a1
    obtain ⟨v13, hv13, hr⟩ := optT_run hr
    simp only [Tree.run] at hr
    obtain ⟨y, hy, hr⟩ := Option.bind_eq_some_iff.1 hr
    simp only [Tree.run, Option.some.injEq, Prod.mk.injEq] at hr
    obtain ⟨rfl, rfl⟩ := hr
    exact call_ok1 hs (fun k => (([a1.av F] : List AV)[k]?).getD .top) [.agg [.int .i64 v11, .int .i64 v12, a1]] [.agg [.int .i64 v11, .int .i64 v12, .bslc (BR.root 0) (.f32 v13)]] (fun F' h0 hi hρ => ⟨by simp [DVs.av, DV.av, BR.av, hρ], laws_toMatrix_fn v11 v12 v13 F' (by rw [hi]; rfl) (st_nil hi) ⟨⟨trivial, trivial, bslc_ok hi (by rw [h0, hρ]; exact rowF32_ok hs (DVs.okAt (DVs.okAt ha 0 rfl) 2 rfl) hv13), trivial⟩, trivial⟩ hy⟩) rfl rfl
  · cases hr
/-! spec.l00In -/
noncomputable def spec_l00In_LO (v35 : Int) (v36 : Int) (v37 : Int) : LOr := fun id e L =>
  match id with
  | _ => .fail
noncomputable def spec_l00In_tab : List (FuncId × DFn × Bool) := []
theorem spec_l00In_hO : OrcOk Try.prog (tabD spec_l00In_tab) (tabM spec_l00In_tab) := tabD_nil _
noncomputable def spec_l00In_T (v35 : Int) (v36 : Int) (v37 : Int) : Tree (Bool) :=
  (.br (decide (v36 ≤ v35)) (
   .leaf (decide (v35 ≤ v37))
  ) (
   .leaf false
  ))

noncomputable def spec_l00In_g (v35 : Int) (v36 : Int) (v37 : Int) : Option (Bool) := (spec_l00In_T v35 v36 v37).run
def spec_l00In_enc (v35 : Int) (v36 : Int) (v37 : Int) (y : Bool) : Rs := (.bool y, [])
theorem spec_l00In_den (v35 : Int) (v36 : Int) (v37 : Int) : (den TT (tabD spec_l00In_tab) (tabM spec_l00In_tab) (spec_l00In_LO v35 v36 v37) (codeOf Try.f71) ([.int .i64 v35, .int .i64 v36, .int .i64 v37] ++ List.replicate (Try.f71.ntmps - ([.int .i64 v35, .int .i64 v36, .int .i64 v37] : List DV).length) .undef) []).bind (retD TT Try.f71.results.toList 0) = (spec_l00In_T v35 v36 v37).bind fun y => .leaf (spec_l00In_enc v35 v36 v37 y) := by kernel_rfl
theorem spec_l00In_fn (v35 : Int) (v36 : Int) (v37 : Int) (F : Fr) (hm : F.ids.length = 0) (h0 : St F [] F.H0) (hA : DVs.Ok F [] [.int .i64 v35, .int .i64 v36, .int .i64 v37]) {y : Bool} (hy : spec_l00In_g v35 v36 v37 = some y) : ∃ H', FnOk Try.prog 71 (DVs.av F [.int .i64 v35, .int .i64 v36, .int .i64 v37]) F.H0 ((spec_l00In_enc v35 v36 v37 y).1.av F) H' ∧ St F (spec_l00In_enc v35 v36 v37 y).2 H' ∧ (spec_l00In_enc v35 v36 v37 y).1.Ok F (spec_l00In_enc v35 v36 v37 y).2 :=
  fn_fin tok spec_l00In_hO mixed Try.func71 Try.call71 (by kernel_rfl) (LoopsOk_eq (l := []) (by kernel_rfl) trivial) (spec_l00In_den v35 v36 v37) hy hm h0 hA
def spec_l00In_v (v35 : Int) (v36 : Int) (v37 : Int) : Bool :=
  if (decide (v36 ≤ v35)) = true then (
   decide (v35 ≤ v37)
  ) else (
   false
  )
theorem spec_l00In_tot (v35 : Int) (v36 : Int) (v37 : Int) : spec_l00In_g v35 v36 v37 = some (spec_l00In_v v35 v36 v37) := by
  unfold spec_l00In_g spec_l00In_T spec_l00In_v
  simp only [Tree.run]
  repeat' (first | rfl | split)
noncomputable def spec_l00In_F : DFn := fun args L =>
  match args with
  | [.int .i64 v35, .int .i64 v36, .int .i64 v37] =>
    .leaf (.bool (spec_l00In_v v35 v36 v37), L)
  | _ => .fail
theorem spec_l00In_Fok : COk Try.prog 71 spec_l00In_F true := by
  intro F L H args r L' hs ha hr
  unfold spec_l00In_F at hr
  split at hr
  · rename_i v35 v36 v37
    have hy := spec_l00In_tot v35 v36 v37
    generalize spec_l00In_v v35 v36 v37 = y at hy hr
    simp only [Tree.run, Option.some.injEq, Prod.mk.injEq] at hr
    obtain ⟨rfl, rfl⟩ := hr
    exact call_ok0 hs (fun k => (([] : List AV)[k]?).getD .top) [.int .i64 v35, .int .i64 v36, .int .i64 v37] [.int .i64 v35, .int .i64 v36, .int .i64 v37] (fun F' h0 hi hρ => ⟨by simp [DVs.av, DV.av, BR.av, hρ], spec_l00In_fn v35 v36 v37 F' (by rw [hi]; rfl) (st_nil hi) ⟨trivial, trivial, trivial, trivial⟩ hy⟩) rfl
  · cases hr
/-! spec.l02Sides -/
noncomputable def spec_l02Sides_LO (v33 : Int) (v34 : Int) : LOr := fun id e L =>
  match id with
  | _ => .fail
noncomputable def spec_l02Sides_tab : List (FuncId × DFn × Bool) := [(71, spec_l00In_F, true)]
theorem spec_l02Sides_hO : OrcOk Try.prog (tabD spec_l02Sides_tab) (tabM spec_l02Sides_tab) := tabD_cons spec_l00In_Fok (tabD_nil _)
noncomputable def spec_l02Sides_T (v33 : Int) (v34 : Int) : Tree (Bool) :=
  (.br (spec_l00In_v v33 (1 : Int) (12 : Int)) (
   .leaf (spec_l00In_v v34 (1 : Int) (12 : Int))
  ) (
   .leaf false
  ))

noncomputable def spec_l02Sides_g (v33 : Int) (v34 : Int) : Option (Bool) := (spec_l02Sides_T v33 v34).run
def spec_l02Sides_enc (v33 : Int) (v34 : Int) (y : Bool) : Rs := (.bool y, [])
theorem spec_l02Sides_den (v33 : Int) (v34 : Int) : (den TT (tabD spec_l02Sides_tab) (tabM spec_l02Sides_tab) (spec_l02Sides_LO v33 v34) (codeOf Try.f147) ([.int .i64 v33, .int .i64 v34] ++ List.replicate (Try.f147.ntmps - ([.int .i64 v33, .int .i64 v34] : List DV).length) .undef) []).bind (retD TT Try.f147.results.toList 0) = (spec_l02Sides_T v33 v34).bind fun y => .leaf (spec_l02Sides_enc v33 v34 y) := by kernel_rfl
theorem spec_l02Sides_fn (v33 : Int) (v34 : Int) (F : Fr) (hm : F.ids.length = 0) (h0 : St F [] F.H0) (hA : DVs.Ok F [] [.int .i64 v33, .int .i64 v34]) {y : Bool} (hy : spec_l02Sides_g v33 v34 = some y) : ∃ H', FnOk Try.prog 147 (DVs.av F [.int .i64 v33, .int .i64 v34]) F.H0 ((spec_l02Sides_enc v33 v34 y).1.av F) H' ∧ St F (spec_l02Sides_enc v33 v34 y).2 H' ∧ (spec_l02Sides_enc v33 v34 y).1.Ok F (spec_l02Sides_enc v33 v34 y).2 :=
  fn_fin tok spec_l02Sides_hO mixed Try.func147 Try.call147 (by kernel_rfl) (LoopsOk_eq (l := []) (by kernel_rfl) trivial) (spec_l02Sides_den v33 v34) hy hm h0 hA
def spec_l02Sides_v (v33 : Int) (v34 : Int) : Bool :=
  if (spec_l00In_v v33 (1 : Int) (12 : Int)) = true then (
   (spec_l00In_v v34 (1 : Int) (12 : Int))
  ) else (
   false
  )
theorem spec_l02Sides_tot (v33 : Int) (v34 : Int) : spec_l02Sides_g v33 v34 = some (spec_l02Sides_v v33 v34) := by
  unfold spec_l02Sides_g spec_l02Sides_T spec_l02Sides_v
  simp only [Tree.run]
  repeat' (first | rfl | split)
noncomputable def spec_l02Sides_F : DFn := fun args L =>
  match args with
  | [.int .i64 v33, .int .i64 v34] =>
    .leaf (.bool (spec_l02Sides_v v33 v34), L)
  | _ => .fail
theorem spec_l02Sides_Fok : COk Try.prog 147 spec_l02Sides_F true := by
  intro F L H args r L' hs ha hr
  unfold spec_l02Sides_F at hr
  split at hr
  · rename_i v33 v34
    have hy := spec_l02Sides_tot v33 v34
    generalize spec_l02Sides_v v33 v34 = y at hy hr
    simp only [Tree.run, Option.some.injEq, Prod.mk.injEq] at hr
    obtain ⟨rfl, rfl⟩ := hr
    exact call_ok0 hs (fun k => (([] : List AV)[k]?).getD .top) [.int .i64 v33, .int .i64 v34] [.int .i64 v33, .int .i64 v34] (fun F' h0 hi hρ => ⟨by simp [DVs.av, DV.av, BR.av, hρ], spec_l02Sides_fn v33 v34 F' (by rw [hi]; rfl) (st_nil hi) ⟨trivial, trivial, trivial⟩ hy⟩) rfl
  · cases hr
/-! spec.l01Finite -/
noncomputable def spec_l01Finite_LO (v40 : Nat) : LOr := fun id e L =>
  match id with
  | _ => .fail
noncomputable def spec_l01Finite_tab : List (FuncId × DFn × Bool) := []
theorem spec_l01Finite_hO : OrcOk Try.prog (tabD spec_l01Finite_tab) (tabM spec_l01Finite_tab) := tabD_nil _
noncomputable def spec_l01Finite_T (v40 : Nat) : Tree (Bool) :=
  .leaf (feq .f32 (fsub .f32 v40 v40) (0 : Nat))

noncomputable def spec_l01Finite_g (v40 : Nat) : Option (Bool) := (spec_l01Finite_T v40).run
def spec_l01Finite_enc (v40 : Nat) (y : Bool) : Rs := (.bool y, [])
theorem spec_l01Finite_den (v40 : Nat) : (den TT (tabD spec_l01Finite_tab) (tabM spec_l01Finite_tab) (spec_l01Finite_LO v40) (codeOf Try.f100) ([.flt .f32 v40] ++ List.replicate (Try.f100.ntmps - ([.flt .f32 v40] : List DV).length) .undef) []).bind (retD TT Try.f100.results.toList 0) = (spec_l01Finite_T v40).bind fun y => .leaf (spec_l01Finite_enc v40 y) := by kernel_rfl
theorem spec_l01Finite_fn (v40 : Nat) (F : Fr) (hm : F.ids.length = 0) (h0 : St F [] F.H0) (hA : DVs.Ok F [] [.flt .f32 v40]) {y : Bool} (hy : spec_l01Finite_g v40 = some y) : ∃ H', FnOk Try.prog 100 (DVs.av F [.flt .f32 v40]) F.H0 ((spec_l01Finite_enc v40 y).1.av F) H' ∧ St F (spec_l01Finite_enc v40 y).2 H' ∧ (spec_l01Finite_enc v40 y).1.Ok F (spec_l01Finite_enc v40 y).2 :=
  fn_fin tok spec_l01Finite_hO mixed Try.func100 Try.call100 (by kernel_rfl) (LoopsOk_eq (l := []) (by kernel_rfl) trivial) (spec_l01Finite_den v40) hy hm h0 hA
def spec_l01Finite_v (v40 : Nat) : Bool :=
  feq .f32 (fsub .f32 v40 v40) (0 : Nat)
theorem spec_l01Finite_tot (v40 : Nat) : spec_l01Finite_g v40 = some (spec_l01Finite_v v40) := by
  unfold spec_l01Finite_g spec_l01Finite_T spec_l01Finite_v
  simp only [Tree.run]
  repeat' (first | rfl | split)
noncomputable def spec_l01Finite_F : DFn := fun args L =>
  match args with
  | [.flt .f32 v40] =>
    .leaf (.bool (spec_l01Finite_v v40), L)
  | _ => .fail
theorem spec_l01Finite_Fok : COk Try.prog 100 spec_l01Finite_F true := by
  intro F L H args r L' hs ha hr
  unfold spec_l01Finite_F at hr
  split at hr
  · rename_i v40
    have hy := spec_l01Finite_tot v40
    generalize spec_l01Finite_v v40 = y at hy hr
    simp only [Tree.run, Option.some.injEq, Prod.mk.injEq] at hr
    obtain ⟨rfl, rfl⟩ := hr
    exact call_ok0 hs (fun k => (([] : List AV)[k]?).getD .top) [.flt .f32 v40] [.flt .f32 v40] (fun F' h0 hi hρ => ⟨by simp [DVs.av, DV.av, BR.av, hρ], spec_l01Finite_fn v40 F' (by rw [hi]; rfl) (st_nil hi) ⟨trivial, trivial⟩ hy⟩) rfl
  · cases hr
/-! spec.l02Finite -/
noncomputable def spec_l02Finite_l0_T (v38 : List Nat) (s : Int) : Tree ((Int) ⊕ ((Unit) ⊕ (Unit))) :=
  (.br (decide (s < ((v38.length : Nat) : Int))) (
   (.grd (inb s v38.length) <|
   (.br (!(spec_l01Finite_v (nth v38 (Int.toNat s)))) (
    .leaf (.inr (.inl ()))
   ) (
    .leaf (.inl (IntKind.i64.wrap (s + (1 : Int))))
   )))
  ) (
   .leaf (.inr (.inr ()))
  ))

noncomputable def spec_l02Finite_l0_g (v38 : List Nat) (s0 : Int) : Option ((Unit) ⊕ (Unit)) := whileM (fun s => (spec_l02Finite_l0_T v38 s).run) s0
def spec_l02Finite_l0_E (v38 : List Nat) (s : Int) : Sd := ([.bslc (BR.root 0) (.f32 v38), .top, .top, .int .i64 s, .top, .top, .top, .top, .top, .top, .top, .top, .top, .top, .top, .top], [])
def spec_l02Finite_l0_X (v38 : List Nat) (x : (Unit) ⊕ (Unit)) : Out := (match x with | .inl x => (.ret, [.top, .top, .lit false, .top, .top, .top, .top, .top, .top, .top, .top, .top, .top, .top, .top, .top], []) | .inr x => (.normal, [.top, .top, .top, .top, .top, .top, .top, .top, .top, .top, .top, .top, .top, .top, .top, .top], []))
def spec_l02Finite_l0_kill : List Nat := [0, 1, 1, 0, 1, 1, 1, 1, 1, 1, 1, 1, 1, 1, 1, 1]
def spec_l02Finite_l0_nx : Exit → List Nat
  | .exit 0 => [1, 1, 1, 1, 1, 1, 1, 1, 1, 1, 1, 1, 1, 1, 1, 1]
  | .ret => [1, 1, 0, 1, 1, 1, 1, 1, 1, 1, 1, 1, 1, 1, 1, 1]
  | _ => []
noncomputable def spec_l02Finite_LO (v38 : List Nat) : LOr := fun id e L =>
  match id with
  | 0 => .need (normA 0 spec_l02Finite_l0_kill e L = some (spec_l02Finite_l0_E v38 (gI (vAt e 3)))) (.call (spec_l02Finite_l0_g v38 (gI (vAt e 3))) fun x => .sum x (fun b0 => .leaf (spec_l02Finite_l0_X v38 (.inl b0))) (fun c0 => .leaf (spec_l02Finite_l0_X v38 (.inr c0))))
  | _ => .fail
noncomputable def spec_l02Finite_tab : List (FuncId × DFn × Bool) := [(100, spec_l01Finite_F, true)]
theorem spec_l02Finite_hO : OrcOk Try.prog (tabD spec_l02Finite_tab) (tabM spec_l02Finite_tab) := tabD_cons spec_l01Finite_Fok (tabD_nil _)
theorem spec_l02Finite_l0_be (v38 : List Nat) (s : Int) : bodyT TT (tabD spec_l02Finite_tab) (tabM spec_l02Finite_tab) (spec_l02Finite_LO v38) 0 spec_l02Finite_l0_kill spec_l02Finite_l0_nx (bodyOf Try.f131 0) 0 (spec_l02Finite_l0_E v38 s) = (spec_l02Finite_l0_T v38 s).bind fun y => .leaf (outS (spec_l02Finite_l0_E v38) (spec_l02Finite_l0_X v38) y) := by kernel_rfl
theorem spec_l02Finite_l0_ok (v38 : List Nat) : LSound Try.prog 0 (spec_l02Finite_LO v38) 0 (bodyOf Try.f131 0) := by
  intro e L out h
  exact lo_ok (E := spec_l02Finite_l0_E v38) (gT := spec_l02Finite_l0_T v38) (X := spec_l02Finite_l0_X v38) (s0 := (gI (vAt e 3))) tok spec_l02Finite_hO mixed (LoopsOk_eq (l := []) (by kernel_rfl) trivial) (spec_l02Finite_l0_be v38) rfl (by intro x; (cases x with | inl b => rfl | inr x => exact rfl)) h
noncomputable def spec_l02Finite_T (v38 : List Nat) : Tree (Bool) :=
  (.need (some (spec_l02Finite_l0_E v38 (0 : Int)) = some (spec_l02Finite_l0_E v38 (0 : Int))) <|
  (.call (spec_l02Finite_l0_g v38 (0 : Int)) fun v43 =>
  (.sum v43 (fun v44 =>
   .leaf false
  ) (fun v45 =>
   .leaf true
  ))))

noncomputable def spec_l02Finite_g (v38 : List Nat) : Option (Bool) := (spec_l02Finite_T v38).run
def spec_l02Finite_enc (v38 : List Nat) (y : Bool) : Rs := (.bool y, [])
theorem spec_l02Finite_den (v38 : List Nat) : (den TT (tabD spec_l02Finite_tab) (tabM spec_l02Finite_tab) (spec_l02Finite_LO v38) (codeOf Try.f131) ([.bslc (BR.root 0) (.f32 v38)] ++ List.replicate (Try.f131.ntmps - ([.bslc (BR.root 0) (.f32 v38)] : List DV).length) .undef) []).bind (retD TT Try.f131.results.toList 0) = (spec_l02Finite_T v38).bind fun y => .leaf (spec_l02Finite_enc v38 y) := by kernel_rfl
theorem spec_l02Finite_fn (v38 : List Nat) (F : Fr) (hm : F.ids.length = 0) (h0 : St F [] F.H0) (hA : DVs.Ok F [] [.bslc (BR.root 0) (.f32 v38)]) {y : Bool} (hy : spec_l02Finite_g v38 = some y) : ∃ H', FnOk Try.prog 131 (DVs.av F [.bslc (BR.root 0) (.f32 v38)]) F.H0 ((spec_l02Finite_enc v38 y).1.av F) H' ∧ St F (spec_l02Finite_enc v38 y).2 H' ∧ (spec_l02Finite_enc v38 y).1.Ok F (spec_l02Finite_enc v38 y).2 :=
  fn_fin tok spec_l02Finite_hO mixed Try.func131 Try.call131 (by kernel_rfl) (LoopsOk_eq (l := [(0, bodyOf Try.f131 0)]) (by kernel_rfl) ⟨spec_l02Finite_l0_ok v38, trivial⟩) (spec_l02Finite_den v38) hy hm h0 hA
noncomputable def spec_l02Finite_F : DFn := fun args L =>
  match args with
  | [a1] =>
    optT (rowF32 L a1) fun v38 =>
    .call (spec_l02Finite_g v38) fun y => .leaf (.bool y, L)
  | _ => .fail
theorem spec_l02Finite_Fok : COk Try.prog 131 spec_l02Finite_F true := by
  intro F L H args r L' hs ha hr
  unfold spec_l02Finite_F at hr
  split at hr
  · rename_i a1
    obtain ⟨v38, hv38, hr⟩ := optT_run hr
    simp only [Tree.run] at hr
    obtain ⟨y, hy, hr⟩ := Option.bind_eq_some_iff.1 hr
    simp only [Tree.run, Option.some.injEq, Prod.mk.injEq] at hr
    obtain ⟨rfl, rfl⟩ := hr
    exact call_ok0 hs (fun k => (([a1.av F] : List AV)[k]?).getD .top) [a1] [.bslc (BR.root 0) (.f32 v38)] (fun F' h0 hi hρ => ⟨by simp [DVs.av, DV.av, BR.av, hρ], spec_l02Finite_fn v38 F' (by rw [hi]; rfl) (st_nil hi) ⟨bslc_ok hi (by rw [h0, hρ]; exact rowF32_ok hs (DVs.okAt ha 0 rfl) hv38), trivial⟩ hy⟩) rfl
  · cases hr
/-! spec.l02Is -/
noncomputable def spec_l02Is_LO (v30 : Int) (v31 : Int) (v32 : List Nat) : LOr := fun id e L =>
  match id with
  | _ => .fail
noncomputable def spec_l02Is_tab : List (FuncId × DFn × Bool) := [(147, spec_l02Sides_F, true), (131, spec_l02Finite_F, true)]
theorem spec_l02Is_hO : OrcOk Try.prog (tabD spec_l02Is_tab) (tabM spec_l02Is_tab) := tabD_cons spec_l02Sides_Fok (tabD_cons spec_l02Finite_Fok (tabD_nil _))
noncomputable def spec_l02Is_T (v30 : Int) (v31 : Int) (v32 : List Nat) : Tree (Bool) :=
  (.br (spec_l02Sides_v v30 v31) (
   (.br (decide (((v32.length : Nat) : Int) = IntKind.i64.wrap (v30 * v31))) (
    (.call (spec_l02Finite_g v32) fun v46 =>
    .leaf v46)
   ) (
    .leaf false
   ))
  ) (
   .leaf false
  ))

noncomputable def spec_l02Is_g (v30 : Int) (v31 : Int) (v32 : List Nat) : Option (Bool) := (spec_l02Is_T v30 v31 v32).run
def spec_l02Is_enc (v30 : Int) (v31 : Int) (v32 : List Nat) (y : Bool) : Rs := (.bool y, [])
theorem spec_l02Is_den (v30 : Int) (v31 : Int) (v32 : List Nat) : (den TT (tabD spec_l02Is_tab) (tabM spec_l02Is_tab) (spec_l02Is_LO v30 v31 v32) (codeOf Try.f99) ([.bptr (BR.root 0) [.int .i64 v30, .int .i64 v31, .bslc (BR.root 1) (.f32 v32)]] ++ List.replicate (Try.f99.ntmps - ([.bptr (BR.root 0) [.int .i64 v30, .int .i64 v31, .bslc (BR.root 1) (.f32 v32)]] : List DV).length) .undef) []).bind (retD TT Try.f99.results.toList 0) = (spec_l02Is_T v30 v31 v32).bind fun y => .leaf (spec_l02Is_enc v30 v31 v32 y) := by kernel_rfl
theorem spec_l02Is_fn (v30 : Int) (v31 : Int) (v32 : List Nat) (F : Fr) (hm : F.ids.length = 0) (h0 : St F [] F.H0) (hA : DVs.Ok F [] [.bptr (BR.root 0) [.int .i64 v30, .int .i64 v31, .bslc (BR.root 1) (.f32 v32)]]) {y : Bool} (hy : spec_l02Is_g v30 v31 v32 = some y) : ∃ H', FnOk Try.prog 99 (DVs.av F [.bptr (BR.root 0) [.int .i64 v30, .int .i64 v31, .bslc (BR.root 1) (.f32 v32)]]) F.H0 ((spec_l02Is_enc v30 v31 v32 y).1.av F) H' ∧ St F (spec_l02Is_enc v30 v31 v32 y).2 H' ∧ (spec_l02Is_enc v30 v31 v32 y).1.Ok F (spec_l02Is_enc v30 v31 v32 y).2 :=
  fn_fin tok spec_l02Is_hO mixed Try.func99 Try.call99 (by kernel_rfl) (LoopsOk_eq (l := []) (by kernel_rfl) trivial) (spec_l02Is_den v30 v31 v32) hy hm h0 hA
noncomputable def spec_l02Is_F : DFn := fun args L =>
  match args with
  | [a1] =>
    optT (cellsOf L 3 a1) fun cs0 =>
    (match cs0 with
    | [.int .i64 v30, .int .i64 v31, a2] =>
    optT (rowF32 L a2) fun v32 =>
    .call (spec_l02Is_g v30 v31 v32) fun y => .leaf (.bool y, L)
    | _ => .fail)
  | _ => .fail
theorem spec_l02Is_Fok : COk Try.prog 99 spec_l02Is_F true := by
  intro F L H args r L' hs ha hr
  unfold spec_l02Is_F at hr
  split at hr
  · rename_i a1
    obtain ⟨cs0, hcp0, hr⟩ := optT_run hr
    split at hr
    · rename_i v30 v31 a2
      obtain ⟨v32, hv32, hr⟩ := optT_run hr
      simp only [Tree.run] at hr
      obtain ⟨y, hy, hr⟩ := Option.bind_eq_some_iff.1 hr
      simp only [Tree.run, Option.some.injEq, Prod.mk.injEq] at hr
      obtain ⟨rfl, rfl⟩ := hr
      exact call_ok0 hs (fun k => (([a1.av F, a2.av F] : List AV)[k]?).getD .top) [a1] [.bptr (BR.root 0) [.int .i64 v30, .int .i64 v31, .bslc (BR.root 1) (.f32 v32)]] (fun F' h0 hi hρ => ⟨by simp [DVs.av, DV.av, BR.av, hρ], spec_l02Is_fn v30 v31 v32 F' (by rw [hi]; rfl) (st_nil hi) ⟨bptr_ok hi (by rw [h0]; simpa [DVs.av, DV.av, BR.av, hρ] using (cellsOf_ok hs (DVs.okAt ha 0 rfl) hcp0).1) ⟨trivial, trivial, bslc_ok hi (by rw [h0, hρ]; exact rowF32_ok hs (DVs.okAt (cellsOf_ok hs (DVs.okAt ha 0 rfl) hcp0).2 2 rfl) hv32), trivial⟩, trivial⟩ hy⟩) rfl
    · cases hr
  · cases hr
/-! spec.l02Square -/
noncomputable def spec_l02Square_LO (v27 : Int) (v28 : Int) (v29 : List Nat) : LOr := fun id e L =>
  match id with
  | _ => .fail
noncomputable def spec_l02Square_tab : List (FuncId × DFn × Bool) := [(99, spec_l02Is_F, true)]
theorem spec_l02Square_hO : OrcOk Try.prog (tabD spec_l02Square_tab) (tabM spec_l02Square_tab) := tabD_cons spec_l02Is_Fok (tabD_nil _)
noncomputable def spec_l02Square_T (v27 : Int) (v28 : Int) (v29 : List Nat) : Tree (Bool) :=
  (.call (spec_l02Is_g v27 v28 v29) fun v47 =>
  (.br v47 (
   .leaf (decide (v27 = v28))
  ) (
   .leaf false
  )))

noncomputable def spec_l02Square_g (v27 : Int) (v28 : Int) (v29 : List Nat) : Option (Bool) := (spec_l02Square_T v27 v28 v29).run
def spec_l02Square_enc (v27 : Int) (v28 : Int) (v29 : List Nat) (y : Bool) : Rs := (.bool y, [])
theorem spec_l02Square_den (v27 : Int) (v28 : Int) (v29 : List Nat) : (den TT (tabD spec_l02Square_tab) (tabM spec_l02Square_tab) (spec_l02Square_LO v27 v28 v29) (codeOf Try.f82) ([.bptr (BR.root 0) [.int .i64 v27, .int .i64 v28, .bslc (BR.root 1) (.f32 v29)]] ++ List.replicate (Try.f82.ntmps - ([.bptr (BR.root 0) [.int .i64 v27, .int .i64 v28, .bslc (BR.root 1) (.f32 v29)]] : List DV).length) .undef) []).bind (retD TT Try.f82.results.toList 0) = (spec_l02Square_T v27 v28 v29).bind fun y => .leaf (spec_l02Square_enc v27 v28 v29 y) := by kernel_rfl
theorem spec_l02Square_fn (v27 : Int) (v28 : Int) (v29 : List Nat) (F : Fr) (hm : F.ids.length = 0) (h0 : St F [] F.H0) (hA : DVs.Ok F [] [.bptr (BR.root 0) [.int .i64 v27, .int .i64 v28, .bslc (BR.root 1) (.f32 v29)]]) {y : Bool} (hy : spec_l02Square_g v27 v28 v29 = some y) : ∃ H', FnOk Try.prog 82 (DVs.av F [.bptr (BR.root 0) [.int .i64 v27, .int .i64 v28, .bslc (BR.root 1) (.f32 v29)]]) F.H0 ((spec_l02Square_enc v27 v28 v29 y).1.av F) H' ∧ St F (spec_l02Square_enc v27 v28 v29 y).2 H' ∧ (spec_l02Square_enc v27 v28 v29 y).1.Ok F (spec_l02Square_enc v27 v28 v29 y).2 :=
  fn_fin tok spec_l02Square_hO mixed Try.func82 Try.call82 (by kernel_rfl) (LoopsOk_eq (l := []) (by kernel_rfl) trivial) (spec_l02Square_den v27 v28 v29) hy hm h0 hA
noncomputable def spec_l02Square_F : DFn := fun args L =>
  match args with
  | [a1] =>
    optT (cellsOf L 3 a1) fun cs0 =>
    (match cs0 with
    | [.int .i64 v27, .int .i64 v28, a2] =>
    optT (rowF32 L a2) fun v29 =>
    .call (spec_l02Square_g v27 v28 v29) fun y => .leaf (.bool y, L)
    | _ => .fail)
  | _ => .fail
theorem spec_l02Square_Fok : COk Try.prog 82 spec_l02Square_F true := by
  intro F L H args r L' hs ha hr
  unfold spec_l02Square_F at hr
  split at hr
  · rename_i a1
    obtain ⟨cs0, hcp0, hr⟩ := optT_run hr
    split at hr
    · rename_i v27 v28 a2
      obtain ⟨v29, hv29, hr⟩ := optT_run hr
      simp only [Tree.run] at hr
      obtain ⟨y, hy, hr⟩ := Option.bind_eq_some_iff.1 hr
      simp only [Tree.run, Option.some.injEq, Prod.mk.injEq] at hr
      obtain ⟨rfl, rfl⟩ := hr
      exact call_ok0 hs (fun k => (([a1.av F, a2.av F] : List AV)[k]?).getD .top) [a1] [.bptr (BR.root 0) [.int .i64 v27, .int .i64 v28, .bslc (BR.root 1) (.f32 v29)]] (fun F' h0 hi hρ => ⟨by simp [DVs.av, DV.av, BR.av, hρ], spec_l02Square_fn v27 v28 v29 F' (by rw [hi]; rfl) (st_nil hi) ⟨bptr_ok hi (by rw [h0]; simpa [DVs.av, DV.av, BR.av, hρ] using (cellsOf_ok hs (DVs.okAt ha 0 rfl) hcp0).1) ⟨trivial, trivial, bslc_ok hi (by rw [h0, hρ]; exact rowF32_ok hs (DVs.okAt (cellsOf_ok hs (DVs.okAt ha 0 rfl) hcp0).2 2 rfl) hv29), trivial⟩, trivial⟩ hy⟩) rfl
    · cases hr
  · cases hr
/-! spec.l02Own -/
noncomputable def spec_l02Own_LO (v49 : Int) (v50 : Int) (v51 : List Nat) : LOr := fun id e L =>
  match id with
  | _ => .fail
noncomputable def spec_l02Own_tab : List (FuncId × DFn × Bool) := []
theorem spec_l02Own_hO : OrcOk Try.prog (tabD spec_l02Own_tab) (tabM spec_l02Own_tab) := tabD_nil _
noncomputable def spec_l02Own_T (v49 : Int) (v50 : Int) (v51 : List Nat) : Tree (Int × Int) :=
  (.grd (fits (([] : List Nat) ++ v51).length) <|
  .leaf (v49, v50))

noncomputable def spec_l02Own_g (v49 : Int) (v50 : Int) (v51 : List Nat) : Option (Int × Int) := (spec_l02Own_T v49 v50 v51).run
def spec_l02Own_enc (v49 : Int) (v50 : Int) (v51 : List Nat) (y : Int × Int) : Rs := (.agg [.int .i64 y.1, .int .i64 y.2, .own 0 0 ((([] : List Nat) ++ v51).length)], [.row (.f32 (([] : List Nat) ++ v51)) 0])
theorem spec_l02Own_den (v49 : Int) (v50 : Int) (v51 : List Nat) : (den TT (tabD spec_l02Own_tab) (tabM spec_l02Own_tab) (spec_l02Own_LO v49 v50 v51) (codeOf Try.f83) ([.bptr (BR.root 0) [.int .i64 v49, .int .i64 v50, .bslc (BR.root 1) (.f32 v51)]] ++ List.replicate (Try.f83.ntmps - ([.bptr (BR.root 0) [.int .i64 v49, .int .i64 v50, .bslc (BR.root 1) (.f32 v51)]] : List DV).length) .undef) []).bind (retD TT Try.f83.results.toList 0) = (spec_l02Own_T v49 v50 v51).bind fun y => .leaf (spec_l02Own_enc v49 v50 v51 y) := by kernel_rfl
theorem spec_l02Own_fn (v49 : Int) (v50 : Int) (v51 : List Nat) (F : Fr) (hm : F.ids.length = 0) (h0 : St F [] F.H0) (hA : DVs.Ok F [] [.bptr (BR.root 0) [.int .i64 v49, .int .i64 v50, .bslc (BR.root 1) (.f32 v51)]]) {y : Int × Int} (hy : spec_l02Own_g v49 v50 v51 = some y) : ∃ H', FnOk Try.prog 83 (DVs.av F [.bptr (BR.root 0) [.int .i64 v49, .int .i64 v50, .bslc (BR.root 1) (.f32 v51)]]) F.H0 ((spec_l02Own_enc v49 v50 v51 y).1.av F) H' ∧ St F (spec_l02Own_enc v49 v50 v51 y).2 H' ∧ (spec_l02Own_enc v49 v50 v51 y).1.Ok F (spec_l02Own_enc v49 v50 v51 y).2 :=
  fn_fin tok spec_l02Own_hO mixed Try.func83 Try.call83 (by kernel_rfl) (LoopsOk_eq (l := []) (by kernel_rfl) trivial) (spec_l02Own_den v49 v50 v51) hy hm h0 hA
noncomputable def spec_l02Own_F : DFn := fun args L =>
  match args with
  | [a1] =>
    optT (cellsOf L 3 a1) fun cs0 =>
    (match cs0 with
    | [.int .i64 v49, .int .i64 v50, a2] =>
    optT (rowF32 L a2) fun v51 =>
    .call (spec_l02Own_g v49 v50 v51) fun y => .leaf (.agg [.int .i64 y.1, .int .i64 y.2, .own (L.length + 0) 0 ((([] : List Nat) ++ v51).length)], L ++ [.row (.f32 (([] : List Nat) ++ v51)) 0])
    | _ => .fail)
  | _ => .fail
theorem spec_l02Own_Fok : COk Try.prog 83 spec_l02Own_F true := by
  intro F L H args r L' hs ha hr
  unfold spec_l02Own_F at hr
  split at hr
  · rename_i a1
    obtain ⟨cs0, hcp0, hr⟩ := optT_run hr
    split at hr
    · rename_i v49 v50 a2
      obtain ⟨v51, hv51, hr⟩ := optT_run hr
      simp only [Tree.run] at hr
      obtain ⟨y, hy, hr⟩ := Option.bind_eq_some_iff.1 hr
      simp only [Tree.run, Option.some.injEq, Prod.mk.injEq] at hr
      obtain ⟨rfl, rfl⟩ := hr
      exact call_ok1 hs (fun k => (([a1.av F, a2.av F] : List AV)[k]?).getD .top) [a1] [.bptr (BR.root 0) [.int .i64 v49, .int .i64 v50, .bslc (BR.root 1) (.f32 v51)]] (fun F' h0 hi hρ => ⟨by simp [DVs.av, DV.av, BR.av, hρ], spec_l02Own_fn v49 v50 v51 F' (by rw [hi]; rfl) (st_nil hi) ⟨bptr_ok hi (by rw [h0]; simpa [DVs.av, DV.av, BR.av, hρ] using (cellsOf_ok hs (DVs.okAt ha 0 rfl) hcp0).1) ⟨trivial, trivial, bslc_ok hi (by rw [h0, hρ]; exact rowF32_ok hs (DVs.okAt (cellsOf_ok hs (DVs.okAt ha 0 rfl) hcp0).2 2 rfl) hv51), trivial⟩, trivial⟩ hy⟩) rfl rfl
    · cases hr
  · cases hr
/-! spec.l02At -/
noncomputable def spec_l02At_LO (v69 : Int) (v70 : Int) (v71 : List Nat) (v72 : Int) (v73 : Int) : LOr := fun id e L =>
  match id with
  | _ => .fail
noncomputable def spec_l02At_tab : List (FuncId × DFn × Bool) := []
theorem spec_l02At_hO : OrcOk Try.prog (tabD spec_l02At_tab) (tabM spec_l02At_tab) := tabD_nil _
noncomputable def spec_l02At_T (v70 : Int) (v71 : List Nat) (v72 : Int) (v73 : Int) : Tree (Nat) :=
  (.grd (inb (IntKind.i64.wrap ((IntKind.i64.wrap (v72 * v70)) + v73)) v71.length) <|
  .leaf (nth v71 (Int.toNat (IntKind.i64.wrap ((IntKind.i64.wrap (v72 * v70)) + v73)))))

noncomputable def spec_l02At_g (v70 : Int) (v71 : List Nat) (v72 : Int) (v73 : Int) : Option (Nat) := (spec_l02At_T v70 v71 v72 v73).run
def spec_l02At_enc (v69 : Int) (v70 : Int) (v71 : List Nat) (v72 : Int) (v73 : Int) (y : Nat) : Rs := (.flt .f32 y, [])
theorem spec_l02At_den (v69 : Int) (v70 : Int) (v71 : List Nat) (v72 : Int) (v73 : Int) : (den TT (tabD spec_l02At_tab) (tabM spec_l02At_tab) (spec_l02At_LO v69 v70 v71 v72 v73) (codeOf Try.f115) ([.bptr (BR.root 0) [.int .i64 v69, .int .i64 v70, .bslc (BR.root 1) (.f32 v71)], .int .i64 v72, .int .i64 v73] ++ List.replicate (Try.f115.ntmps - ([.bptr (BR.root 0) [.int .i64 v69, .int .i64 v70, .bslc (BR.root 1) (.f32 v71)], .int .i64 v72, .int .i64 v73] : List DV).length) .undef) []).bind (retD TT Try.f115.results.toList 0) = (spec_l02At_T v70 v71 v72 v73).bind fun y => .leaf (spec_l02At_enc v69 v70 v71 v72 v73 y) := by kernel_rfl
theorem spec_l02At_fn (v69 : Int) (v70 : Int) (v71 : List Nat) (v72 : Int) (v73 : Int) (F : Fr) (hm : F.ids.length = 0) (h0 : St F [] F.H0) (hA : DVs.Ok F [] [.bptr (BR.root 0) [.int .i64 v69, .int .i64 v70, .bslc (BR.root 1) (.f32 v71)], .int .i64 v72, .int .i64 v73]) {y : Nat} (hy : spec_l02At_g v70 v71 v72 v73 = some y) : ∃ H', FnOk Try.prog 115 (DVs.av F [.bptr (BR.root 0) [.int .i64 v69, .int .i64 v70, .bslc (BR.root 1) (.f32 v71)], .int .i64 v72, .int .i64 v73]) F.H0 ((spec_l02At_enc v69 v70 v71 v72 v73 y).1.av F) H' ∧ St F (spec_l02At_enc v69 v70 v71 v72 v73 y).2 H' ∧ (spec_l02At_enc v69 v70 v71 v72 v73 y).1.Ok F (spec_l02At_enc v69 v70 v71 v72 v73 y).2 :=
  fn_fin tok spec_l02At_hO mixed Try.func115 Try.call115 (by kernel_rfl) (LoopsOk_eq (l := []) (by kernel_rfl) trivial) (spec_l02At_den v69 v70 v71 v72 v73) hy hm h0 hA
noncomputable def spec_l02At_F : DFn := fun args L =>
  match args with
  | [a1, .int .i64 v72, .int .i64 v73] =>
    optT (cellsOf L 3 a1) fun cs0 =>
    (match cs0 with
    | [.int .i64 v69, .int .i64 v70, a2] =>
    optT (rowF32 L a2) fun v71 =>
    .call (spec_l02At_g v70 v71 v72 v73) fun y => .leaf (.flt .f32 y, L)
    | _ => .fail)
  | _ => .fail
theorem spec_l02At_Fok : COk Try.prog 115 spec_l02At_F true := by
  intro F L H args r L' hs ha hr
  unfold spec_l02At_F at hr
  split at hr
  · rename_i a1 v72 v73
    obtain ⟨cs0, hcp0, hr⟩ := optT_run hr
    split at hr
    · rename_i v69 v70 a2
      obtain ⟨v71, hv71, hr⟩ := optT_run hr
      simp only [Tree.run] at hr
      obtain ⟨y, hy, hr⟩ := Option.bind_eq_some_iff.1 hr
      simp only [Tree.run, Option.some.injEq, Prod.mk.injEq] at hr
      obtain ⟨rfl, rfl⟩ := hr
      exact call_ok0 hs (fun k => (([a1.av F, a2.av F] : List AV)[k]?).getD .top) [a1, .int .i64 v72, .int .i64 v73] [.bptr (BR.root 0) [.int .i64 v69, .int .i64 v70, .bslc (BR.root 1) (.f32 v71)], .int .i64 v72, .int .i64 v73] (fun F' h0 hi hρ => ⟨by simp [DVs.av, DV.av, BR.av, hρ], spec_l02At_fn v69 v70 v71 v72 v73 F' (by rw [hi]; rfl) (st_nil hi) ⟨bptr_ok hi (by rw [h0]; simpa [DVs.av, DV.av, BR.av, hρ] using (cellsOf_ok hs (DVs.okAt ha 0 rfl) hcp0).1) ⟨trivial, trivial, bslc_ok hi (by rw [h0, hρ]; exact rowF32_ok hs (DVs.okAt (cellsOf_ok hs (DVs.okAt ha 0 rfl) hcp0).2 2 rfl) hv71), trivial⟩, trivial, trivial, trivial⟩ hy⟩) rfl
    · cases hr
  · cases hr
/-! spec.l02Size -/
noncomputable def spec_l02Size_LO (v75 : Nat) : LOr := fun id e L =>
  match id with
  | _ => .fail
noncomputable def spec_l02Size_tab : List (FuncId × DFn × Bool) := []
theorem spec_l02Size_hO : OrcOk Try.prog (tabD spec_l02Size_tab) (tabM spec_l02Size_tab) := tabD_nil _
noncomputable def spec_l02Size_T (v75 : Nat) : Tree (Nat) :=
  (.br (fless .f32 v75 (0 : Nat) || feq .f32 v75 (0 : Nat)) (
   .leaf (fsub .f32 (0 : Nat) v75)
  ) (
   .leaf v75
  ))

noncomputable def spec_l02Size_g (v75 : Nat) : Option (Nat) := (spec_l02Size_T v75).run
def spec_l02Size_enc (v75 : Nat) (y : Nat) : Rs := (.flt .f32 y, [])
theorem spec_l02Size_den (v75 : Nat) : (den TT (tabD spec_l02Size_tab) (tabM spec_l02Size_tab) (spec_l02Size_LO v75) (codeOf Try.f157) ([.flt .f32 v75] ++ List.replicate (Try.f157.ntmps - ([.flt .f32 v75] : List DV).length) .undef) []).bind (retD TT Try.f157.results.toList 0) = (spec_l02Size_T v75).bind fun y => .leaf (spec_l02Size_enc v75 y) := by kernel_rfl
theorem spec_l02Size_fn (v75 : Nat) (F : Fr) (hm : F.ids.length = 0) (h0 : St F [] F.H0) (hA : DVs.Ok F [] [.flt .f32 v75]) {y : Nat} (hy : spec_l02Size_g v75 = some y) : ∃ H', FnOk Try.prog 157 (DVs.av F [.flt .f32 v75]) F.H0 ((spec_l02Size_enc v75 y).1.av F) H' ∧ St F (spec_l02Size_enc v75 y).2 H' ∧ (spec_l02Size_enc v75 y).1.Ok F (spec_l02Size_enc v75 y).2 :=
  fn_fin tok spec_l02Size_hO mixed Try.func157 Try.call157 (by kernel_rfl) (LoopsOk_eq (l := []) (by kernel_rfl) trivial) (spec_l02Size_den v75) hy hm h0 hA
def spec_l02Size_v (v75 : Nat) : Nat :=
  if (fless .f32 v75 (0 : Nat) || feq .f32 v75 (0 : Nat)) = true then (
   fsub .f32 (0 : Nat) v75
  ) else (
   v75
  )
theorem spec_l02Size_tot (v75 : Nat) : spec_l02Size_g v75 = some (spec_l02Size_v v75) := by
  unfold spec_l02Size_g spec_l02Size_T spec_l02Size_v
  simp only [Tree.run]
  repeat' (first | rfl | split)
noncomputable def spec_l02Size_F : DFn := fun args L =>
  match args with
  | [.flt .f32 v75] =>
    .leaf (.flt .f32 (spec_l02Size_v v75), L)
  | _ => .fail
theorem spec_l02Size_Fok : COk Try.prog 157 spec_l02Size_F true := by
  intro F L H args r L' hs ha hr
  unfold spec_l02Size_F at hr
  split at hr
  · rename_i v75
    have hy := spec_l02Size_tot v75
    generalize spec_l02Size_v v75 = y at hy hr
    simp only [Tree.run, Option.some.injEq, Prod.mk.injEq] at hr
    obtain ⟨rfl, rfl⟩ := hr
    exact call_ok0 hs (fun k => (([] : List AV)[k]?).getD .top) [.flt .f32 v75] [.flt .f32 v75] (fun F' h0 hi hρ => ⟨by simp [DVs.av, DV.av, BR.av, hρ], spec_l02Size_fn v75 F' (by rw [hi]; rfl) (st_nil hi) ⟨trivial, trivial⟩ hy⟩) rfl
  · cases hr
/-! spec.l02RowNorm -/
noncomputable def spec_l02RowNorm_l2_T (v61 : Int) (v62 : List Nat) (v117 : Nat) (v118 : Int) (s : Nat × Int) : Tree ((Nat × Int) ⊕ (Nat)) :=
  (.br (decide (s.2 < v61)) (
   (.call (spec_l02At_g v61 v62 v118 s.2) fun v121 =>
   .leaf (.inl (fadd .f32 s.1 (spec_l02Size_v v121), IntKind.i64.wrap (s.2 + (1 : Int)))))
  ) (
   .leaf (.inr s.1)
  ))

noncomputable def spec_l02RowNorm_l2_g (v61 : Int) (v62 : List Nat) (v117 : Nat) (v118 : Int) (s0 : Nat × Int) : Option (Nat) := whileM (fun s => (spec_l02RowNorm_l2_T v61 v62 v117 v118 s).run) s0
def spec_l02RowNorm_l2_E (v60 : Int) (v61 : Int) (v62 : List Nat) (v117 : Nat) (v118 : Int) (s : Nat × Int) : Sd := ([.bptr (BR.root 0) [.int .i64 v60, .int .i64 v61, .bslc (BR.root 1) (.f32 v62)], .top, .top, .flt .f32 v117, .int .i64 v118, .flt .f32 s.1, .int .i64 s.2, .top, .top, .top, .top, .top, .top, .top, .top, .top, .top, .top, .top, .top, .top, .top, .top, .top, .top, .top, .top, .top, .top, .top, .top, .top, .top, .top, .top], [])
def spec_l02RowNorm_l2_X (v60 : Int) (v61 : Int) (v62 : List Nat) (v117 : Nat) (v118 : Int) (x : Nat) : Out := (.normal, [.bptr (BR.root 0) [.int .i64 v60, .int .i64 v61, .bslc (BR.root 1) (.f32 v62)], .top, .top, .flt .f32 v117, .int .i64 v118, .flt .f32 x, .top, .top, .top, .top, .top, .top, .top, .top, .top, .top, .top, .top, .top, .top, .top, .top, .top, .top, .top, .top, .top, .top, .top, .top, .top, .top, .top, .top, .top], [])
def spec_l02RowNorm_l2_kill : List Nat := [0, 1, 1, 0, 0, 0, 0, 1, 1, 1, 1, 1, 1, 1, 1, 1, 1, 1, 1, 1, 1, 1, 1, 1, 1, 1, 1, 1, 1, 1, 1, 1, 1, 1, 1]
def spec_l02RowNorm_l2_nx : Exit → List Nat
  | .exit 0 => [1, 1, 1, 0, 1, 1, 1, 1, 1, 1, 1, 1, 1, 1, 1, 1, 1, 1, 1, 1, 1, 1, 1, 1, 1, 1, 1, 1, 1, 1, 1, 1, 1, 1, 1]
  | .exit 1 => [0, 1, 1, 0, 0, 1, 1, 1, 1, 1, 1, 1, 1, 1, 1, 1, 1, 1, 1, 1, 1, 1, 1, 1, 1, 1, 1, 1, 1, 1, 1, 1, 1, 1, 1]
  | .exit 2 => [0, 1, 1, 0, 0, 0, 1, 1, 1, 1, 1, 1, 1, 1, 1, 1, 1, 1, 1, 1, 1, 1, 1, 1, 1, 1, 1, 1, 1, 1, 1, 1, 1, 1, 1]
  | .ret => [1, 1, 0, 1, 1, 1, 1, 1, 1, 1, 1, 1, 1, 1, 1, 1, 1, 1, 1, 1, 1, 1, 1, 1, 1, 1, 1, 1, 1, 1, 1, 1, 1, 1, 1]
  | _ => []
noncomputable def spec_l02RowNorm_l0_T (v60 : Int) (v61 : Int) (v62 : List Nat) (s : Nat × Int) : Tree ((Nat × Int) ⊕ (Nat)) :=
  (.br (decide (s.2 < v60)) (
   (.need (some (spec_l02RowNorm_l2_E v60 v61 v62 s.1 s.2 ((0 : Nat), (0 : Int))) = some (spec_l02RowNorm_l2_E v60 v61 v62 s.1 s.2 ((0 : Nat), (0 : Int)))) <|
   (.call (spec_l02RowNorm_l2_g v61 v62 s.1 s.2 ((0 : Nat), (0 : Int))) fun v122 =>
   (.br (fgrt .f32 v122 s.1) (
    .leaf (.inl (v122, IntKind.i64.wrap (s.2 + (1 : Int))))
   ) (
    .leaf (.inl (s.1, IntKind.i64.wrap (s.2 + (1 : Int))))
   ))))
  ) (
   .leaf (.inr s.1)
  ))

noncomputable def spec_l02RowNorm_l0_g (v60 : Int) (v61 : Int) (v62 : List Nat) (s0 : Nat × Int) : Option (Nat) := whileM (fun s => (spec_l02RowNorm_l0_T v60 v61 v62 s).run) s0
def spec_l02RowNorm_l0_E (v60 : Int) (v61 : Int) (v62 : List Nat) (s : Nat × Int) : Sd := ([.bptr (BR.root 0) [.int .i64 v60, .int .i64 v61, .bslc (BR.root 1) (.f32 v62)], .top, .top, .flt .f32 s.1, .int .i64 s.2, .top, .top, .top, .top, .top, .top, .top, .top, .top, .top, .top, .top, .top, .top, .top, .top, .top, .top, .top, .top, .top, .top, .top, .top, .top, .top, .top, .top, .top, .top], [])
def spec_l02RowNorm_l0_X (v60 : Int) (v61 : Int) (v62 : List Nat) (x : Nat) : Out := (.normal, [.top, .top, .top, .flt .f32 x, .top, .top, .top, .top, .top, .top, .top, .top, .top, .top, .top, .top, .top, .top, .top, .top, .top, .top, .top, .top, .top, .top, .top, .top, .top, .top, .top, .top, .top, .top, .top], [])
def spec_l02RowNorm_l0_kill : List Nat := [0, 1, 1, 0, 0, 1, 1, 1, 1, 1, 1, 1, 1, 1, 1, 1, 1, 1, 1, 1, 1, 1, 1, 1, 1, 1, 1, 1, 1, 1, 1, 1, 1, 1, 1]
def spec_l02RowNorm_l0_nx : Exit → List Nat
  | .exit 0 => [1, 1, 1, 0, 1, 1, 1, 1, 1, 1, 1, 1, 1, 1, 1, 1, 1, 1, 1, 1, 1, 1, 1, 1, 1, 1, 1, 1, 1, 1, 1, 1, 1, 1, 1]
  | .ret => [1, 1, 0, 1, 1, 1, 1, 1, 1, 1, 1, 1, 1, 1, 1, 1, 1, 1, 1, 1, 1, 1, 1, 1, 1, 1, 1, 1, 1, 1, 1, 1, 1, 1, 1]
  | _ => []
noncomputable def spec_l02RowNorm_LO (v60 : Int) (v61 : Int) (v62 : List Nat) : LOr := fun id e L =>
  match id with
  | 2 => .need (normA 0 spec_l02RowNorm_l2_kill e L = some (spec_l02RowNorm_l2_E v60 v61 v62 (gF (vAt e 3)) (gI (vAt e 4)) ((gF (vAt e 5)), (gI (vAt e 6))))) (.call (spec_l02RowNorm_l2_g v61 v62 (gF (vAt e 3)) (gI (vAt e 4)) ((gF (vAt e 5)), (gI (vAt e 6)))) fun x => .leaf (spec_l02RowNorm_l2_X v60 v61 v62 (gF (vAt e 3)) (gI (vAt e 4)) x))
  | 0 => .need (normA 0 spec_l02RowNorm_l0_kill e L = some (spec_l02RowNorm_l0_E v60 v61 v62 ((gF (vAt e 3)), (gI (vAt e 4))))) (.call (spec_l02RowNorm_l0_g v60 v61 v62 ((gF (vAt e 3)), (gI (vAt e 4)))) fun x => .leaf (spec_l02RowNorm_l0_X v60 v61 v62 x))
  | _ => .fail
noncomputable def spec_l02RowNorm_tab : List (FuncId × DFn × Bool) := [(115, spec_l02At_F, true), (157, spec_l02Size_F, true)]
theorem spec_l02RowNorm_hO : OrcOk Try.prog (tabD spec_l02RowNorm_tab) (tabM spec_l02RowNorm_tab) := tabD_cons spec_l02At_Fok (tabD_cons spec_l02Size_Fok (tabD_nil _))
theorem spec_l02RowNorm_l2_be (v60 : Int) (v61 : Int) (v62 : List Nat) (v117 : Nat) (v118 : Int) (s : Nat × Int) : bodyT TT (tabD spec_l02RowNorm_tab) (tabM spec_l02RowNorm_tab) (spec_l02RowNorm_LO v60 v61 v62) 0 spec_l02RowNorm_l2_kill spec_l02RowNorm_l2_nx (bodyOf Try.f137 2) 2 (spec_l02RowNorm_l2_E v60 v61 v62 v117 v118 s) = (spec_l02RowNorm_l2_T v61 v62 v117 v118 s).bind fun y => .leaf (outS (spec_l02RowNorm_l2_E v60 v61 v62 v117 v118) (spec_l02RowNorm_l2_X v60 v61 v62 v117 v118) y) := by kernel_rfl
theorem spec_l02RowNorm_l2_ok (v60 : Int) (v61 : Int) (v62 : List Nat) : LSound Try.prog 0 (spec_l02RowNorm_LO v60 v61 v62) 2 (bodyOf Try.f137 2) := by
  intro e L out h
  exact lo_ok (E := spec_l02RowNorm_l2_E v60 v61 v62 (gF (vAt e 3)) (gI (vAt e 4))) (gT := spec_l02RowNorm_l2_T v61 v62 (gF (vAt e 3)) (gI (vAt e 4))) (X := spec_l02RowNorm_l2_X v60 v61 v62 (gF (vAt e 3)) (gI (vAt e 4))) (s0 := ((gF (vAt e 5)), (gI (vAt e 6)))) tok spec_l02RowNorm_hO mixed (LoopsOk_eq (l := []) (by kernel_rfl) trivial) (spec_l02RowNorm_l2_be v60 v61 v62 (gF (vAt e 3)) (gI (vAt e 4))) rfl (by intro x; rfl) h
theorem spec_l02RowNorm_l0_be (v60 : Int) (v61 : Int) (v62 : List Nat) (s : Nat × Int) : bodyT TT (tabD spec_l02RowNorm_tab) (tabM spec_l02RowNorm_tab) (spec_l02RowNorm_LO v60 v61 v62) 0 spec_l02RowNorm_l0_kill spec_l02RowNorm_l0_nx (bodyOf Try.f137 0) 0 (spec_l02RowNorm_l0_E v60 v61 v62 s) = (spec_l02RowNorm_l0_T v60 v61 v62 s).bind fun y => .leaf (outS (spec_l02RowNorm_l0_E v60 v61 v62) (spec_l02RowNorm_l0_X v60 v61 v62) y) := by kernel_rfl
theorem spec_l02RowNorm_l0_ok (v60 : Int) (v61 : Int) (v62 : List Nat) : LSound Try.prog 0 (spec_l02RowNorm_LO v60 v61 v62) 0 (bodyOf Try.f137 0) := by
  intro e L out h
  exact lo_ok (E := spec_l02RowNorm_l0_E v60 v61 v62) (gT := spec_l02RowNorm_l0_T v60 v61 v62) (X := spec_l02RowNorm_l0_X v60 v61 v62) (s0 := ((gF (vAt e 3)), (gI (vAt e 4)))) tok spec_l02RowNorm_hO mixed (LoopsOk_eq (l := [(2, bodyOf Try.f137 2)]) (by kernel_rfl) ⟨spec_l02RowNorm_l2_ok v60 v61 v62, trivial⟩) (spec_l02RowNorm_l0_be v60 v61 v62) rfl (by intro x; rfl) h
noncomputable def spec_l02RowNorm_T (v60 : Int) (v61 : Int) (v62 : List Nat) : Tree (Nat) :=
  (.need (some (spec_l02RowNorm_l0_E v60 v61 v62 ((0 : Nat), (0 : Int))) = some (spec_l02RowNorm_l0_E v60 v61 v62 ((0 : Nat), (0 : Int)))) <|
  (.call (spec_l02RowNorm_l0_g v60 v61 v62 ((0 : Nat), (0 : Int))) fun v123 =>
  .leaf v123))

noncomputable def spec_l02RowNorm_g (v60 : Int) (v61 : Int) (v62 : List Nat) : Option (Nat) := (spec_l02RowNorm_T v60 v61 v62).run
def spec_l02RowNorm_enc (v60 : Int) (v61 : Int) (v62 : List Nat) (y : Nat) : Rs := (.flt .f32 y, [])
theorem spec_l02RowNorm_den (v60 : Int) (v61 : Int) (v62 : List Nat) : (den TT (tabD spec_l02RowNorm_tab) (tabM spec_l02RowNorm_tab) (spec_l02RowNorm_LO v60 v61 v62) (codeOf Try.f137) ([.bptr (BR.root 0) [.int .i64 v60, .int .i64 v61, .bslc (BR.root 1) (.f32 v62)]] ++ List.replicate (Try.f137.ntmps - ([.bptr (BR.root 0) [.int .i64 v60, .int .i64 v61, .bslc (BR.root 1) (.f32 v62)]] : List DV).length) .undef) []).bind (retD TT Try.f137.results.toList 0) = (spec_l02RowNorm_T v60 v61 v62).bind fun y => .leaf (spec_l02RowNorm_enc v60 v61 v62 y) := by kernel_rfl
theorem spec_l02RowNorm_fn (v60 : Int) (v61 : Int) (v62 : List Nat) (F : Fr) (hm : F.ids.length = 0) (h0 : St F [] F.H0) (hA : DVs.Ok F [] [.bptr (BR.root 0) [.int .i64 v60, .int .i64 v61, .bslc (BR.root 1) (.f32 v62)]]) {y : Nat} (hy : spec_l02RowNorm_g v60 v61 v62 = some y) : ∃ H', FnOk Try.prog 137 (DVs.av F [.bptr (BR.root 0) [.int .i64 v60, .int .i64 v61, .bslc (BR.root 1) (.f32 v62)]]) F.H0 ((spec_l02RowNorm_enc v60 v61 v62 y).1.av F) H' ∧ St F (spec_l02RowNorm_enc v60 v61 v62 y).2 H' ∧ (spec_l02RowNorm_enc v60 v61 v62 y).1.Ok F (spec_l02RowNorm_enc v60 v61 v62 y).2 :=
  fn_fin tok spec_l02RowNorm_hO mixed Try.func137 Try.call137 (by kernel_rfl) (LoopsOk_eq (l := [(0, bodyOf Try.f137 0)]) (by kernel_rfl) ⟨spec_l02RowNorm_l0_ok v60 v61 v62, trivial⟩) (spec_l02RowNorm_den v60 v61 v62) hy hm h0 hA
noncomputable def spec_l02RowNorm_F : DFn := fun args L =>
  match args with
  | [a1] =>
    optT (cellsOf L 3 a1) fun cs0 =>
    (match cs0 with
    | [.int .i64 v60, .int .i64 v61, a2] =>
    optT (rowF32 L a2) fun v62 =>
    .call (spec_l02RowNorm_g v60 v61 v62) fun y => .leaf (.flt .f32 y, L)
    | _ => .fail)
  | _ => .fail
theorem spec_l02RowNorm_Fok : COk Try.prog 137 spec_l02RowNorm_F true := by
  intro F L H args r L' hs ha hr
  unfold spec_l02RowNorm_F at hr
  split at hr
  · rename_i a1
    obtain ⟨cs0, hcp0, hr⟩ := optT_run hr
    split at hr
    · rename_i v60 v61 a2
      obtain ⟨v62, hv62, hr⟩ := optT_run hr
      simp only [Tree.run] at hr
      obtain ⟨y, hy, hr⟩ := Option.bind_eq_some_iff.1 hr
      simp only [Tree.run, Option.some.injEq, Prod.mk.injEq] at hr
      obtain ⟨rfl, rfl⟩ := hr
      exact call_ok0 hs (fun k => (([a1.av F, a2.av F] : List AV)[k]?).getD .top) [a1] [.bptr (BR.root 0) [.int .i64 v60, .int .i64 v61, .bslc (BR.root 1) (.f32 v62)]] (fun F' h0 hi hρ => ⟨by simp [DVs.av, DV.av, BR.av, hρ], spec_l02RowNorm_fn v60 v61 v62 F' (by rw [hi]; rfl) (st_nil hi) ⟨bptr_ok hi (by rw [h0]; simpa [DVs.av, DV.av, BR.av, hρ] using (cellsOf_ok hs (DVs.okAt ha 0 rfl) hcp0).1) ⟨trivial, trivial, bslc_ok hi (by rw [h0, hρ]; exact rowF32_ok hs (DVs.okAt (cellsOf_ok hs (DVs.okAt ha 0 rfl) hcp0).2 2 rfl) hv62), trivial⟩, trivial⟩ hy⟩) rfl
    · cases hr
  · cases hr
/-! spec.l02Number -/
noncomputable def spec_l02Number_LO (v125 : Nat) : LOr := fun id e L =>
  match id with
  | _ => .fail
noncomputable def spec_l02Number_tab : List (FuncId × DFn × Bool) := [(100, spec_l01Finite_F, true)]
theorem spec_l02Number_hO : OrcOk Try.prog (tabD spec_l02Number_tab) (tabM spec_l02Number_tab) := tabD_cons spec_l01Finite_Fok (tabD_nil _)
noncomputable def spec_l02Number_T (v125 : Nat) : Tree ((Unit) ⊕ (Nat)) :=
  (.br (!(spec_l01Finite_v v125)) (
   .leaf (.inl ())
  ) (
   .leaf (.inr v125)
  ))

noncomputable def spec_l02Number_g (v125 : Nat) : Option ((Unit) ⊕ (Nat)) := (spec_l02Number_T v125).run
def spec_l02Number_enc (v125 : Nat) (y : (Unit) ⊕ (Nat)) : Rs := (match y with | .inl y => (.tup [.flt .f32 (0 : Nat), .lit false], []) | .inr y => (.tup [.flt .f32 y, .lit true], []))
theorem spec_l02Number_den (v125 : Nat) : (den TT (tabD spec_l02Number_tab) (tabM spec_l02Number_tab) (spec_l02Number_LO v125) (codeOf Try.f116) ([.flt .f32 v125] ++ List.replicate (Try.f116.ntmps - ([.flt .f32 v125] : List DV).length) .undef) []).bind (retD TT Try.f116.results.toList 0) = (spec_l02Number_T v125).bind fun y => .leaf (spec_l02Number_enc v125 y) := by kernel_rfl
theorem spec_l02Number_fn (v125 : Nat) (F : Fr) (hm : F.ids.length = 0) (h0 : St F [] F.H0) (hA : DVs.Ok F [] [.flt .f32 v125]) {y : (Unit) ⊕ (Nat)} (hy : spec_l02Number_g v125 = some y) : ∃ H', FnOk Try.prog 116 (DVs.av F [.flt .f32 v125]) F.H0 ((spec_l02Number_enc v125 y).1.av F) H' ∧ St F (spec_l02Number_enc v125 y).2 H' ∧ (spec_l02Number_enc v125 y).1.Ok F (spec_l02Number_enc v125 y).2 :=
  fn_fin tok spec_l02Number_hO mixed Try.func116 Try.call116 (by kernel_rfl) (LoopsOk_eq (l := []) (by kernel_rfl) trivial) (spec_l02Number_den v125) hy hm h0 hA
def spec_l02Number_v (v125 : Nat) : (Unit) ⊕ (Nat) :=
  if (!(spec_l01Finite_v v125)) = true then (
   .inl ()
  ) else (
   .inr v125
  )
theorem spec_l02Number_tot (v125 : Nat) : spec_l02Number_g v125 = some (spec_l02Number_v v125) := by
  unfold spec_l02Number_g spec_l02Number_T spec_l02Number_v
  simp only [Tree.run]
  repeat' (first | rfl | split)
noncomputable def spec_l02Number_F : DFn := fun args L =>
  match args with
  | [.flt .f32 v125] =>
    .sum (spec_l02Number_v v125) (fun y0 => .leaf (.tup [.flt .f32 (0 : Nat), .lit false], L)) (fun z0 => .leaf (.tup [.flt .f32 z0, .lit true], L))
  | _ => .fail
theorem spec_l02Number_Fok : COk Try.prog 116 spec_l02Number_F true := by
  intro F L H args r L' hs ha hr
  unfold spec_l02Number_F at hr
  split at hr
  · rename_i v125
    have hy := spec_l02Number_tot v125
    generalize spec_l02Number_v v125 = y at hy hr
    cases y with
    | inl y =>
      simp only [Tree.run, Option.some.injEq, Prod.mk.injEq] at hr
      obtain ⟨rfl, rfl⟩ := hr
      exact call_ok0 hs (fun k => (([] : List AV)[k]?).getD .top) [.flt .f32 v125] [.flt .f32 v125] (fun F' h0 hi hρ => ⟨by simp [DVs.av, DV.av, BR.av, hρ], spec_l02Number_fn v125 F' (by rw [hi]; rfl) (st_nil hi) ⟨trivial, trivial⟩ hy⟩) rfl
    | inr y =>
      simp only [Tree.run, Option.some.injEq, Prod.mk.injEq] at hr
      obtain ⟨rfl, rfl⟩ := hr
      exact call_ok0 hs (fun k => (([] : List AV)[k]?).getD .top) [.flt .f32 v125] [.flt .f32 v125] (fun F' h0 hi hρ => ⟨by simp [DVs.av, DV.av, BR.av, hρ], spec_l02Number_fn v125 F' (by rw [hi]; rfl) (st_nil hi) ⟨trivial, trivial⟩ hy⟩) rfl
  · cases hr
/-! spec.RowNorm -/
noncomputable def spec_RowNorm_LO (v56 : Int) (v57 : Int) (v58 : List Nat) : LOr := fun id e L =>
  match id with
  | _ => .fail
noncomputable def spec_RowNorm_tab : List (FuncId × DFn × Bool) := [(99, spec_l02Is_F, true), (137, spec_l02RowNorm_F, true), (116, spec_l02Number_F, true)]
theorem spec_RowNorm_hO : OrcOk Try.prog (tabD spec_RowNorm_tab) (tabM spec_RowNorm_tab) := tabD_cons spec_l02Is_Fok (tabD_cons spec_l02RowNorm_Fok (tabD_cons spec_l02Number_Fok (tabD_nil _)))
noncomputable def spec_RowNorm_T (v56 : Int) (v57 : Int) (v58 : List Nat) : Tree ((Unit) ⊕ (Nat)) :=
  (.call (spec_l02Is_g v56 v57 v58) fun v59 =>
  (.br (!v59) (
   .leaf (.inl ())
  ) (
   (.call (spec_l02RowNorm_g v56 v57 v58) fun v124 =>
   (.sum (spec_l02Number_v v124) (fun v126 =>
    .leaf (.inl ())
   ) (fun v127 =>
    .leaf (.inr v127)
   )))
  )))

noncomputable def spec_RowNorm_g (v56 : Int) (v57 : Int) (v58 : List Nat) : Option ((Unit) ⊕ (Nat)) := (spec_RowNorm_T v56 v57 v58).run
def spec_RowNorm_enc (v56 : Int) (v57 : Int) (v58 : List Nat) (y : (Unit) ⊕ (Nat)) : Rs := (match y with | .inl y => (.tup [.flt .f32 (0 : Nat), .lit false], []) | .inr y => (.tup [.flt .f32 y, .lit true], []))
theorem spec_RowNorm_den (v56 : Int) (v57 : Int) (v58 : List Nat) : (den TT (tabD spec_RowNorm_tab) (tabM spec_RowNorm_tab) (spec_RowNorm_LO v56 v57 v58) (codeOf Try.f84) ([.agg [.int .i64 v56, .int .i64 v57, .bslc (BR.root 0) (.f32 v58)]] ++ List.replicate (Try.f84.ntmps - ([.agg [.int .i64 v56, .int .i64 v57, .bslc (BR.root 0) (.f32 v58)]] : List DV).length) .undef) []).bind (retD TT Try.f84.results.toList 0) = (spec_RowNorm_T v56 v57 v58).bind fun y => .leaf (spec_RowNorm_enc v56 v57 v58 y) := by kernel_rfl
theorem spec_RowNorm_fn (v56 : Int) (v57 : Int) (v58 : List Nat) (F : Fr) (hm : F.ids.length = 0) (h0 : St F [] F.H0) (hA : DVs.Ok F [] [.agg [.int .i64 v56, .int .i64 v57, .bslc (BR.root 0) (.f32 v58)]]) {y : (Unit) ⊕ (Nat)} (hy : spec_RowNorm_g v56 v57 v58 = some y) : ∃ H', FnOk Try.prog 84 (DVs.av F [.agg [.int .i64 v56, .int .i64 v57, .bslc (BR.root 0) (.f32 v58)]]) F.H0 ((spec_RowNorm_enc v56 v57 v58 y).1.av F) H' ∧ St F (spec_RowNorm_enc v56 v57 v58 y).2 H' ∧ (spec_RowNorm_enc v56 v57 v58 y).1.Ok F (spec_RowNorm_enc v56 v57 v58 y).2 :=
  fn_fin tok spec_RowNorm_hO mixed Try.func84 Try.call84 (by kernel_rfl) (LoopsOk_eq (l := []) (by kernel_rfl) trivial) (spec_RowNorm_den v56 v57 v58) hy hm h0 hA
noncomputable def spec_RowNorm_F : DFn := fun args L =>
  match args with
  | [.agg [.int .i64 v56, .int .i64 v57, a1]] =>
    optT (rowF32 L a1) fun v58 =>
    .call (spec_RowNorm_g v56 v57 v58) fun y => .sum y (fun y0 => .leaf (.tup [.flt .f32 (0 : Nat), .lit false], L)) (fun z0 => .leaf (.tup [.flt .f32 z0, .lit true], L))
  | _ => .fail
theorem spec_RowNorm_Fok : COk Try.prog 84 spec_RowNorm_F true := by
  intro F L H args r L' hs ha hr
  unfold spec_RowNorm_F at hr
  split at hr
  · rename_i v56 v57 a1
    obtain ⟨v58, hv58, hr⟩ := optT_run hr
    simp only [Tree.run] at hr
    obtain ⟨y, hy, hr⟩ := Option.bind_eq_some_iff.1 hr
    cases y with
    | inl y =>
      simp only [Tree.run, Option.some.injEq, Prod.mk.injEq] at hr
      obtain ⟨rfl, rfl⟩ := hr
      exact call_ok0 hs (fun k => (([a1.av F] : List AV)[k]?).getD .top) [.agg [.int .i64 v56, .int .i64 v57, a1]] [.agg [.int .i64 v56, .int .i64 v57, .bslc (BR.root 0) (.f32 v58)]] (fun F' h0 hi hρ => ⟨by simp [DVs.av, DV.av, BR.av, hρ], spec_RowNorm_fn v56 v57 v58 F' (by rw [hi]; rfl) (st_nil hi) ⟨⟨trivial, trivial, bslc_ok hi (by rw [h0, hρ]; exact rowF32_ok hs (DVs.okAt (DVs.okAt ha 0 rfl) 2 rfl) hv58), trivial⟩, trivial⟩ hy⟩) rfl
    | inr y =>
      simp only [Tree.run, Option.some.injEq, Prod.mk.injEq] at hr
      obtain ⟨rfl, rfl⟩ := hr
      exact call_ok0 hs (fun k => (([a1.av F] : List AV)[k]?).getD .top) [.agg [.int .i64 v56, .int .i64 v57, a1]] [.agg [.int .i64 v56, .int .i64 v57, .bslc (BR.root 0) (.f32 v58)]] (fun F' h0 hi hρ => ⟨by simp [DVs.av, DV.av, BR.av, hρ], spec_RowNorm_fn v56 v57 v58 F' (by rw [hi]; rfl) (st_nil hi) ⟨⟨trivial, trivial, bslc_ok hi (by rw [h0, hρ]; exact rowF32_ok hs (DVs.okAt (DVs.okAt ha 0 rfl) 2 rfl) hv58), trivial⟩, trivial⟩ hy⟩) rfl
  · cases hr
/-! spec.l04Half -/
noncomputable def spec_l04Half_l0_T (s : Int × (List Nat)) : Tree ((Int × (List Nat)) ⊕ ((List Nat))) :=
  (.br (decide (s.1 < (((s.2).length : Nat) : Int))) (
   (.grd (inb s.1 ((s.2).length)) <|
   (.grd (inb s.1 ((s.2).length)) <|
   .leaf (.inl (IntKind.i64.wrap (s.1 + (1 : Int)), List.set s.2 (Int.toNat s.1) (fmul .f32 (1056964608 : Nat) (nth s.2 (Int.toNat s.1)))))))
  ) (
   .leaf (.inr s.2)
  ))

noncomputable def spec_l04Half_l0_g (s0 : Int × (List Nat)) : Option ((List Nat)) := whileM (fun s => (spec_l04Half_l0_T s).run) s0
def spec_l04Half_l0_E (v135 : Int) (v136 : Int) (v137 : List Nat) (s : Int × (List Nat)) : Sd := ([.ptr 0 (0 : Nat) 0 (3 : Nat), .top, .int .i64 s.1, .top, .top, .top, .top, .top, .top, .top, .top, .top, .top, .top, .top, .top, .top, .top, .top, .top, .top, .top, .top, .top, .top, .top], [.gen [.int .i64 v135, .int .i64 v136, .own 1 0 ((s.2).length)] false 0, .row (.f32 s.2) 0])
def spec_l04Half_l0_X (v135 : Int) (v136 : Int) (v137 : List Nat) (x : (List Nat)) : Out := (.normal, [.top, .top, .top, .top, .top, .top, .top, .top, .top, .top, .top, .top, .top, .top, .top, .top, .top, .top, .top, .top, .top, .top, .top, .top, .top, .top], [.gen [.int .i64 v135, .int .i64 v136, .own 1 0 ((x).length)] false 0, .row (.f32 x) 0])
def spec_l04Half_l0_kill : List Nat := [0, 1, 0, 1, 1, 1, 1, 1, 1, 1, 1, 1, 1, 1, 1, 1, 1, 1, 1, 1, 1, 1, 1, 1, 1, 1]
def spec_l04Half_l0_nx : Exit → List Nat
  | .exit 0 => [1, 1, 1, 1, 1, 1, 1, 1, 1, 1, 1, 1, 1, 1, 1, 1, 1, 1, 1, 1, 1, 1, 1, 1, 1, 1]
  | .ret => [1, 1, 1, 1, 1, 1, 1, 1, 1, 1, 1, 1, 1, 1, 1, 1, 1, 1, 1, 1, 1, 1, 1, 1, 1, 1]
  | _ => []
noncomputable def spec_l04Half_LO (v135 : Int) (v136 : Int) (v137 : List Nat) : LOr := fun id e L =>
  match id with
  | 0 => .need (normA 2 spec_l04Half_l0_kill e L = some (spec_l04Half_l0_E v135 v136 v137 ((gI (vAt e 2)), (gRF L (cAt L (vAt e 0) 2))))) (.call (spec_l04Half_l0_g ((gI (vAt e 2)), (gRF L (cAt L (vAt e 0) 2)))) fun x => .leaf (spec_l04Half_l0_X v135 v136 v137 x))
  | _ => .fail
noncomputable def spec_l04Half_tab : List (FuncId × DFn × Bool) := []
theorem spec_l04Half_hO : OrcOk Try.prog (tabD spec_l04Half_tab) (tabM spec_l04Half_tab) := tabD_nil _
theorem spec_l04Half_l0_be (v135 : Int) (v136 : Int) (v137 : List Nat) (s : Int × (List Nat)) : bodyT TT (tabD spec_l04Half_tab) (tabM spec_l04Half_tab) (spec_l04Half_LO v135 v136 v137) 2 spec_l04Half_l0_kill spec_l04Half_l0_nx (bodyOf Try.f85 0) 0 (spec_l04Half_l0_E v135 v136 v137 s) = (spec_l04Half_l0_T s).bind fun y => .leaf (outS (spec_l04Half_l0_E v135 v136 v137) (spec_l04Half_l0_X v135 v136 v137) y) := by kernel_rfl
theorem spec_l04Half_l0_ok (v135 : Int) (v136 : Int) (v137 : List Nat) : LSound Try.prog 2 (spec_l04Half_LO v135 v136 v137) 0 (bodyOf Try.f85 0) := by
  intro e L out h
  exact lo_ok (E := spec_l04Half_l0_E v135 v136 v137) (gT := spec_l04Half_l0_T) (X := spec_l04Half_l0_X v135 v136 v137) (s0 := ((gI (vAt e 2)), (gRF L (cAt L (vAt e 0) 2)))) tok spec_l04Half_hO mixed (LoopsOk_eq (l := []) (by kernel_rfl) trivial) (spec_l04Half_l0_be v135 v136 v137) rfl (by intro x; rfl) h
noncomputable def spec_l04Half_T (v135 : Int) (v136 : Int) (v137 : List Nat) : Tree (Int × Int × (List Nat)) :=
  (.need (some (spec_l04Half_l0_E v135 v136 v137 ((0 : Int), v137)) = some (spec_l04Half_l0_E v135 v136 v137 ((0 : Int), v137))) <|
  (.call (spec_l04Half_l0_g ((0 : Int), v137)) fun v143 =>
  .leaf (v135, v136, v143)))

noncomputable def spec_l04Half_g (v135 : Int) (v136 : Int) (v137 : List Nat) : Option (Int × Int × (List Nat)) := (spec_l04Half_T v135 v136 v137).run
def spec_l04Half_enc (v135 : Int) (v136 : Int) (v137 : List Nat) (y : Int × Int × (List Nat)) : Rs := (.tup [], [.gen [.int .i64 y.1, .int .i64 y.2.1, .own 1 0 ((y.2.2).length)] false 0, .row (.f32 y.2.2) 0])
theorem spec_l04Half_den (v135 : Int) (v136 : Int) (v137 : List Nat) : (den TT (tabD spec_l04Half_tab) (tabM spec_l04Half_tab) (spec_l04Half_LO v135 v136 v137) (codeOf Try.f85) ([.ptr 0 (0 : Nat) 0 (3 : Nat)] ++ List.replicate (Try.f85.ntmps - ([.ptr 0 (0 : Nat) 0 (3 : Nat)] : List DV).length) .undef) [.gen [.int .i64 v135, .int .i64 v136, .own 1 0 v137.length] false 0, .row (.f32 v137) 0]).bind (retD TT Try.f85.results.toList 2) = (spec_l04Half_T v135 v136 v137).bind fun y => .leaf (spec_l04Half_enc v135 v136 v137 y) := by kernel_rfl
theorem spec_l04Half_fn (v135 : Int) (v136 : Int) (v137 : List Nat) (F : Fr) (hm : F.ids.length = 2) (h0 : St F [.gen [.int .i64 v135, .int .i64 v136, .own 1 0 v137.length] false 0, .row (.f32 v137) 0] F.H0) (hA : DVs.Ok F [.gen [.int .i64 v135, .int .i64 v136, .own 1 0 v137.length] false 0, .row (.f32 v137) 0] [.ptr 0 (0 : Nat) 0 (3 : Nat)]) {y : Int × Int × (List Nat)} (hy : spec_l04Half_g v135 v136 v137 = some y) : ∃ H', FnOk Try.prog 85 (DVs.av F [.ptr 0 (0 : Nat) 0 (3 : Nat)]) F.H0 ((spec_l04Half_enc v135 v136 v137 y).1.av F) H' ∧ St F (spec_l04Half_enc v135 v136 v137 y).2 H' ∧ (spec_l04Half_enc v135 v136 v137 y).1.Ok F (spec_l04Half_enc v135 v136 v137 y).2 :=
  fn_fin tok spec_l04Half_hO mixed Try.func85 Try.call85 (by kernel_rfl) (LoopsOk_eq (l := [(0, bodyOf Try.f85 0)]) (by kernel_rfl) ⟨spec_l04Half_l0_ok v135 v136 v137, trivial⟩) (spec_l04Half_den v135 v136 v137) hy hm h0 hA
noncomputable def spec_l04Half_F : DFn := fun args L =>
  match args with
  | [a1] =>
    optT (genOf L 3 false a1) fun qg0 =>
    (match qg0.2 with
    | [.int .i64 v135, .int .i64 v136, a2] =>
    optT (ownF32 L a2) fun qv137 =>
    (match sepB [qg0.1, qv137.1] [] with
    | true =>
    .call (spec_l04Half_g v135 v136 qv137.2) fun y => .grd (decide (y.2.2.length = qv137.2.length)) (.leaf (.tup [], setB L [(qg0.1, .gen [.int .i64 y.1, .int .i64 y.2.1, .own qv137.1 (verAt L qv137.1) ((y.2.2).length)] false (verAt L qg0.1)), (qv137.1, .row (.f32 y.2.2) (verAt L qv137.1))] ++ []))
    | false => .fail)
    | _ => .fail)
  | _ => .fail
theorem spec_l04Half_Fok : COk Try.prog 85 spec_l04Half_F false := by
  intro F L H args r L' hs ha hr
  unfold spec_l04Half_F at hr
  split at hr
  · rename_i a1
    obtain ⟨⟨jg0, cg0⟩, hg0, hr⟩ := optT_run hr
    simp only at hr
    split at hr
    · rename_i v135 v136 a2
      obtain ⟨hge0, hgu0, hga0, hgn0, hgc0, hgf0⟩ := genOf_spec hs (DVs.okAt ha 0 rfl) hg0
      obtain ⟨⟨jv137, v137⟩, hqv137, hr⟩ := optT_run hr
      simp only at hr
      split at hr
      · rename_i hsep
        obtain ⟨hnd, hsepv⟩ := sepB_spec hsep
        simp only [Tree.run] at hr
        obtain ⟨y, hy, hr⟩ := Option.bind_eq_some_iff.1 hr
        try simp only [Tree.run] at hr
        obtain ⟨hl0, hr⟩ := ite_run hr
        simp only [Option.some.injEq, Prod.mk.injEq] at hr
        obtain ⟨rfl, rfl⟩ := hr
        obtain ⟨hr1, hu1, ha1, hb1⟩ := (ownR_spec (DVs.okAt hgc0 2 rfl) (ownF32_or hqv137))
        exact mutG_ok hs [a1, a2] ⟨(DVs.okAt ha 0 rfl), (DVs.okAt hgc0 2 rfl), trivial⟩ [a1] [.ptr 0 (0 : Nat) 0 (3 : Nat)] [jg0, jv137] [verAt L jg0, verAt L jv137] [.gen [.int .i64 v135, .int .i64 v136, .own 1 0 v137.length] false 0, .row (.f32 v137) 0] [.gen [.int .i64 y.1, .int .i64 y.2.1, .own 1 0 ((y.2.2).length)] false 0, .row (.f32 y.2.2) 0] [.gen [.int .i64 y.1, .int .i64 y.2.1, .own jv137 (verAt L jv137) ((y.2.2).length)] false (verAt L jg0), .row (.f32 y.2.2) (verAt L jv137)] [] hnd rfl rfl (fun j hj => by
            simp at hj
            rcases hj with rfl | rfl
            · exact ex_lt hge0
            · exact ex_lt hr1) (fun j hj => by
            simp at hj
            rcases hj with rfl | rfl
            · exact reach_refs (by simp [DVs.refs, DV.refs, hgu0])
            · exact reach_1 (deep_mem (by simp [DVs.refs, DV.refs, hgu0]) hge0 (by simp [DVs.refs, DV.refs, hu1]))) (fun F' h0 hi hρ ab hS => by
            have ab0 := ab 0 _ rfl; have ab1 := ab 1 _ rfl;
            refine ⟨fun i j b' h1 h2 => ?_, by simp [DBlk.blk, DVs.av, DV.av, BR.av, hρ, Row.len, hga0, ab0, ha1, ab1], fun hst => spec_l04Half_fn v135 v136 v137 F' (by rw [hi]; rfl) hst ⟨⟨_, rfl, Nat.le_refl _, by decide, Nat.le_refl _, fun _ => rfl⟩, trivial⟩ hy⟩
            rcases i with _ | _ | i
            · simp at h1 h2; subst h1; subst h2; obtain ⟨ver_, hv_⟩ := hge0; exact ⟨_, hv_, by simp [DBlk.blk, DVs.av, DV.av, BR.av, hρ, Row.len, hga0, ab0, ha1, ab1], ⟨⟨trivial, trivial, ⟨_, rfl, Nat.le_refl _, Nat.le_refl _, fun _ => rfl, (ownR_spec (DVs.okAt hgc0 2 rfl) (ownF32_or hqv137)).2.2.2⟩, trivial⟩, fun hf => by cases hf⟩⟩
            · simp at h1 h2; subst h1; subst h2; obtain ⟨ver_, hv_⟩ := hr1; exact ⟨_, hv_, rfl, hb1⟩
            · simp at h1) rfl rfl (fun i j b b' h1 h2 h3 => by
            rcases i with _ | _ | i
            · simp at h1; subst h1; cases h3; exact growG hge0 rfl h2
            · simp at h1; subst h1; cases h3; exact growK hr1 (of_decide_eq_true hl0) h2
            · simp at h1)
      · cases hr
    · cases hr
  · cases hr
/-! spec.l02Zero -/
noncomputable def spec_l02Zero_LO (v165 : Int) (v166 : Int) : LOr := fun id e L =>
  match id with
  | _ => .fail
noncomputable def spec_l02Zero_tab : List (FuncId × DFn × Bool) := []
theorem spec_l02Zero_hO : OrcOk Try.prog (tabD spec_l02Zero_tab) (tabM spec_l02Zero_tab) := tabD_nil _
noncomputable def spec_l02Zero_T (v165 : Int) (v166 : Int) : Tree (Int × Int) :=
  (.need (IntKind.i64.wrap (v165 * v166) = IntKind.i64.wrap (v165 * v166)) <|
  (.grd (inb (IntKind.i64.wrap (v165 * v166)) (maxN + 1)) <|
  .leaf (v165, v166)))

noncomputable def spec_l02Zero_g (v165 : Int) (v166 : Int) : Option (Int × Int) := (spec_l02Zero_T v165 v166).run
def spec_l02Zero_enc (v165 : Int) (v166 : Int) (y : Int × Int) : Rs := (.agg [.int .i64 y.1, .int .i64 y.2, .own 0 0 ((List.replicate (Int.toNat (IntKind.i64.wrap (v165 * v166))) (0 : Nat)).length)], [.row (.f32 (List.replicate (Int.toNat (IntKind.i64.wrap (v165 * v166))) (0 : Nat))) 0])
theorem spec_l02Zero_den (v165 : Int) (v166 : Int) : (den TT (tabD spec_l02Zero_tab) (tabM spec_l02Zero_tab) (spec_l02Zero_LO v165 v166) (codeOf Try.f138) ([.int .i64 v165, .int .i64 v166] ++ List.replicate (Try.f138.ntmps - ([.int .i64 v165, .int .i64 v166] : List DV).length) .undef) []).bind (retD TT Try.f138.results.toList 0) = (spec_l02Zero_T v165 v166).bind fun y => .leaf (spec_l02Zero_enc v165 v166 y) := by kernel_rfl
theorem spec_l02Zero_fn (v165 : Int) (v166 : Int) (F : Fr) (hm : F.ids.length = 0) (h0 : St F [] F.H0) (hA : DVs.Ok F [] [.int .i64 v165, .int .i64 v166]) {y : Int × Int} (hy : spec_l02Zero_g v165 v166 = some y) : ∃ H', FnOk Try.prog 138 (DVs.av F [.int .i64 v165, .int .i64 v166]) F.H0 ((spec_l02Zero_enc v165 v166 y).1.av F) H' ∧ St F (spec_l02Zero_enc v165 v166 y).2 H' ∧ (spec_l02Zero_enc v165 v166 y).1.Ok F (spec_l02Zero_enc v165 v166 y).2 :=
  fn_fin tok spec_l02Zero_hO mixed Try.func138 Try.call138 (by kernel_rfl) (LoopsOk_eq (l := []) (by kernel_rfl) trivial) (spec_l02Zero_den v165 v166) hy hm h0 hA
noncomputable def spec_l02Zero_F : DFn := fun args L =>
  match args with
  | [.int .i64 v165, .int .i64 v166] =>
    .call (spec_l02Zero_g v165 v166) fun y => .leaf (.agg [.int .i64 y.1, .int .i64 y.2, .own (L.length + 0) 0 ((List.replicate (Int.toNat (IntKind.i64.wrap (v165 * v166))) (0 : Nat)).length)], L ++ [.row (.f32 (List.replicate (Int.toNat (IntKind.i64.wrap (v165 * v166))) (0 : Nat))) 0])
  | _ => .fail
theorem spec_l02Zero_Fok : COk Try.prog 138 spec_l02Zero_F true := by
  intro F L H args r L' hs ha hr
  unfold spec_l02Zero_F at hr
  split at hr
  · rename_i v165 v166
    simp only [Tree.run] at hr
    obtain ⟨y, hy, hr⟩ := Option.bind_eq_some_iff.1 hr
    simp only [Tree.run, Option.some.injEq, Prod.mk.injEq] at hr
    obtain ⟨rfl, rfl⟩ := hr
    exact call_ok1 hs (fun k => (([] : List AV)[k]?).getD .top) [.int .i64 v165, .int .i64 v166] [.int .i64 v165, .int .i64 v166] (fun F' h0 hi hρ => ⟨by simp [DVs.av, DV.av, BR.av, hρ], spec_l02Zero_fn v165 v166 F' (by rw [hi]; rfl) (st_nil hi) ⟨trivial, trivial, trivial⟩ hy⟩) rfl rfl
  · cases hr
/-! spec.l02Unit -/
noncomputable def spec_l02Unit_l0_T (v164 : Int) (v176 : Int) (v177 : Int) (s : Int × (List Nat)) : Tree ((Int × (List Nat)) ⊕ ((List Nat))) :=
  (.br (decide (s.1 < v164)) (
   (.grd (inb (IntKind.i64.wrap ((IntKind.i64.wrap (s.1 * v164)) + s.1)) ((s.2).length)) <|
   .leaf (.inl (IntKind.i64.wrap (s.1 + (1 : Int)), List.set s.2 (Int.toNat (IntKind.i64.wrap ((IntKind.i64.wrap (s.1 * v164)) + s.1))) (1065353216 : Nat))))
  ) (
   .leaf (.inr s.2)
  ))

noncomputable def spec_l02Unit_l0_g (v164 : Int) (v176 : Int) (v177 : Int) (s0 : Int × (List Nat)) : Option ((List Nat)) := whileM (fun s => (spec_l02Unit_l0_T v164 v176 v177 s).run) s0
def spec_l02Unit_l0_E (v164 : Int) (v176 : Int) (v177 : Int) (s : Int × (List Nat)) : Sd := ([.int .i64 v164, .top, .ptr 0 (0 : Nat) 0 (3 : Nat), .ptr 1 (0 : Nat) 0 (3 : Nat), .int .i64 s.1, .top, .top, .top, .top, .top, .top, .top, .top, .top, .top, .top, .top, .top, .top, .top, .top, .top], [.gen [.int .i64 (0 : Int), .int .i64 (0 : Int), .nilslc] false 0, .gen [.int .i64 v176, .int .i64 v177, .own 2 0 ((s.2).length)] false 0, .row (.f32 s.2) 0])
def spec_l02Unit_l0_X (v164 : Int) (v176 : Int) (v177 : Int) (x : (List Nat)) : Out := (.normal, [.top, .top, .ptr 0 (0 : Nat) 0 (3 : Nat), .ptr 1 (0 : Nat) 0 (3 : Nat), .top, .top, .top, .top, .top, .top, .top, .top, .top, .top, .top, .top, .top, .top, .top, .top, .top, .top], [.gen [.int .i64 (0 : Int), .int .i64 (0 : Int), .nilslc] false 0, .gen [.int .i64 v176, .int .i64 v177, .own 2 0 ((x).length)] false 0, .row (.f32 x) 0])
def spec_l02Unit_l0_kill : List Nat := [0, 1, 0, 0, 0, 1, 1, 1, 1, 1, 1, 1, 1, 1, 1, 1, 1, 1, 1, 1, 1, 1]
def spec_l02Unit_l0_nx : Exit → List Nat
  | .exit 0 => [1, 1, 0, 0, 1, 1, 1, 1, 1, 1, 1, 1, 1, 1, 1, 1, 1, 1, 1, 1, 1, 1]
  | .ret => [1, 1, 0, 1, 1, 1, 1, 1, 1, 1, 1, 1, 1, 1, 1, 1, 1, 1, 1, 1, 1, 1]
  | _ => []
noncomputable def spec_l02Unit_LO (v164 : Int) : LOr := fun id e L =>
  match id with
  | 0 => .need (normA 0 spec_l02Unit_l0_kill e L = some (spec_l02Unit_l0_E v164 (gI (cAt L (vAt e 3) 0)) (gI (cAt L (vAt e 3) 1)) ((gI (vAt e 4)), (gRF L (cAt L (vAt e 3) 2))))) (.call (spec_l02Unit_l0_g v164 (gI (cAt L (vAt e 3) 0)) (gI (cAt L (vAt e 3) 1)) ((gI (vAt e 4)), (gRF L (cAt L (vAt e 3) 2)))) fun x => .leaf (spec_l02Unit_l0_X v164 (gI (cAt L (vAt e 3) 0)) (gI (cAt L (vAt e 3) 1)) x))
  | _ => .fail
noncomputable def spec_l02Unit_tab : List (FuncId × DFn × Bool) := [(138, spec_l02Zero_F, true)]
theorem spec_l02Unit_hO : OrcOk Try.prog (tabD spec_l02Unit_tab) (tabM spec_l02Unit_tab) := tabD_cons spec_l02Zero_Fok (tabD_nil _)
theorem spec_l02Unit_l0_be (v164 : Int) (v176 : Int) (v177 : Int) (s : Int × (List Nat)) : bodyT TT (tabD spec_l02Unit_tab) (tabM spec_l02Unit_tab) (spec_l02Unit_LO v164) 0 spec_l02Unit_l0_kill spec_l02Unit_l0_nx (bodyOf Try.f86 0) 0 (spec_l02Unit_l0_E v164 v176 v177 s) = (spec_l02Unit_l0_T v164 v176 v177 s).bind fun y => .leaf (outS (spec_l02Unit_l0_E v164 v176 v177) (spec_l02Unit_l0_X v164 v176 v177) y) := by kernel_rfl
theorem spec_l02Unit_l0_ok (v164 : Int) : LSound Try.prog 0 (spec_l02Unit_LO v164) 0 (bodyOf Try.f86 0) := by
  intro e L out h
  exact lo_ok (E := spec_l02Unit_l0_E v164 (gI (cAt L (vAt e 3) 0)) (gI (cAt L (vAt e 3) 1))) (gT := spec_l02Unit_l0_T v164 (gI (cAt L (vAt e 3) 0)) (gI (cAt L (vAt e 3) 1))) (X := spec_l02Unit_l0_X v164 (gI (cAt L (vAt e 3) 0)) (gI (cAt L (vAt e 3) 1))) (s0 := ((gI (vAt e 4)), (gRF L (cAt L (vAt e 3) 2)))) tok spec_l02Unit_hO mixed (LoopsOk_eq (l := []) (by kernel_rfl) trivial) (spec_l02Unit_l0_be v164 (gI (cAt L (vAt e 3) 0)) (gI (cAt L (vAt e 3) 1))) rfl (by intro x; rfl) h
noncomputable def spec_l02Unit_T (v164 : Int) : Tree (Int × Int × (List Nat)) :=
  (.call (spec_l02Zero_g v164 v164) fun v167 =>
  (.need (some (spec_l02Unit_l0_E v164 v167.1 v167.2 ((0 : Int), List.replicate (Int.toNat (IntKind.i64.wrap (v164 * v164))) (0 : Nat))) = some (spec_l02Unit_l0_E v164 v167.1 v167.2 ((0 : Int), List.replicate (Int.toNat (IntKind.i64.wrap (v164 * v164))) (0 : Nat)))) <|
  (.call (spec_l02Unit_l0_g v164 v167.1 v167.2 ((0 : Int), List.replicate (Int.toNat (IntKind.i64.wrap (v164 * v164))) (0 : Nat))) fun v179 =>
  .leaf (v167.1, v167.2, v179))))

noncomputable def spec_l02Unit_g (v164 : Int) : Option (Int × Int × (List Nat)) := (spec_l02Unit_T v164).run
def spec_l02Unit_enc (v164 : Int) (y : Int × Int × (List Nat)) : Rs := (.agg [.int .i64 y.1, .int .i64 y.2.1, .own 0 0 ((y.2.2).length)], [.row (.f32 y.2.2) 0])
theorem spec_l02Unit_den (v164 : Int) : (den TT (tabD spec_l02Unit_tab) (tabM spec_l02Unit_tab) (spec_l02Unit_LO v164) (codeOf Try.f86) ([.int .i64 v164] ++ List.replicate (Try.f86.ntmps - ([.int .i64 v164] : List DV).length) .undef) []).bind (retD TT Try.f86.results.toList 0) = (spec_l02Unit_T v164).bind fun y => .leaf (spec_l02Unit_enc v164 y) := by kernel_rfl
theorem spec_l02Unit_fn (v164 : Int) (F : Fr) (hm : F.ids.length = 0) (h0 : St F [] F.H0) (hA : DVs.Ok F [] [.int .i64 v164]) {y : Int × Int × (List Nat)} (hy : spec_l02Unit_g v164 = some y) : ∃ H', FnOk Try.prog 86 (DVs.av F [.int .i64 v164]) F.H0 ((spec_l02Unit_enc v164 y).1.av F) H' ∧ St F (spec_l02Unit_enc v164 y).2 H' ∧ (spec_l02Unit_enc v164 y).1.Ok F (spec_l02Unit_enc v164 y).2 :=
  fn_fin tok spec_l02Unit_hO mixed Try.func86 Try.call86 (by kernel_rfl) (LoopsOk_eq (l := [(0, bodyOf Try.f86 0)]) (by kernel_rfl) ⟨spec_l02Unit_l0_ok v164, trivial⟩) (spec_l02Unit_den v164) hy hm h0 hA
noncomputable def spec_l02Unit_F : DFn := fun args L =>
  match args with
  | [.int .i64 v164] =>
    .call (spec_l02Unit_g v164) fun y => .leaf (.agg [.int .i64 y.1, .int .i64 y.2.1, .own (L.length + 0) 0 ((y.2.2).length)], L ++ [.row (.f32 y.2.2) 0])
  | _ => .fail
theorem spec_l02Unit_Fok : COk Try.prog 86 spec_l02Unit_F true := by
  intro F L H args r L' hs ha hr
  unfold spec_l02Unit_F at hr
  split at hr
  · rename_i v164
    simp only [Tree.run] at hr
    obtain ⟨y, hy, hr⟩ := Option.bind_eq_some_iff.1 hr
    simp only [Tree.run, Option.some.injEq, Prod.mk.injEq] at hr
    obtain ⟨rfl, rfl⟩ := hr
    exact call_ok1 hs (fun k => (([] : List AV)[k]?).getD .top) [.int .i64 v164] [.int .i64 v164] (fun F' h0 hi hρ => ⟨by simp [DVs.av, DV.av, BR.av, hρ], spec_l02Unit_fn v164 F' (by rw [hi]; rfl) (st_nil hi) ⟨trivial, trivial⟩ hy⟩) rfl rfl
  · cases hr
/-! spec.l02Fit -/
noncomputable def spec_l02Fit_LO (v199 : Int) (v200 : Int) (v201 : List Nat) (v202 : Int) (v203 : Int) (v204 : List Nat) : LOr := fun id e L =>
  match id with
  | _ => .fail
noncomputable def spec_l02Fit_tab : List (FuncId × DFn × Bool) := [(99, spec_l02Is_F, true)]
theorem spec_l02Fit_hO : OrcOk Try.prog (tabD spec_l02Fit_tab) (tabM spec_l02Fit_tab) := tabD_cons spec_l02Is_Fok (tabD_nil _)
noncomputable def spec_l02Fit_T (v199 : Int) (v200 : Int) (v201 : List Nat) (v202 : Int) (v203 : Int) (v204 : List Nat) : Tree (Bool) :=
  (.call (spec_l02Is_g v199 v200 v201) fun v205 =>
  (.br v205 (
   (.call (spec_l02Is_g v202 v203 v204) fun v206 =>
   (.br v206 (
    .leaf (decide (v200 = v202))
   ) (
    .leaf false
   )))
  ) (
   .leaf false
  )))

noncomputable def spec_l02Fit_g (v199 : Int) (v200 : Int) (v201 : List Nat) (v202 : Int) (v203 : Int) (v204 : List Nat) : Option (Bool) := (spec_l02Fit_T v199 v200 v201 v202 v203 v204).run
def spec_l02Fit_enc (v199 : Int) (v200 : Int) (v201 : List Nat) (v202 : Int) (v203 : Int) (v204 : List Nat) (y : Bool) : Rs := (.bool y, [])
theorem spec_l02Fit_den (v199 : Int) (v200 : Int) (v201 : List Nat) (v202 : Int) (v203 : Int) (v204 : List Nat) : (den TT (tabD spec_l02Fit_tab) (tabM spec_l02Fit_tab) (spec_l02Fit_LO v199 v200 v201 v202 v203 v204) (codeOf Try.f139) ([.bptr (BR.root 0) [.int .i64 v199, .int .i64 v200, .bslc (BR.root 1) (.f32 v201)], .bptr (BR.root 2) [.int .i64 v202, .int .i64 v203, .bslc (BR.root 3) (.f32 v204)]] ++ List.replicate (Try.f139.ntmps - ([.bptr (BR.root 0) [.int .i64 v199, .int .i64 v200, .bslc (BR.root 1) (.f32 v201)], .bptr (BR.root 2) [.int .i64 v202, .int .i64 v203, .bslc (BR.root 3) (.f32 v204)]] : List DV).length) .undef) []).bind (retD TT Try.f139.results.toList 0) = (spec_l02Fit_T v199 v200 v201 v202 v203 v204).bind fun y => .leaf (spec_l02Fit_enc v199 v200 v201 v202 v203 v204 y) := by kernel_rfl
theorem spec_l02Fit_fn (v199 : Int) (v200 : Int) (v201 : List Nat) (v202 : Int) (v203 : Int) (v204 : List Nat) (F : Fr) (hm : F.ids.length = 0) (h0 : St F [] F.H0) (hA : DVs.Ok F [] [.bptr (BR.root 0) [.int .i64 v199, .int .i64 v200, .bslc (BR.root 1) (.f32 v201)], .bptr (BR.root 2) [.int .i64 v202, .int .i64 v203, .bslc (BR.root 3) (.f32 v204)]]) {y : Bool} (hy : spec_l02Fit_g v199 v200 v201 v202 v203 v204 = some y) : ∃ H', FnOk Try.prog 139 (DVs.av F [.bptr (BR.root 0) [.int .i64 v199, .int .i64 v200, .bslc (BR.root 1) (.f32 v201)], .bptr (BR.root 2) [.int .i64 v202, .int .i64 v203, .bslc (BR.root 3) (.f32 v204)]]) F.H0 ((spec_l02Fit_enc v199 v200 v201 v202 v203 v204 y).1.av F) H' ∧ St F (spec_l02Fit_enc v199 v200 v201 v202 v203 v204 y).2 H' ∧ (spec_l02Fit_enc v199 v200 v201 v202 v203 v204 y).1.Ok F (spec_l02Fit_enc v199 v200 v201 v202 v203 v204 y).2 :=
  fn_fin tok spec_l02Fit_hO mixed Try.func139 Try.call139 (by kernel_rfl) (LoopsOk_eq (l := []) (by kernel_rfl) trivial) (spec_l02Fit_den v199 v200 v201 v202 v203 v204) hy hm h0 hA
noncomputable def spec_l02Fit_F : DFn := fun args L =>
  match args with
  | [a1, a3] =>
    optT (cellsOf L 3 a1) fun cs0 =>
    (match cs0 with
    | [.int .i64 v199, .int .i64 v200, a2] =>
    optT (rowF32 L a2) fun v201 =>
    optT (cellsOf L 3 a3) fun cs2 =>
    (match cs2 with
    | [.int .i64 v202, .int .i64 v203, a4] =>
    optT (rowF32 L a4) fun v204 =>
    .call (spec_l02Fit_g v199 v200 v201 v202 v203 v204) fun y => .leaf (.bool y, L)
    | _ => .fail)
    | _ => .fail)
  | _ => .fail
theorem spec_l02Fit_Fok : COk Try.prog 139 spec_l02Fit_F true := by
  intro F L H args r L' hs ha hr
  unfold spec_l02Fit_F at hr
  split at hr
  · rename_i a1 a3
    obtain ⟨cs0, hcp0, hr⟩ := optT_run hr
    split at hr
    · rename_i v199 v200 a2
      obtain ⟨v201, hv201, hr⟩ := optT_run hr
      obtain ⟨cs2, hcp2, hr⟩ := optT_run hr
      split at hr
      · rename_i v202 v203 a4
        obtain ⟨v204, hv204, hr⟩ := optT_run hr
        simp only [Tree.run] at hr
        obtain ⟨y, hy, hr⟩ := Option.bind_eq_some_iff.1 hr
        simp only [Tree.run, Option.some.injEq, Prod.mk.injEq] at hr
        obtain ⟨rfl, rfl⟩ := hr
        exact call_ok0 hs (fun k => (([a1.av F, a2.av F, a3.av F, a4.av F] : List AV)[k]?).getD .top) [a1, a3] [.bptr (BR.root 0) [.int .i64 v199, .int .i64 v200, .bslc (BR.root 1) (.f32 v201)], .bptr (BR.root 2) [.int .i64 v202, .int .i64 v203, .bslc (BR.root 3) (.f32 v204)]] (fun F' h0 hi hρ => ⟨by simp [DVs.av, DV.av, BR.av, hρ], spec_l02Fit_fn v199 v200 v201 v202 v203 v204 F' (by rw [hi]; rfl) (st_nil hi) ⟨bptr_ok hi (by rw [h0]; simpa [DVs.av, DV.av, BR.av, hρ] using (cellsOf_ok hs (DVs.okAt ha 0 rfl) hcp0).1) ⟨trivial, trivial, bslc_ok hi (by rw [h0, hρ]; exact rowF32_ok hs (DVs.okAt (cellsOf_ok hs (DVs.okAt ha 0 rfl) hcp0).2 2 rfl) hv201), trivial⟩, bptr_ok hi (by rw [h0]; simpa [DVs.av, DV.av, BR.av, hρ] using (cellsOf_ok hs (DVs.okAt ha 1 rfl) hcp2).1) ⟨trivial, trivial, bslc_ok hi (by rw [h0, hρ]; exact rowF32_ok hs (DVs.okAt (cellsOf_ok hs (DVs.okAt ha 1 rfl) hcp2).2 2 rfl) hv204), trivial⟩, trivial⟩ hy⟩) rfl
      · cases hr
    · cases hr
  · cases hr
/-! spec.l02Blank -/
noncomputable def spec_l02Blank_LO (v214 : Int) (v215 : Int) : LOr := fun id e L =>
  match id with
  | _ => .fail
noncomputable def spec_l02Blank_tab : List (FuncId × DFn × Bool) := []
theorem spec_l02Blank_hO : OrcOk Try.prog (tabD spec_l02Blank_tab) (tabM spec_l02Blank_tab) := tabD_nil _
noncomputable def spec_l02Blank_T (v214 : Int) (v215 : Int) : Tree (Int × Int) :=
  .leaf (v214, v215)

noncomputable def spec_l02Blank_g (v214 : Int) (v215 : Int) : Option (Int × Int) := (spec_l02Blank_T v214 v215).run
def spec_l02Blank_enc (v214 : Int) (v215 : Int) (y : Int × Int) : Rs := (.agg [.int .i64 y.1, .int .i64 y.2, .own 0 0 ((([] : List Nat)).length)], [.row (.f32 ([] : List Nat)) 0])
theorem spec_l02Blank_den (v214 : Int) (v215 : Int) : (den TT (tabD spec_l02Blank_tab) (tabM spec_l02Blank_tab) (spec_l02Blank_LO v214 v215) (codeOf Try.f107) ([.int .i64 v214, .int .i64 v215] ++ List.replicate (Try.f107.ntmps - ([.int .i64 v214, .int .i64 v215] : List DV).length) .undef) []).bind (retD TT Try.f107.results.toList 0) = (spec_l02Blank_T v214 v215).bind fun y => .leaf (spec_l02Blank_enc v214 v215 y) := by kernel_rfl
theorem spec_l02Blank_fn (v214 : Int) (v215 : Int) (F : Fr) (hm : F.ids.length = 0) (h0 : St F [] F.H0) (hA : DVs.Ok F [] [.int .i64 v214, .int .i64 v215]) {y : Int × Int} (hy : spec_l02Blank_g v214 v215 = some y) : ∃ H', FnOk Try.prog 107 (DVs.av F [.int .i64 v214, .int .i64 v215]) F.H0 ((spec_l02Blank_enc v214 v215 y).1.av F) H' ∧ St F (spec_l02Blank_enc v214 v215 y).2 H' ∧ (spec_l02Blank_enc v214 v215 y).1.Ok F (spec_l02Blank_enc v214 v215 y).2 :=
  fn_fin tok spec_l02Blank_hO mixed Try.func107 Try.call107 (by kernel_rfl) (LoopsOk_eq (l := []) (by kernel_rfl) trivial) (spec_l02Blank_den v214 v215) hy hm h0 hA
def spec_l02Blank_v (v214 : Int) (v215 : Int) : Int × Int :=
  (v214, v215)
theorem spec_l02Blank_tot (v214 : Int) (v215 : Int) : spec_l02Blank_g v214 v215 = some (spec_l02Blank_v v214 v215) := by
  unfold spec_l02Blank_g spec_l02Blank_T spec_l02Blank_v
  simp only [Tree.run]
  repeat' (first | rfl | split)
noncomputable def spec_l02Blank_F : DFn := fun args L =>
  match args with
  | [.int .i64 v214, .int .i64 v215] =>
    .leaf (.agg [.int .i64 ((spec_l02Blank_v v214 v215).1), .int .i64 ((spec_l02Blank_v v214 v215).2), .own (L.length + 0) 0 ((([] : List Nat)).length)], L ++ [.row (.f32 ([] : List Nat)) 0])
  | _ => .fail
theorem spec_l02Blank_Fok : COk Try.prog 107 spec_l02Blank_F true := by
  intro F L H args r L' hs ha hr
  unfold spec_l02Blank_F at hr
  split at hr
  · rename_i v214 v215
    have hy := spec_l02Blank_tot v214 v215
    generalize spec_l02Blank_v v214 v215 = y at hy hr
    simp only [Tree.run, Option.some.injEq, Prod.mk.injEq] at hr
    obtain ⟨rfl, rfl⟩ := hr
    exact call_ok1 hs (fun k => (([] : List AV)[k]?).getD .top) [.int .i64 v214, .int .i64 v215] [.int .i64 v214, .int .i64 v215] (fun F' h0 hi hρ => ⟨by simp [DVs.av, DV.av, BR.av, hρ], spec_l02Blank_fn v214 v215 F' (by rw [hi]; rfl) (st_nil hi) ⟨trivial, trivial, trivial⟩ hy⟩) rfl rfl
  · cases hr
/-! spec.l02Mul -/
noncomputable def spec_l02Mul_l2_T (v209 : Int) (v210 : List Nat) (v212 : Int) (v213 : List Nat) (v268 : Int) (v271 : List Nat) (s : Nat × Int) : Tree ((Nat × Int) ⊕ (Nat)) :=
  (.br (decide (s.2 < v209)) (
   (.grd (!decide (v212 = 0)) <|
   (.call (spec_l02At_g v209 v210 (IntKind.i64.wrap (Int.tdiv v268 v212)) s.2) fun v272 =>
   (.grd (!decide (v212 = 0)) <|
   (.call (spec_l02At_g v212 v213 s.2 (Int.tmod v268 v212)) fun v273 =>
   .leaf (.inl (fadd .f32 s.1 (fmul .f32 v272 v273), IntKind.i64.wrap (s.2 + (1 : Int))))))))
  ) (
   .leaf (.inr s.1)
  ))

noncomputable def spec_l02Mul_l2_g (v209 : Int) (v210 : List Nat) (v212 : Int) (v213 : List Nat) (v268 : Int) (v271 : List Nat) (s0 : Nat × Int) : Option (Nat) := whileM (fun s => (spec_l02Mul_l2_T v209 v210 v212 v213 v268 v271 s).run) s0
def spec_l02Mul_l2_E (v208 : Int) (v209 : Int) (v210 : List Nat) (v211 : Int) (v212 : Int) (v213 : List Nat) (v268 : Int) (v271 : List Nat) (s : Nat × Int) : Sd := ([.bptr (BR.root 0) [.int .i64 v208, .int .i64 v209, .bslc (BR.root 1) (.f32 v210)], .bptr (BR.root 2) [.int .i64 v211, .int .i64 v212, .bslc (BR.root 3) (.f32 v213)], .top, .top, .ptr 0 (0 : Nat) 0 (3 : Nat), .ptr 1 (0 : Nat) 0 (3 : Nat), .int .i64 v268, .flt .f32 s.1, .int .i64 s.2, .top, .top, .top, .top, .top, .top, .top, .top, .top, .top, .top, .top, .top, .top, .top, .top, .top, .top, .top, .top, .top, .top, .top, .top, .top, .top, .top, .top, .top, .top, .top, .top, .top, .top, .top, .top, .top, .top, .top, .top, .top, .top, .top, .top, .top, .top, .top, .top, .top, .top, .top, .top, .top, .top, .top, .top, .top, .top], [.gen [.int .i64 (0 : Int), .int .i64 (0 : Int), .nilslc] false 0, .gen [.int .i64 ((spec_l02Blank_v v208 v212).1), .int .i64 ((spec_l02Blank_v v208 v212).2), .own 2 0 ((v271).length)] false 0, .row (.f32 v271) 0])
def spec_l02Mul_l2_X (v208 : Int) (v209 : Int) (v210 : List Nat) (v211 : Int) (v212 : Int) (v213 : List Nat) (v268 : Int) (v271 : List Nat) (x : Nat) : Out := (.normal, [.bptr (BR.root 0) [.int .i64 v208, .int .i64 v209, .bslc (BR.root 1) (.f32 v210)], .bptr (BR.root 2) [.int .i64 v211, .int .i64 v212, .bslc (BR.root 3) (.f32 v213)], .top, .top, .ptr 0 (0 : Nat) 0 (3 : Nat), .ptr 1 (0 : Nat) 0 (3 : Nat), .int .i64 v268, .flt .f32 x, .top, .top, .top, .top, .top, .top, .top, .top, .top, .top, .top, .top, .top, .top, .top, .top, .top, .top, .top, .top, .top, .top, .top, .top, .top, .top, .top, .top, .top, .top, .top, .top, .top, .top, .top, .top, .top, .top, .top, .top, .top, .top, .top, .top, .top, .top, .top, .top, .top, .top, .top, .top, .top, .top, .top, .top, .top, .top, .top], [.gen [.int .i64 (0 : Int), .int .i64 (0 : Int), .nilslc] false 0, .gen [.int .i64 ((spec_l02Blank_v v208 v212).1), .int .i64 ((spec_l02Blank_v v208 v212).2), .own 2 0 ((v271).length)] false 0, .row (.f32 v271) 0])
def spec_l02Mul_l2_kill : List Nat := [0, 0, 1, 1, 0, 0, 0, 0, 0, 1, 1, 1, 1, 1, 1, 1, 1, 1, 1, 1, 1, 1, 1, 1, 1, 1, 1, 1, 1, 1, 1, 1, 1, 1, 1, 1, 1, 1, 1, 1, 1, 1, 1, 1, 1, 1, 1, 1, 1, 1, 1, 1, 1, 1, 1, 1, 1, 1, 1, 1, 1, 1, 1, 1, 1, 1, 1]
def spec_l02Mul_l2_nx : Exit → List Nat
  | .exit 0 => [1, 1, 1, 1, 0, 0, 1, 1, 1, 1, 1, 1, 1, 1, 1, 1, 1, 1, 1, 1, 1, 1, 1, 1, 1, 1, 1, 1, 1, 1, 1, 1, 1, 1, 1, 1, 1, 1, 1, 1, 1, 1, 1, 1, 1, 1, 1, 1, 1, 1, 1, 1, 1, 1, 1, 1, 1, 1, 1, 1, 1, 1, 1, 1, 1, 1, 1]
  | .exit 1 => [0, 0, 1, 1, 0, 0, 0, 1, 1, 1, 1, 1, 1, 1, 1, 1, 1, 1, 1, 1, 1, 1, 1, 1, 1, 1, 1, 1, 1, 1, 1, 1, 1, 1, 1, 1, 1, 1, 1, 1, 1, 1, 1, 1, 1, 1, 1, 1, 1, 1, 1, 1, 1, 1, 1, 1, 1, 1, 1, 1, 1, 1, 1, 1, 1, 1, 1]
  | .exit 2 => [0, 0, 1, 1, 0, 0, 0, 0, 1, 1, 1, 1, 1, 1, 1, 1, 1, 1, 1, 1, 1, 1, 1, 1, 1, 1, 1, 1, 1, 1, 1, 1, 1, 1, 1, 1, 1, 1, 1, 1, 1, 1, 1, 1, 1, 1, 1, 1, 1, 1, 1, 1, 1, 1, 1, 1, 1, 1, 1, 1, 1, 1, 1, 1, 1, 1, 1]
  | .ret => [1, 1, 1, 1, 0, 1, 1, 1, 1, 1, 1, 1, 1, 1, 1, 1, 1, 1, 1, 1, 1, 1, 1, 1, 1, 1, 1, 1, 1, 1, 1, 1, 1, 1, 1, 1, 1, 1, 1, 1, 1, 1, 1, 1, 1, 1, 1, 1, 1, 1, 1, 1, 1, 1, 1, 1, 1, 1, 1, 1, 1, 1, 1, 1, 1, 1, 1]
  | _ => []
noncomputable def spec_l02Mul_l0_T (v208 : Int) (v209 : Int) (v210 : List Nat) (v211 : Int) (v212 : Int) (v213 : List Nat) (s : Int × (List Nat)) : Tree ((Int × (List Nat)) ⊕ ((List Nat))) :=
  (.br (decide (s.1 < IntKind.i64.wrap (v208 * v212))) (
   (.need (some (spec_l02Mul_l2_E v208 v209 v210 v211 v212 v213 s.1 s.2 ((0 : Nat), (0 : Int))) = some (spec_l02Mul_l2_E v208 v209 v210 v211 v212 v213 s.1 s.2 ((0 : Nat), (0 : Int)))) <|
   (.call (spec_l02Mul_l2_g v209 v210 v212 v213 s.1 s.2 ((0 : Nat), (0 : Int))) fun v274 =>
   (.grd (fits (s.2 ++ ([v274] : List Nat)).length) <|
   .leaf (.inl (IntKind.i64.wrap (s.1 + (1 : Int)), s.2 ++ ([v274] : List Nat))))))
  ) (
   .leaf (.inr s.2)
  ))

noncomputable def spec_l02Mul_l0_g (v208 : Int) (v209 : Int) (v210 : List Nat) (v211 : Int) (v212 : Int) (v213 : List Nat) (s0 : Int × (List Nat)) : Option ((List Nat)) := whileM (fun s => (spec_l02Mul_l0_T v208 v209 v210 v211 v212 v213 s).run) s0
def spec_l02Mul_l0_E (v208 : Int) (v209 : Int) (v210 : List Nat) (v211 : Int) (v212 : Int) (v213 : List Nat) (s : Int × (List Nat)) : Sd := ([.bptr (BR.root 0) [.int .i64 v208, .int .i64 v209, .bslc (BR.root 1) (.f32 v210)], .bptr (BR.root 2) [.int .i64 v211, .int .i64 v212, .bslc (BR.root 3) (.f32 v213)], .top, .top, .ptr 0 (0 : Nat) 0 (3 : Nat), .ptr 1 (0 : Nat) 0 (3 : Nat), .int .i64 s.1, .top, .top, .top, .top, .top, .top, .top, .top, .top, .top, .top, .top, .top, .top, .top, .top, .top, .top, .top, .top, .top, .top, .top, .top, .top, .top, .top, .top, .top, .top, .top, .top, .top, .top, .top, .top, .top, .top, .top, .top, .top, .top, .top, .top, .top, .top, .top, .top, .top, .top, .top, .top, .top, .top, .top, .top, .top, .top, .top, .top], [.gen [.int .i64 (0 : Int), .int .i64 (0 : Int), .nilslc] false 0, .gen [.int .i64 ((spec_l02Blank_v v208 v212).1), .int .i64 ((spec_l02Blank_v v208 v212).2), .own 2 0 ((s.2).length)] false 0, .row (.f32 s.2) 0])
def spec_l02Mul_l0_X (v208 : Int) (v209 : Int) (v210 : List Nat) (v211 : Int) (v212 : Int) (v213 : List Nat) (x : (List Nat)) : Out := (.normal, [.top, .top, .top, .top, .ptr 0 (0 : Nat) 0 (3 : Nat), .ptr 1 (0 : Nat) 0 (3 : Nat), .top, .top, .top, .top, .top, .top, .top, .top, .top, .top, .top, .top, .top, .top, .top, .top, .top, .top, .top, .top, .top, .top, .top, .top, .top, .top, .top, .top, .top, .top, .top, .top, .top, .top, .top, .top, .top, .top, .top, .top, .top, .top, .top, .top, .top, .top, .top, .top, .top, .top, .top, .top, .top, .top, .top, .top, .top, .top, .top, .top, .top], [.gen [.int .i64 (0 : Int), .int .i64 (0 : Int), .nilslc] false 0, .gen [.int .i64 ((spec_l02Blank_v v208 v212).1), .int .i64 ((spec_l02Blank_v v208 v212).2), .own 2 0 ((x).length)] false 0, .row (.f32 x) 0])
def spec_l02Mul_l0_kill : List Nat := [0, 0, 1, 1, 0, 0, 0, 1, 1, 1, 1, 1, 1, 1, 1, 1, 1, 1, 1, 1, 1, 1, 1, 1, 1, 1, 1, 1, 1, 1, 1, 1, 1, 1, 1, 1, 1, 1, 1, 1, 1, 1, 1, 1, 1, 1, 1, 1, 1, 1, 1, 1, 1, 1, 1, 1, 1, 1, 1, 1, 1, 1, 1, 1, 1, 1, 1]
def spec_l02Mul_l0_nx : Exit → List Nat
  | .exit 0 => [1, 1, 1, 1, 0, 0, 1, 1, 1, 1, 1, 1, 1, 1, 1, 1, 1, 1, 1, 1, 1, 1, 1, 1, 1, 1, 1, 1, 1, 1, 1, 1, 1, 1, 1, 1, 1, 1, 1, 1, 1, 1, 1, 1, 1, 1, 1, 1, 1, 1, 1, 1, 1, 1, 1, 1, 1, 1, 1, 1, 1, 1, 1, 1, 1, 1, 1]
  | .ret => [1, 1, 1, 1, 0, 1, 1, 1, 1, 1, 1, 1, 1, 1, 1, 1, 1, 1, 1, 1, 1, 1, 1, 1, 1, 1, 1, 1, 1, 1, 1, 1, 1, 1, 1, 1, 1, 1, 1, 1, 1, 1, 1, 1, 1, 1, 1, 1, 1, 1, 1, 1, 1, 1, 1, 1, 1, 1, 1, 1, 1, 1, 1, 1, 1, 1, 1]
  | _ => []
noncomputable def spec_l02Mul_LO (v208 : Int) (v209 : Int) (v210 : List Nat) (v211 : Int) (v212 : Int) (v213 : List Nat) : LOr := fun id e L =>
  match id with
  | 2 => .need (normA 0 spec_l02Mul_l2_kill e L = some (spec_l02Mul_l2_E v208 v209 v210 v211 v212 v213 (gI (vAt e 6)) (gRF L (cAt L (vAt e 5) 2)) ((gF (vAt e 7)), (gI (vAt e 8))))) (.call (spec_l02Mul_l2_g v209 v210 v212 v213 (gI (vAt e 6)) (gRF L (cAt L (vAt e 5) 2)) ((gF (vAt e 7)), (gI (vAt e 8)))) fun x => .leaf (spec_l02Mul_l2_X v208 v209 v210 v211 v212 v213 (gI (vAt e 6)) (gRF L (cAt L (vAt e 5) 2)) x))
  | 0 => .need (normA 0 spec_l02Mul_l0_kill e L = some (spec_l02Mul_l0_E v208 v209 v210 v211 v212 v213 ((gI (vAt e 6)), (gRF L (cAt L (vAt e 5) 2))))) (.call (spec_l02Mul_l0_g v208 v209 v210 v211 v212 v213 ((gI (vAt e 6)), (gRF L (cAt L (vAt e 5) 2)))) fun x => .leaf (spec_l02Mul_l0_X v208 v209 v210 v211 v212 v213 x))
  | _ => .fail
noncomputable def spec_l02Mul_tab : List (FuncId × DFn × Bool) := [(107, spec_l02Blank_F, true), (115, spec_l02At_F, true)]
theorem spec_l02Mul_hO : OrcOk Try.prog (tabD spec_l02Mul_tab) (tabM spec_l02Mul_tab) := tabD_cons spec_l02Blank_Fok (tabD_cons spec_l02At_Fok (tabD_nil _))
theorem spec_l02Mul_l2_be (v208 : Int) (v209 : Int) (v210 : List Nat) (v211 : Int) (v212 : Int) (v213 : List Nat) (v268 : Int) (v271 : List Nat) (s : Nat × Int) : bodyT TT (tabD spec_l02Mul_tab) (tabM spec_l02Mul_tab) (spec_l02Mul_LO v208 v209 v210 v211 v212 v213) 0 spec_l02Mul_l2_kill spec_l02Mul_l2_nx (bodyOf Try.f140 2) 2 (spec_l02Mul_l2_E v208 v209 v210 v211 v212 v213 v268 v271 s) = (spec_l02Mul_l2_T v209 v210 v212 v213 v268 v271 s).bind fun y => .leaf (outS (spec_l02Mul_l2_E v208 v209 v210 v211 v212 v213 v268 v271) (spec_l02Mul_l2_X v208 v209 v210 v211 v212 v213 v268 v271) y) := by kernel_rfl
theorem spec_l02Mul_l2_ok (v208 : Int) (v209 : Int) (v210 : List Nat) (v211 : Int) (v212 : Int) (v213 : List Nat) : LSound Try.prog 0 (spec_l02Mul_LO v208 v209 v210 v211 v212 v213) 2 (bodyOf Try.f140 2) := by
  intro e L out h
  exact lo_ok (E := spec_l02Mul_l2_E v208 v209 v210 v211 v212 v213 (gI (vAt e 6)) (gRF L (cAt L (vAt e 5) 2))) (gT := spec_l02Mul_l2_T v209 v210 v212 v213 (gI (vAt e 6)) (gRF L (cAt L (vAt e 5) 2))) (X := spec_l02Mul_l2_X v208 v209 v210 v211 v212 v213 (gI (vAt e 6)) (gRF L (cAt L (vAt e 5) 2))) (s0 := ((gF (vAt e 7)), (gI (vAt e 8)))) tok spec_l02Mul_hO mixed (LoopsOk_eq (l := []) (by kernel_rfl) trivial) (spec_l02Mul_l2_be v208 v209 v210 v211 v212 v213 (gI (vAt e 6)) (gRF L (cAt L (vAt e 5) 2))) rfl (by intro x; rfl) h
theorem spec_l02Mul_l0_be (v208 : Int) (v209 : Int) (v210 : List Nat) (v211 : Int) (v212 : Int) (v213 : List Nat) (s : Int × (List Nat)) : bodyT TT (tabD spec_l02Mul_tab) (tabM spec_l02Mul_tab) (spec_l02Mul_LO v208 v209 v210 v211 v212 v213) 0 spec_l02Mul_l0_kill spec_l02Mul_l0_nx (bodyOf Try.f140 0) 0 (spec_l02Mul_l0_E v208 v209 v210 v211 v212 v213 s) = (spec_l02Mul_l0_T v208 v209 v210 v211 v212 v213 s).bind fun y => .leaf (outS (spec_l02Mul_l0_E v208 v209 v210 v211 v212 v213) (spec_l02Mul_l0_X v208 v209 v210 v211 v212 v213) y) := by kernel_rfl
theorem spec_l02Mul_l0_ok (v208 : Int) (v209 : Int) (v210 : List Nat) (v211 : Int) (v212 : Int) (v213 : List Nat) : LSound Try.prog 0 (spec_l02Mul_LO v208 v209 v210 v211 v212 v213) 0 (bodyOf Try.f140 0) := by
  intro e L out h
  exact lo_ok (E := spec_l02Mul_l0_E v208 v209 v210 v211 v212 v213) (gT := spec_l02Mul_l0_T v208 v209 v210 v211 v212 v213) (X := spec_l02Mul_l0_X v208 v209 v210 v211 v212 v213) (s0 := ((gI (vAt e 6)), (gRF L (cAt L (vAt e 5) 2)))) tok spec_l02Mul_hO mixed (LoopsOk_eq (l := [(2, bodyOf Try.f140 2)]) (by kernel_rfl) ⟨spec_l02Mul_l2_ok v208 v209 v210 v211 v212 v213, trivial⟩) (spec_l02Mul_l0_be v208 v209 v210 v211 v212 v213) rfl (by intro x; rfl) h
noncomputable def spec_l02Mul_T (v208 : Int) (v209 : Int) (v210 : List Nat) (v211 : Int) (v212 : Int) (v213 : List Nat) : Tree (Int × Int × (List Nat)) :=
  (.need (some (spec_l02Mul_l0_E v208 v209 v210 v211 v212 v213 ((0 : Int), ([] : List Nat))) = some (spec_l02Mul_l0_E v208 v209 v210 v211 v212 v213 ((0 : Int), ([] : List Nat)))) <|
  (.call (spec_l02Mul_l0_g v208 v209 v210 v211 v212 v213 ((0 : Int), ([] : List Nat))) fun v275 =>
  .leaf ((spec_l02Blank_v v208 v212).1, (spec_l02Blank_v v208 v212).2, v275)))

noncomputable def spec_l02Mul_g (v208 : Int) (v209 : Int) (v210 : List Nat) (v211 : Int) (v212 : Int) (v213 : List Nat) : Option (Int × Int × (List Nat)) := (spec_l02Mul_T v208 v209 v210 v211 v212 v213).run
def spec_l02Mul_enc (v208 : Int) (v209 : Int) (v210 : List Nat) (v211 : Int) (v212 : Int) (v213 : List Nat) (y : Int × Int × (List Nat)) : Rs := (.agg [.int .i64 y.1, .int .i64 y.2.1, .own 0 0 ((y.2.2).length)], [.row (.f32 y.2.2) 0])
theorem spec_l02Mul_den (v208 : Int) (v209 : Int) (v210 : List Nat) (v211 : Int) (v212 : Int) (v213 : List Nat) : (den TT (tabD spec_l02Mul_tab) (tabM spec_l02Mul_tab) (spec_l02Mul_LO v208 v209 v210 v211 v212 v213) (codeOf Try.f140) ([.bptr (BR.root 0) [.int .i64 v208, .int .i64 v209, .bslc (BR.root 1) (.f32 v210)], .bptr (BR.root 2) [.int .i64 v211, .int .i64 v212, .bslc (BR.root 3) (.f32 v213)]] ++ List.replicate (Try.f140.ntmps - ([.bptr (BR.root 0) [.int .i64 v208, .int .i64 v209, .bslc (BR.root 1) (.f32 v210)], .bptr (BR.root 2) [.int .i64 v211, .int .i64 v212, .bslc (BR.root 3) (.f32 v213)]] : List DV).length) .undef) []).bind (retD TT Try.f140.results.toList 0) = (spec_l02Mul_T v208 v209 v210 v211 v212 v213).bind fun y => .leaf (spec_l02Mul_enc v208 v209 v210 v211 v212 v213 y) := by kernel_rfl
theorem spec_l02Mul_fn (v208 : Int) (v209 : Int) (v210 : List Nat) (v211 : Int) (v212 : Int) (v213 : List Nat) (F : Fr) (hm : F.ids.length = 0) (h0 : St F [] F.H0) (hA : DVs.Ok F [] [.bptr (BR.root 0) [.int .i64 v208, .int .i64 v209, .bslc (BR.root 1) (.f32 v210)], .bptr (BR.root 2) [.int .i64 v211, .int .i64 v212, .bslc (BR.root 3) (.f32 v213)]]) {y : Int × Int × (List Nat)} (hy : spec_l02Mul_g v208 v209 v210 v211 v212 v213 = some y) : ∃ H', FnOk Try.prog 140 (DVs.av F [.bptr (BR.root 0) [.int .i64 v208, .int .i64 v209, .bslc (BR.root 1) (.f32 v210)], .bptr (BR.root 2) [.int .i64 v211, .int .i64 v212, .bslc (BR.root 3) (.f32 v213)]]) F.H0 ((spec_l02Mul_enc v208 v209 v210 v211 v212 v213 y).1.av F) H' ∧ St F (spec_l02Mul_enc v208 v209 v210 v211 v212 v213 y).2 H' ∧ (spec_l02Mul_enc v208 v209 v210 v211 v212 v213 y).1.Ok F (spec_l02Mul_enc v208 v209 v210 v211 v212 v213 y).2 :=
  fn_fin tok spec_l02Mul_hO mixed Try.func140 Try.call140 (by kernel_rfl) (LoopsOk_eq (l := [(0, bodyOf Try.f140 0)]) (by kernel_rfl) ⟨spec_l02Mul_l0_ok v208 v209 v210 v211 v212 v213, trivial⟩) (spec_l02Mul_den v208 v209 v210 v211 v212 v213) hy hm h0 hA
noncomputable def spec_l02Mul_F : DFn := fun args L =>
  match args with
  | [a1, a3] =>
    optT (cellsOf L 3 a1) fun cs0 =>
    (match cs0 with
    | [.int .i64 v208, .int .i64 v209, a2] =>
    optT (rowF32 L a2) fun v210 =>
    optT (cellsOf L 3 a3) fun cs2 =>
    (match cs2 with
    | [.int .i64 v211, .int .i64 v212, a4] =>
    optT (rowF32 L a4) fun v213 =>
    .call (spec_l02Mul_g v208 v209 v210 v211 v212 v213) fun y => .leaf (.agg [.int .i64 y.1, .int .i64 y.2.1, .own (L.length + 0) 0 ((y.2.2).length)], L ++ [.row (.f32 y.2.2) 0])
    | _ => .fail)
    | _ => .fail)
  | _ => .fail
theorem spec_l02Mul_Fok : COk Try.prog 140 spec_l02Mul_F true := by
  intro F L H args r L' hs ha hr
  unfold spec_l02Mul_F at hr
  split at hr
  · rename_i a1 a3
    obtain ⟨cs0, hcp0, hr⟩ := optT_run hr
    split at hr
    · rename_i v208 v209 a2
      obtain ⟨v210, hv210, hr⟩ := optT_run hr
      obtain ⟨cs2, hcp2, hr⟩ := optT_run hr
      split at hr
      · rename_i v211 v212 a4
        obtain ⟨v213, hv213, hr⟩ := optT_run hr
        simp only [Tree.run] at hr
        obtain ⟨y, hy, hr⟩ := Option.bind_eq_some_iff.1 hr
        simp only [Tree.run, Option.some.injEq, Prod.mk.injEq] at hr
        obtain ⟨rfl, rfl⟩ := hr
        exact call_ok1 hs (fun k => (([a1.av F, a2.av F, a3.av F, a4.av F] : List AV)[k]?).getD .top) [a1, a3] [.bptr (BR.root 0) [.int .i64 v208, .int .i64 v209, .bslc (BR.root 1) (.f32 v210)], .bptr (BR.root 2) [.int .i64 v211, .int .i64 v212, .bslc (BR.root 3) (.f32 v213)]] (fun F' h0 hi hρ => ⟨by simp [DVs.av, DV.av, BR.av, hρ], spec_l02Mul_fn v208 v209 v210 v211 v212 v213 F' (by rw [hi]; rfl) (st_nil hi) ⟨bptr_ok hi (by rw [h0]; simpa [DVs.av, DV.av, BR.av, hρ] using (cellsOf_ok hs (DVs.okAt ha 0 rfl) hcp0).1) ⟨trivial, trivial, bslc_ok hi (by rw [h0, hρ]; exact rowF32_ok hs (DVs.okAt (cellsOf_ok hs (DVs.okAt ha 0 rfl) hcp0).2 2 rfl) hv210), trivial⟩, bptr_ok hi (by rw [h0]; simpa [DVs.av, DV.av, BR.av, hρ] using (cellsOf_ok hs (DVs.okAt ha 1 rfl) hcp2).1) ⟨trivial, trivial, bslc_ok hi (by rw [h0, hρ]; exact rowF32_ok hs (DVs.okAt (cellsOf_ok hs (DVs.okAt ha 1 rfl) hcp2).2 2 rfl) hv213), trivial⟩, trivial⟩ hy⟩) rfl rfl
      · cases hr
    · cases hr
  · cases hr
/-! spec.l02Give -/
noncomputable def spec_l02Give_LO (v277 : Int) (v278 : Int) (v279 : List Nat) : LOr := fun id e L =>
  match id with
  | _ => .fail
noncomputable def spec_l02Give_tab : List (FuncId × DFn × Bool) := [(99, spec_l02Is_F, true)]
theorem spec_l02Give_hO : OrcOk Try.prog (tabD spec_l02Give_tab) (tabM spec_l02Give_tab) := tabD_cons spec_l02Is_Fok (tabD_nil _)
noncomputable def spec_l02Give_T (v277 : Int) (v278 : Int) (v279 : List Nat) : Tree ((Unit) ⊕ (Int × Int)) :=
  (.call (spec_l02Is_g v277 v278 v279) fun v280 =>
  (.br (!v280) (
   .leaf (.inl ())
  ) (
   .leaf (.inr (v277, v278))
  )))

noncomputable def spec_l02Give_g (v277 : Int) (v278 : Int) (v279 : List Nat) : Option ((Unit) ⊕ (Int × Int)) := (spec_l02Give_T v277 v278 v279).run
def spec_l02Give_enc (v277 : Int) (v278 : Int) (v279 : List Nat) (y : (Unit) ⊕ (Int × Int)) : Rs := (match y with | .inl y => (.tup [.agg [.int .i64 (0 : Int), .int .i64 (0 : Int), .nilslc], .lit false], []) | .inr y => (.tup [.agg [.int .i64 y.1, .int .i64 y.2, .bslc (BR.root 0) (.f32 v279)], .lit true], []))
theorem spec_l02Give_den (v277 : Int) (v278 : Int) (v279 : List Nat) : (den TT (tabD spec_l02Give_tab) (tabM spec_l02Give_tab) (spec_l02Give_LO v277 v278 v279) (codeOf Try.f88) ([.agg [.int .i64 v277, .int .i64 v278, .bslc (BR.root 0) (.f32 v279)]] ++ List.replicate (Try.f88.ntmps - ([.agg [.int .i64 v277, .int .i64 v278, .bslc (BR.root 0) (.f32 v279)]] : List DV).length) .undef) []).bind (retD TT Try.f88.results.toList 0) = (spec_l02Give_T v277 v278 v279).bind fun y => .leaf (spec_l02Give_enc v277 v278 v279 y) := by kernel_rfl
theorem spec_l02Give_fn (v277 : Int) (v278 : Int) (v279 : List Nat) (F : Fr) (hm : F.ids.length = 0) (h0 : St F [] F.H0) (hA : DVs.Ok F [] [.agg [.int .i64 v277, .int .i64 v278, .bslc (BR.root 0) (.f32 v279)]]) {y : (Unit) ⊕ (Int × Int)} (hy : spec_l02Give_g v277 v278 v279 = some y) : ∃ H', FnOk Try.prog 88 (DVs.av F [.agg [.int .i64 v277, .int .i64 v278, .bslc (BR.root 0) (.f32 v279)]]) F.H0 ((spec_l02Give_enc v277 v278 v279 y).1.av F) H' ∧ St F (spec_l02Give_enc v277 v278 v279 y).2 H' ∧ (spec_l02Give_enc v277 v278 v279 y).1.Ok F (spec_l02Give_enc v277 v278 v279 y).2 :=
  fn_fin tok spec_l02Give_hO mixed Try.func88 Try.call88 (by kernel_rfl) (LoopsOk_eq (l := []) (by kernel_rfl) trivial) (spec_l02Give_den v277 v278 v279) hy hm h0 hA
noncomputable def spec_l02Give_F : DFn := fun args L =>
  match args with
  | [.agg [.int .i64 v277, .int .i64 v278, a1]] =>
    optT (rowF32 L a1) fun v279 =>
    .call (spec_l02Give_g v277 v278 v279) fun y => .sum y (fun y0 => .leaf (.tup [.agg [.int .i64 (0 : Int), .int .i64 (0 : Int), .nilslc], .lit false], L)) (fun z0 => .leaf (.tup [.agg [.int .i64 z0.1, .int .i64 z0.2, a1], .lit true], L))
  | _ => .fail
theorem spec_l02Give_Fok : COk Try.prog 88 spec_l02Give_F true := by
  intro F L H args r L' hs ha hr
  unfold spec_l02Give_F at hr
  split at hr
  · rename_i v277 v278 a1
    obtain ⟨v279, hv279, hr⟩ := optT_run hr
    simp only [Tree.run] at hr
    obtain ⟨y, hy, hr⟩ := Option.bind_eq_some_iff.1 hr
    cases y with
    | inl y =>
      simp only [Tree.run, Option.some.injEq, Prod.mk.injEq] at hr
      obtain ⟨rfl, rfl⟩ := hr
      exact call_ok0 hs (fun k => (([a1.av F] : List AV)[k]?).getD .top) [.agg [.int .i64 v277, .int .i64 v278, a1]] [.agg [.int .i64 v277, .int .i64 v278, .bslc (BR.root 0) (.f32 v279)]] (fun F' h0 hi hρ => ⟨by simp [DVs.av, DV.av, BR.av, hρ], spec_l02Give_fn v277 v278 v279 F' (by rw [hi]; rfl) (st_nil hi) ⟨⟨trivial, trivial, bslc_ok hi (by rw [h0, hρ]; exact rowF32_ok hs (DVs.okAt (DVs.okAt ha 0 rfl) 2 rfl) hv279), trivial⟩, trivial⟩ hy⟩) rfl
    | inr y =>
      simp only [Tree.run, Option.some.injEq, Prod.mk.injEq] at hr
      obtain ⟨rfl, rfl⟩ := hr
      exact call_al0 hs (fun k => (([a1.av F] : List AV)[k]?).getD .top) [.agg [.int .i64 v277, .int .i64 v278, a1]] [.agg [.int .i64 v277, .int .i64 v278, .bslc (BR.root 0) (.f32 v279)]] (fun F' h0 hi hρ => ⟨by simp [DVs.av, DV.av, BR.av, hρ], spec_l02Give_fn v277 v278 v279 F' (by rw [hi]; rfl) (st_nil hi) ⟨⟨trivial, trivial, bslc_ok hi (by rw [h0, hρ]; exact rowF32_ok hs (DVs.okAt (DVs.okAt ha 0 rfl) 2 rfl) hv279), trivial⟩, trivial⟩ hy⟩) (fun F' h0 hi hρ => by simp [spec_l02Give_enc, DVs.av, DV.av, BR.av, hρ]) ⟨⟨trivial, trivial, (DVs.okAt (DVs.okAt ha 0 rfl) 2 rfl), trivial⟩, trivial, trivial⟩
  · cases hr
/-! spec.MulMatrices -/
noncomputable def spec_MulMatrices_LO (v193 : Int) (v194 : Int) (v195 : List Nat) (v196 : Int) (v197 : Int) (v198 : List Nat) : LOr := fun id e L =>
  match id with
  | _ => .fail
noncomputable def spec_MulMatrices_tab : List (FuncId × DFn × Bool) := [(139, spec_l02Fit_F, true), (140, spec_l02Mul_F, true), (88, spec_l02Give_F, true)]
theorem spec_MulMatrices_hO : OrcOk Try.prog (tabD spec_MulMatrices_tab) (tabM spec_MulMatrices_tab) := tabD_cons spec_l02Fit_Fok (tabD_cons spec_l02Mul_Fok (tabD_cons spec_l02Give_Fok (tabD_nil _)))
noncomputable def spec_MulMatrices_T (v193 : Int) (v194 : Int) (v195 : List Nat) (v196 : Int) (v197 : Int) (v198 : List Nat) : Tree ((Unit) ⊕ (Int × Int × (List Nat))) :=
  (.call (spec_l02Fit_g v193 v194 v195 v196 v197 v198) fun v207 =>
  (.br (!v207) (
   .leaf (.inl ())
  ) (
   (.call (spec_l02Mul_g v193 v194 v195 v196 v197 v198) fun v276 =>
   (.call (spec_l02Give_g v276.1 v276.2.1 v276.2.2) fun v281 =>
   (.sum v281 (fun v282 =>
    .leaf (.inl ())
   ) (fun v283 =>
    .leaf (.inr (v283.1, v283.2, v276.2.2))
   ))))
  )))

noncomputable def spec_MulMatrices_g (v193 : Int) (v194 : Int) (v195 : List Nat) (v196 : Int) (v197 : Int) (v198 : List Nat) : Option ((Unit) ⊕ (Int × Int × (List Nat))) := (spec_MulMatrices_T v193 v194 v195 v196 v197 v198).run
def spec_MulMatrices_enc (v193 : Int) (v194 : Int) (v195 : List Nat) (v196 : Int) (v197 : Int) (v198 : List Nat) (y : (Unit) ⊕ (Int × Int × (List Nat))) : Rs := (match y with | .inl y => (.tup [.agg [.int .i64 (0 : Int), .int .i64 (0 : Int), .nilslc], .lit false], []) | .inr y => (.tup [.agg [.int .i64 y.1, .int .i64 y.2.1, .own 0 0 ((y.2.2).length)], .lit true], [.row (.f32 y.2.2) 0]))
theorem spec_MulMatrices_den (v193 : Int) (v194 : Int) (v195 : List Nat) (v196 : Int) (v197 : Int) (v198 : List Nat) : (den TT (tabD spec_MulMatrices_tab) (tabM spec_MulMatrices_tab) (spec_MulMatrices_LO v193 v194 v195 v196 v197 v198) (codeOf Try.f87) ([.agg [.int .i64 v193, .int .i64 v194, .bslc (BR.root 0) (.f32 v195)], .agg [.int .i64 v196, .int .i64 v197, .bslc (BR.root 1) (.f32 v198)]] ++ List.replicate (Try.f87.ntmps - ([.agg [.int .i64 v193, .int .i64 v194, .bslc (BR.root 0) (.f32 v195)], .agg [.int .i64 v196, .int .i64 v197, .bslc (BR.root 1) (.f32 v198)]] : List DV).length) .undef) []).bind (retD TT Try.f87.results.toList 0) = (spec_MulMatrices_T v193 v194 v195 v196 v197 v198).bind fun y => .leaf (spec_MulMatrices_enc v193 v194 v195 v196 v197 v198 y) := by kernel_rfl
theorem spec_MulMatrices_fn (v193 : Int) (v194 : Int) (v195 : List Nat) (v196 : Int) (v197 : Int) (v198 : List Nat) (F : Fr) (hm : F.ids.length = 0) (h0 : St F [] F.H0) (hA : DVs.Ok F [] [.agg [.int .i64 v193, .int .i64 v194, .bslc (BR.root 0) (.f32 v195)], .agg [.int .i64 v196, .int .i64 v197, .bslc (BR.root 1) (.f32 v198)]]) {y : (Unit) ⊕ (Int × Int × (List Nat))} (hy : spec_MulMatrices_g v193 v194 v195 v196 v197 v198 = some y) : ∃ H', FnOk Try.prog 87 (DVs.av F [.agg [.int .i64 v193, .int .i64 v194, .bslc (BR.root 0) (.f32 v195)], .agg [.int .i64 v196, .int .i64 v197, .bslc (BR.root 1) (.f32 v198)]]) F.H0 ((spec_MulMatrices_enc v193 v194 v195 v196 v197 v198 y).1.av F) H' ∧ St F (spec_MulMatrices_enc v193 v194 v195 v196 v197 v198 y).2 H' ∧ (spec_MulMatrices_enc v193 v194 v195 v196 v197 v198 y).1.Ok F (spec_MulMatrices_enc v193 v194 v195 v196 v197 v198 y).2 :=
  fn_fin tok spec_MulMatrices_hO mixed Try.func87 Try.call87 (by kernel_rfl) (LoopsOk_eq (l := []) (by kernel_rfl) trivial) (spec_MulMatrices_den v193 v194 v195 v196 v197 v198) hy hm h0 hA
noncomputable def spec_MulMatrices_F : DFn := fun args L =>
  match args with
  | [.agg [.int .i64 v193, .int .i64 v194, a1], .agg [.int .i64 v196, .int .i64 v197, a2]] =>
    optT (rowF32 L a1) fun v195 =>
    optT (rowF32 L a2) fun v198 =>
    .call (spec_MulMatrices_g v193 v194 v195 v196 v197 v198) fun y => .sum y (fun y0 => .leaf (.tup [.agg [.int .i64 (0 : Int), .int .i64 (0 : Int), .nilslc], .lit false], L)) (fun z0 => .leaf (.tup [.agg [.int .i64 z0.1, .int .i64 z0.2.1, .own (L.length + 0) 0 ((z0.2.2).length)], .lit true], L ++ [.row (.f32 z0.2.2) 0]))
  | _ => .fail
theorem spec_MulMatrices_Fok : COk Try.prog 87 spec_MulMatrices_F true := by
  intro F L H args r L' hs ha hr
  unfold spec_MulMatrices_F at hr
  split at hr
  · rename_i v193 v194 a1 v196 v197 a2
    obtain ⟨v195, hv195, hr⟩ := optT_run hr
    obtain ⟨v198, hv198, hr⟩ := optT_run hr
    simp only [Tree.run] at hr
    obtain ⟨y, hy, hr⟩ := Option.bind_eq_some_iff.1 hr
    cases y with
    | inl y =>
      simp only [Tree.run, Option.some.injEq, Prod.mk.injEq] at hr
      obtain ⟨rfl, rfl⟩ := hr
      exact call_ok0 hs (fun k => (([a1.av F, a2.av F] : List AV)[k]?).getD .top) [.agg [.int .i64 v193, .int .i64 v194, a1], .agg [.int .i64 v196, .int .i64 v197, a2]] [.agg [.int .i64 v193, .int .i64 v194, .bslc (BR.root 0) (.f32 v195)], .agg [.int .i64 v196, .int .i64 v197, .bslc (BR.root 1) (.f32 v198)]] (fun F' h0 hi hρ => ⟨by simp [DVs.av, DV.av, BR.av, hρ], spec_MulMatrices_fn v193 v194 v195 v196 v197 v198 F' (by rw [hi]; rfl) (st_nil hi) ⟨⟨trivial, trivial, bslc_ok hi (by rw [h0, hρ]; exact rowF32_ok hs (DVs.okAt (DVs.okAt ha 0 rfl) 2 rfl) hv195), trivial⟩, ⟨trivial, trivial, bslc_ok hi (by rw [h0, hρ]; exact rowF32_ok hs (DVs.okAt (DVs.okAt ha 1 rfl) 2 rfl) hv198), trivial⟩, trivial⟩ hy⟩) rfl
    | inr y =>
      simp only [Tree.run, Option.some.injEq, Prod.mk.injEq] at hr
      obtain ⟨rfl, rfl⟩ := hr
      exact call_ok1 hs (fun k => (([a1.av F, a2.av F] : List AV)[k]?).getD .top) [.agg [.int .i64 v193, .int .i64 v194, a1], .agg [.int .i64 v196, .int .i64 v197, a2]] [.agg [.int .i64 v193, .int .i64 v194, .bslc (BR.root 0) (.f32 v195)], .agg [.int .i64 v196, .int .i64 v197, .bslc (BR.root 1) (.f32 v198)]] (fun F' h0 hi hρ => ⟨by simp [DVs.av, DV.av, BR.av, hρ], spec_MulMatrices_fn v193 v194 v195 v196 v197 v198 F' (by rw [hi]; rfl) (st_nil hi) ⟨⟨trivial, trivial, bslc_ok hi (by rw [h0, hρ]; exact rowF32_ok hs (DVs.okAt (DVs.okAt ha 0 rfl) 2 rfl) hv195), trivial⟩, ⟨trivial, trivial, bslc_ok hi (by rw [h0, hρ]; exact rowF32_ok hs (DVs.okAt (DVs.okAt ha 1 rfl) 2 rfl) hv198), trivial⟩, trivial⟩ hy⟩) rfl rfl
  · cases hr
/-! spec.ExpMatrix -/
noncomputable def spec_ExpMatrix_l0_T (s : Int × Int × Int × (List Nat)) : Tree ((Int × Int × Int × (List Nat)) ⊕ ((Unit) ⊕ (Int × Int × Int × (List Nat)))) :=
  (.br (decide (s.1 < (64 : Int))) (
   (.call (spec_RowNorm_g s.2.1 s.2.2.1 s.2.2.2) fun v157 =>
   (.sum v157 (fun v158 =>
    .leaf (.inr (.inl ()))
   ) (fun v159 =>
    (.br (!(fgrt .f32 v159 (1056964608 : Nat))) (
     .leaf (.inr (.inr (s.1, s.2.1, s.2.2.1, s.2.2.2)))
    ) (
     (.call (spec_l04Half_g s.2.1 s.2.2.1 s.2.2.2) fun v160 =>
     (.grd (decide (v160.2.2.length = s.2.2.2.length)) <|
     .leaf (.inl (IntKind.i64.wrap (s.1 + (1 : Int)), v160.1, v160.2.1, v160.2.2))))
    ))
   )))
  ) (
   .leaf (.inr (.inr (s.1, s.2.1, s.2.2.1, s.2.2.2)))
  ))

noncomputable def spec_ExpMatrix_l0_g (s0 : Int × Int × Int × (List Nat)) : Option ((Unit) ⊕ (Int × Int × Int × (List Nat))) := whileM (fun s => (spec_ExpMatrix_l0_T s).run) s0
def spec_ExpMatrix_l0_E (v23 : Int) (v24 : Int) (v25 : List Nat) (v26 : Int) (s : Int × Int × Int × (List Nat)) : Sd := ([.top, .int .i64 v26, .ptr 0 (0 : Nat) 0 (3 : Nat), .top, .ptr 1 (0 : Nat) 0 (3 : Nat), .top, .ptr 2 (0 : Nat) 0 (3 : Nat), .int .i64 s.1, .top, .top, .top, .top, .top, .top, .top, .top, .top, .top, .top, .top, .top, .top, .top, .top, .top, .top, .top, .top, .top, .top, .top, .top, .top, .top, .top, .top, .top, .top, .top, .top, .top, .top, .top, .top, .top, .top, .top, .top, .top, .top, .top, .top, .top, .top, .top, .top, .top, .top, .top, .top, .top, .top, .top, .top, .top, .top, .top, .top, .top, .top, .top, .top, .top, .top, .top, .top, .top, .top, .top, .top, .top, .top, .top, .top, .top, .top, .top, .top, .top, .top, .top, .top, .top, .top, .top, .top, .top, .top, .top, .top, .top, .top, .top, .top, .top, .top, .top, .top, .top, .top, .top, .top, .top, .top, .top, .top], [.gen [.int .i64 v23, .int .i64 v24, .bslc (BR.root 0) (.f32 v25)] false 0, .gen [.int .i64 (0 : Int), .int .i64 (0 : Int), .nilslc] false 0, .gen [.int .i64 s.2.1, .int .i64 s.2.2.1, .own 3 0 ((s.2.2.2).length)] false 0, .row (.f32 s.2.2.2) 0])
def spec_ExpMatrix_l0_X (v23 : Int) (v24 : Int) (v25 : List Nat) (v26 : Int) (x : (Unit) ⊕ (Int × Int × Int × (List Nat))) : Out := (match x with | .inl x => (.ret, [.top, .top, .top, .top, .ptr 0 (0 : Nat) 0 (3 : Nat), .lit false, .top, .top, .top, .top, .top, .top, .top, .top, .top, .top, .top, .top, .top, .top, .top, .top, .top, .top, .top, .top, .top, .top, .top, .top, .top, .top, .top, .top, .top, .top, .top, .top, .top, .top, .top, .top, .top, .top, .top, .top, .top, .top, .top, .top, .top, .top, .top, .top, .top, .top, .top, .top, .top, .top, .top, .top, .top, .top, .top, .top, .top, .top, .top, .top, .top, .top, .top, .top, .top, .top, .top, .top, .top, .top, .top, .top, .top, .top, .top, .top, .top, .top, .top, .top, .top, .top, .top, .top, .top, .top, .top, .top, .top, .top, .top, .top, .top, .top, .top, .top, .top, .top, .top, .top, .top, .top, .top, .top, .top, .top], [.gen [.int .i64 (0 : Int), .int .i64 (0 : Int), .nilslc] false 0]) | .inr x => (.normal, [.top, .int .i64 v26, .ptr 0 (0 : Nat) 0 (3 : Nat), .top, .ptr 1 (0 : Nat) 0 (3 : Nat), .top, .ptr 2 (0 : Nat) 0 (3 : Nat), .int .i64 x.1, .top, .top, .top, .top, .top, .top, .top, .top, .top, .top, .top, .top, .top, .top, .top, .top, .top, .top, .top, .top, .top, .top, .top, .top, .top, .top, .top, .top, .top, .top, .top, .top, .top, .top, .top, .top, .top, .top, .top, .top, .top, .top, .top, .top, .top, .top, .top, .top, .top, .top, .top, .top, .top, .top, .top, .top, .top, .top, .top, .top, .top, .top, .top, .top, .top, .top, .top, .top, .top, .top, .top, .top, .top, .top, .top, .top, .top, .top, .top, .top, .top, .top, .top, .top, .top, .top, .top, .top, .top, .top, .top, .top, .top, .top, .top, .top, .top, .top, .top, .top, .top, .top, .top, .top, .top, .top, .top, .top], [.gen [.int .i64 v23, .int .i64 v24, .bslc (BR.root 0) (.f32 v25)] false 0, .gen [.int .i64 (0 : Int), .int .i64 (0 : Int), .nilslc] false 0, .gen [.int .i64 x.2.1, .int .i64 x.2.2.1, .own 3 0 ((x.2.2.2).length)] false 0, .row (.f32 x.2.2.2) 0]))
def spec_ExpMatrix_l0_kill : List Nat := [1, 0, 0, 1, 0, 1, 0, 0, 1, 1, 1, 1, 1, 1, 1, 1, 1, 1, 1, 1, 1, 1, 1, 1, 1, 1, 1, 1, 1, 1, 1, 1, 1, 1, 1, 1, 1, 1, 1, 1, 1, 1, 1, 1, 1, 1, 1, 1, 1, 1, 1, 1, 1, 1, 1, 1, 1, 1, 1, 1, 1, 1, 1, 1, 1, 1, 1, 1, 1, 1, 1, 1, 1, 1, 1, 1, 1, 1, 1, 1, 1, 1, 1, 1, 1, 1, 1, 1, 1, 1, 1, 1, 1, 1, 1, 1, 1, 1, 1, 1, 1, 1, 1, 1, 1, 1, 1, 1, 1, 1, 1, 1, 1, 1, 1, 1]
def spec_ExpMatrix_l0_nx : Exit → List Nat
  | .exit 0 => [1, 0, 0, 1, 0, 1, 0, 0, 1, 1, 1, 1, 1, 1, 1, 1, 1, 1, 1, 1, 1, 1, 1, 1, 1, 1, 1, 1, 1, 1, 1, 1, 1, 1, 1, 1, 1, 1, 1, 1, 1, 1, 1, 1, 1, 1, 1, 1, 1, 1, 1, 1, 1, 1, 1, 1, 1, 1, 1, 1, 1, 1, 1, 1, 1, 1, 1, 1, 1, 1, 1, 1, 1, 1, 1, 1, 1, 1, 1, 1, 1, 1, 1, 1, 1, 1, 1, 1, 1, 1, 1, 1, 1, 1, 1, 1, 1, 1, 1, 1, 1, 1, 1, 1, 1, 1, 1, 1, 1, 1, 1, 1, 1, 1, 1, 1]
  | .ret => [1, 1, 1, 1, 0, 0, 1, 1, 1, 1, 1, 1, 1, 1, 1, 1, 1, 1, 1, 1, 1, 1, 1, 1, 1, 1, 1, 1, 1, 1, 1, 1, 1, 1, 1, 1, 1, 1, 1, 1, 1, 1, 1, 1, 1, 1, 1, 1, 1, 1, 1, 1, 1, 1, 1, 1, 1, 1, 1, 1, 1, 1, 1, 1, 1, 1, 1, 1, 1, 1, 1, 1, 1, 1, 1, 1, 1, 1, 1, 1, 1, 1, 1, 1, 1, 1, 1, 1, 1, 1, 1, 1, 1, 1, 1, 1, 1, 1, 1, 1, 1, 1, 1, 1, 1, 1, 1, 1, 1, 1, 1, 1, 1, 1, 1, 1]
  | _ => []
noncomputable def spec_ExpMatrix_l4_T (v413 : Int) (v414 : Int) (v416 : Int) (v417 : Int) (v418 : Int) (v419 : Int) (v420 : Int) (v421 : Int) (v422 : List Nat) (s : Int × (List Nat) × (List Nat)) : Tree ((Int × (List Nat) × (List Nat)) ⊕ ((List Nat) × (List Nat))) :=
  (.br (decide (s.1 < (((s.2.2).length : Nat) : Int))) (
   (.grd (inb s.1 ((s.2.2).length)) <|
   (.grd (inb s.1 ((s.2.2).length)) <|
   (.grd (inb s.1 ((s.2.1).length)) <|
   (.grd (inb s.1 ((s.2.2).length)) <|
   (.grd (inb s.1 ((s.2.1).length)) <|
   .leaf (.inl (IntKind.i64.wrap (s.1 + (1 : Int)), List.set s.2.1 (Int.toNat s.1) (fadd .f32 (nth s.2.1 (Int.toNat s.1)) (nth (List.set s.2.2 (Int.toNat s.1) (fdiv .f32 (nth s.2.2 (Int.toNat s.1)) (fofint .f32 v414))) (Int.toNat s.1))), List.set s.2.2 (Int.toNat s.1) (fdiv .f32 (nth s.2.2 (Int.toNat s.1)) (fofint .f32 v414)))))))))
  ) (
   .leaf (.inr (s.2.1, s.2.2))
  ))

noncomputable def spec_ExpMatrix_l4_g (v413 : Int) (v414 : Int) (v416 : Int) (v417 : Int) (v418 : Int) (v419 : Int) (v420 : Int) (v421 : Int) (v422 : List Nat) (s0 : Int × (List Nat) × (List Nat)) : Option ((List Nat) × (List Nat)) := whileM (fun s => (spec_ExpMatrix_l4_T v413 v414 v416 v417 v418 v419 v420 v421 v422 s).run) s0
def spec_ExpMatrix_l4_E (v23 : Int) (v24 : Int) (v25 : List Nat) (v26 : Int) (v413 : Int) (v414 : Int) (v416 : Int) (v417 : Int) (v418 : Int) (v419 : Int) (v420 : Int) (v421 : Int) (v422 : List Nat) (s : Int × (List Nat) × (List Nat)) : Sd := ([.top, .int .i64 v26, .top, .top, .ptr 0 (0 : Nat) 0 (3 : Nat), .top, .ptr 1 (0 : Nat) 0 (3 : Nat), .int .i64 v413, .top, .top, .ptr 2 (0 : Nat) 0 (3 : Nat), .ptr 3 (0 : Nat) 0 (3 : Nat), .int .i64 v414, .top, .top, .int .i64 s.1, .top, .top, .top, .top, .top, .top, .top, .top, .top, .top, .top, .top, .top, .top, .top, .top, .top, .top, .top, .top, .top, .top, .top, .top, .top, .top, .top, .top, .top, .top, .top, .top, .top, .top, .top, .top, .top, .top, .top, .top, .top, .top, .top, .top, .top, .top, .top, .top, .top, .top, .top, .top, .top, .top, .top, .top, .top, .top, .top, .top, .top, .top, .top, .top, .top, .top, .top, .top, .top, .top, .top, .top, .top, .top, .top, .top, .top, .top, .top, .top, .top, .top, .top, .top, .top, .top, .top, .top, .top, .top, .top, .top, .top, .top, .top, .top, .top, .top, .top, .top], [.gen [.int .i64 (0 : Int), .int .i64 (0 : Int), .nilslc] false 0, .gen [.int .i64 v416, .int .i64 v417, .own 4 0 ((v422).length)] false 0, .gen [.int .i64 v418, .int .i64 v419, .own 5 0 ((s.2.1).length)] false 0, .gen [.int .i64 v420, .int .i64 v421, .own 6 0 ((s.2.2).length)] false 0, .row (.f32 v422) 0, .row (.f32 s.2.1) 0, .row (.f32 s.2.2) 0])
def spec_ExpMatrix_l4_X (v23 : Int) (v24 : Int) (v25 : List Nat) (v26 : Int) (v413 : Int) (v414 : Int) (v416 : Int) (v417 : Int) (v418 : Int) (v419 : Int) (v420 : Int) (v421 : Int) (v422 : List Nat) (x : (List Nat) × (List Nat)) : Out := (.normal, [.top, .int .i64 v26, .top, .top, .ptr 0 (0 : Nat) 0 (3 : Nat), .top, .ptr 1 (0 : Nat) 0 (3 : Nat), .int .i64 v413, .top, .top, .ptr 2 (0 : Nat) 0 (3 : Nat), .ptr 3 (0 : Nat) 0 (3 : Nat), .int .i64 v414, .top, .top, .top, .top, .top, .top, .top, .top, .top, .top, .top, .top, .top, .top, .top, .top, .top, .top, .top, .top, .top, .top, .top, .top, .top, .top, .top, .top, .top, .top, .top, .top, .top, .top, .top, .top, .top, .top, .top, .top, .top, .top, .top, .top, .top, .top, .top, .top, .top, .top, .top, .top, .top, .top, .top, .top, .top, .top, .top, .top, .top, .top, .top, .top, .top, .top, .top, .top, .top, .top, .top, .top, .top, .top, .top, .top, .top, .top, .top, .top, .top, .top, .top, .top, .top, .top, .top, .top, .top, .top, .top, .top, .top, .top, .top, .top, .top, .top, .top, .top, .top, .top, .top], [.gen [.int .i64 (0 : Int), .int .i64 (0 : Int), .nilslc] false 0, .gen [.int .i64 v416, .int .i64 v417, .own 4 0 ((v422).length)] false 0, .gen [.int .i64 v418, .int .i64 v419, .own 5 0 ((x.1).length)] false 0, .gen [.int .i64 v420, .int .i64 v421, .own 6 0 ((x.2).length)] false 0, .row (.f32 v422) 0, .row (.f32 x.1) 0, .row (.f32 x.2) 0])
def spec_ExpMatrix_l4_kill : List Nat := [1, 0, 1, 1, 0, 1, 0, 0, 1, 1, 0, 0, 0, 1, 1, 0, 1, 1, 1, 1, 1, 1, 1, 1, 1, 1, 1, 1, 1, 1, 1, 1, 1, 1, 1, 1, 1, 1, 1, 1, 1, 1, 1, 1, 1, 1, 1, 1, 1, 1, 1, 1, 1, 1, 1, 1, 1, 1, 1, 1, 1, 1, 1, 1, 1, 1, 1, 1, 1, 1, 1, 1, 1, 1, 1, 1, 1, 1, 1, 1, 1, 1, 1, 1, 1, 1, 1, 1, 1, 1, 1, 1, 1, 1, 1, 1, 1, 1, 1, 1, 1, 1, 1, 1, 1, 1, 1, 1, 1, 1, 1, 1, 1, 1, 1, 1]
def spec_ExpMatrix_l4_nx : Exit → List Nat
  | .exit 2 => [1, 1, 1, 1, 0, 1, 1, 0, 1, 1, 0, 1, 1, 1, 1, 1, 1, 1, 1, 1, 1, 1, 1, 1, 1, 1, 1, 1, 1, 1, 1, 1, 1, 1, 1, 1, 1, 1, 1, 1, 1, 1, 1, 1, 1, 1, 1, 1, 1, 1, 1, 1, 1, 1, 1, 1, 1, 1, 1, 1, 1, 1, 1, 1, 1, 1, 1, 1, 1, 1, 1, 1, 1, 1, 1, 1, 1, 1, 1, 1, 1, 1, 1, 1, 1, 1, 1, 1, 1, 1, 1, 1, 1, 1, 1, 1, 1, 1, 1, 1, 1, 1, 1, 1, 1, 1, 1, 1, 1, 1, 1, 1, 1, 1, 1, 1]
  | .exit 3 => [1, 0, 1, 1, 0, 1, 0, 0, 1, 1, 0, 0, 0, 1, 1, 1, 1, 1, 1, 1, 1, 1, 1, 1, 1, 1, 1, 1, 1, 1, 1, 1, 1, 1, 1, 1, 1, 1, 1, 1, 1, 1, 1, 1, 1, 1, 1, 1, 1, 1, 1, 1, 1, 1, 1, 1, 1, 1, 1, 1, 1, 1, 1, 1, 1, 1, 1, 1, 1, 1, 1, 1, 1, 1, 1, 1, 1, 1, 1, 1, 1, 1, 1, 1, 1, 1, 1, 1, 1, 1, 1, 1, 1, 1, 1, 1, 1, 1, 1, 1, 1, 1, 1, 1, 1, 1, 1, 1, 1, 1, 1, 1, 1, 1, 1, 1]
  | .exit 4 => [1, 0, 1, 1, 0, 1, 0, 0, 1, 1, 0, 0, 0, 1, 1, 1, 1, 1, 1, 1, 1, 1, 1, 1, 1, 1, 1, 1, 1, 1, 1, 1, 1, 1, 1, 1, 1, 1, 1, 1, 1, 1, 1, 1, 1, 1, 1, 1, 1, 1, 1, 1, 1, 1, 1, 1, 1, 1, 1, 1, 1, 1, 1, 1, 1, 1, 1, 1, 1, 1, 1, 1, 1, 1, 1, 1, 1, 1, 1, 1, 1, 1, 1, 1, 1, 1, 1, 1, 1, 1, 1, 1, 1, 1, 1, 1, 1, 1, 1, 1, 1, 1, 1, 1, 1, 1, 1, 1, 1, 1, 1, 1, 1, 1, 1, 1]
  | .ret => [1, 1, 1, 1, 0, 0, 1, 1, 1, 1, 1, 1, 1, 1, 1, 1, 1, 1, 1, 1, 1, 1, 1, 1, 1, 1, 1, 1, 1, 1, 1, 1, 1, 1, 1, 1, 1, 1, 1, 1, 1, 1, 1, 1, 1, 1, 1, 1, 1, 1, 1, 1, 1, 1, 1, 1, 1, 1, 1, 1, 1, 1, 1, 1, 1, 1, 1, 1, 1, 1, 1, 1, 1, 1, 1, 1, 1, 1, 1, 1, 1, 1, 1, 1, 1, 1, 1, 1, 1, 1, 1, 1, 1, 1, 1, 1, 1, 1, 1, 1, 1, 1, 1, 1, 1, 1, 1, 1, 1, 1, 1, 1, 1, 1, 1, 1]
  | _ => []
noncomputable def spec_ExpMatrix_l2_T (v23 : Int) (v24 : Int) (v25 : List Nat) (v26 : Int) (v375 : Int) (v377 : Int) (v378 : Int) (v379 : Int) (v380 : Int) (v383 : List Nat) (s : Int × Int × Int × (List Nat) × (List Nat)) : Tree ((Int × Int × Int × (List Nat) × (List Nat)) ⊕ ((Unit) ⊕ ((List Nat)))) :=
  (.br (decide (s.1 ≤ v26)) (
   (.call (spec_MulMatrices_g s.2.1 s.2.2.1 s.2.2.2.2 v377 v378 v383) fun v386 =>
   (.sum v386 (fun v387 =>
    .leaf (.inr (.inl ()))
   ) (fun v388 =>
    (.need (some (spec_ExpMatrix_l4_E v23 v24 v25 v26 v375 s.1 v377 v378 v379 v380 v388.1 v388.2.1 v383 ((0 : Int), s.2.2.2.1, v388.2.2)) = some (spec_ExpMatrix_l4_E v23 v24 v25 v26 v375 s.1 v377 v378 v379 v380 v388.1 v388.2.1 v383 ((0 : Int), s.2.2.2.1, v388.2.2))) <|
    (.call (spec_ExpMatrix_l4_g v375 s.1 v377 v378 v379 v380 v388.1 v388.2.1 v383 ((0 : Int), s.2.2.2.1, v388.2.2)) fun v425 =>
    .leaf (.inl (IntKind.i64.wrap (s.1 + (1 : Int)), v388.1, v388.2.1, v425.1, v425.2))))
   )))
  ) (
   .leaf (.inr (.inr s.2.2.2.1))
  ))

noncomputable def spec_ExpMatrix_l2_g (v23 : Int) (v24 : Int) (v25 : List Nat) (v26 : Int) (v375 : Int) (v377 : Int) (v378 : Int) (v379 : Int) (v380 : Int) (v383 : List Nat) (s0 : Int × Int × Int × (List Nat) × (List Nat)) : Option ((Unit) ⊕ ((List Nat))) := whileM (fun s => (spec_ExpMatrix_l2_T v23 v24 v25 v26 v375 v377 v378 v379 v380 v383 s).run) s0
def spec_ExpMatrix_l2_E (v23 : Int) (v24 : Int) (v25 : List Nat) (v26 : Int) (v375 : Int) (v377 : Int) (v378 : Int) (v379 : Int) (v380 : Int) (v383 : List Nat) (s : Int × Int × Int × (List Nat) × (List Nat)) : Sd := ([.top, .int .i64 v26, .top, .top, .ptr 0 (0 : Nat) 0 (3 : Nat), .top, .ptr 1 (0 : Nat) 0 (3 : Nat), .int .i64 v375, .top, .top, .ptr 2 (0 : Nat) 0 (3 : Nat), .ptr 3 (0 : Nat) 0 (3 : Nat), .int .i64 s.1, .top, .top, .top, .top, .top, .top, .top, .top, .top, .top, .top, .top, .top, .top, .top, .top, .top, .top, .top, .top, .top, .top, .top, .top, .top, .top, .top, .top, .top, .top, .top, .top, .top, .top, .top, .top, .top, .top, .top, .top, .top, .top, .top, .top, .top, .top, .top, .top, .top, .top, .top, .top, .top, .top, .top, .top, .top, .top, .top, .top, .top, .top, .top, .top, .top, .top, .top, .top, .top, .top, .top, .top, .top, .top, .top, .top, .top, .top, .top, .top, .top, .top, .top, .top, .top, .top, .top, .top, .top, .top, .top, .top, .top, .top, .top, .top, .top, .top, .top, .top, .top, .top, .top], [.gen [.int .i64 (0 : Int), .int .i64 (0 : Int), .nilslc] false 0, .gen [.int .i64 v377, .int .i64 v378, .own 4 0 ((v383).length)] false 0, .gen [.int .i64 v379, .int .i64 v380, .own 5 0 ((s.2.2.2.1).length)] false 0, .gen [.int .i64 s.2.1, .int .i64 s.2.2.1, .own 6 0 ((s.2.2.2.2).length)] false 0, .row (.f32 v383) 0, .row (.f32 s.2.2.2.1) 0, .row (.f32 s.2.2.2.2) 0])
def spec_ExpMatrix_l2_X (v23 : Int) (v24 : Int) (v25 : List Nat) (v26 : Int) (v375 : Int) (v377 : Int) (v378 : Int) (v379 : Int) (v380 : Int) (v383 : List Nat) (x : (Unit) ⊕ ((List Nat))) : Out := (match x with | .inl x => (.ret, [.top, .top, .top, .top, .ptr 0 (0 : Nat) 0 (3 : Nat), .lit false, .top, .top, .top, .top, .top, .top, .top, .top, .top, .top, .top, .top, .top, .top, .top, .top, .top, .top, .top, .top, .top, .top, .top, .top, .top, .top, .top, .top, .top, .top, .top, .top, .top, .top, .top, .top, .top, .top, .top, .top, .top, .top, .top, .top, .top, .top, .top, .top, .top, .top, .top, .top, .top, .top, .top, .top, .top, .top, .top, .top, .top, .top, .top, .top, .top, .top, .top, .top, .top, .top, .top, .top, .top, .top, .top, .top, .top, .top, .top, .top, .top, .top, .top, .top, .top, .top, .top, .top, .top, .top, .top, .top, .top, .top, .top, .top, .top, .top, .top, .top, .top, .top, .top, .top, .top, .top, .top, .top, .top, .top], [.gen [.int .i64 (0 : Int), .int .i64 (0 : Int), .nilslc] false 0]) | .inr x => (.normal, [.top, .top, .top, .top, .ptr 0 (0 : Nat) 0 (3 : Nat), .top, .top, .int .i64 v375, .top, .top, .ptr 1 (0 : Nat) 0 (3 : Nat), .top, .top, .top, .top, .top, .top, .top, .top, .top, .top, .top, .top, .top, .top, .top, .top, .top, .top, .top, .top, .top, .top, .top, .top, .top, .top, .top, .top, .top, .top, .top, .top, .top, .top, .top, .top, .top, .top, .top, .top, .top, .top, .top, .top, .top, .top, .top, .top, .top, .top, .top, .top, .top, .top, .top, .top, .top, .top, .top, .top, .top, .top, .top, .top, .top, .top, .top, .top, .top, .top, .top, .top, .top, .top, .top, .top, .top, .top, .top, .top, .top, .top, .top, .top, .top, .top, .top, .top, .top, .top, .top, .top, .top, .top, .top, .top, .top, .top, .top, .top, .top, .top, .top, .top, .top], [.gen [.int .i64 (0 : Int), .int .i64 (0 : Int), .nilslc] false 0, .gen [.int .i64 v379, .int .i64 v380, .own 2 0 ((x).length)] false 0, .row (.f32 x) 0]))
def spec_ExpMatrix_l2_kill : List Nat := [1, 0, 1, 1, 0, 1, 0, 0, 1, 1, 0, 0, 0, 1, 1, 1, 1, 1, 1, 1, 1, 1, 1, 1, 1, 1, 1, 1, 1, 1, 1, 1, 1, 1, 1, 1, 1, 1, 1, 1, 1, 1, 1, 1, 1, 1, 1, 1, 1, 1, 1, 1, 1, 1, 1, 1, 1, 1, 1, 1, 1, 1, 1, 1, 1, 1, 1, 1, 1, 1, 1, 1, 1, 1, 1, 1, 1, 1, 1, 1, 1, 1, 1, 1, 1, 1, 1, 1, 1, 1, 1, 1, 1, 1, 1, 1, 1, 1, 1, 1, 1, 1, 1, 1, 1, 1, 1, 1, 1, 1, 1, 1, 1, 1, 1, 1]
def spec_ExpMatrix_l2_nx : Exit → List Nat
  | .exit 2 => [1, 1, 1, 1, 0, 1, 1, 0, 1, 1, 0, 1, 1, 1, 1, 1, 1, 1, 1, 1, 1, 1, 1, 1, 1, 1, 1, 1, 1, 1, 1, 1, 1, 1, 1, 1, 1, 1, 1, 1, 1, 1, 1, 1, 1, 1, 1, 1, 1, 1, 1, 1, 1, 1, 1, 1, 1, 1, 1, 1, 1, 1, 1, 1, 1, 1, 1, 1, 1, 1, 1, 1, 1, 1, 1, 1, 1, 1, 1, 1, 1, 1, 1, 1, 1, 1, 1, 1, 1, 1, 1, 1, 1, 1, 1, 1, 1, 1, 1, 1, 1, 1, 1, 1, 1, 1, 1, 1, 1, 1, 1, 1, 1, 1, 1, 1]
  | .ret => [1, 1, 1, 1, 0, 0, 1, 1, 1, 1, 1, 1, 1, 1, 1, 1, 1, 1, 1, 1, 1, 1, 1, 1, 1, 1, 1, 1, 1, 1, 1, 1, 1, 1, 1, 1, 1, 1, 1, 1, 1, 1, 1, 1, 1, 1, 1, 1, 1, 1, 1, 1, 1, 1, 1, 1, 1, 1, 1, 1, 1, 1, 1, 1, 1, 1, 1, 1, 1, 1, 1, 1, 1, 1, 1, 1, 1, 1, 1, 1, 1, 1, 1, 1, 1, 1, 1, 1, 1, 1, 1, 1, 1, 1, 1, 1, 1, 1, 1, 1, 1, 1, 1, 1, 1, 1, 1, 1, 1, 1, 1, 1, 1, 1, 1, 1]
  | _ => []
noncomputable def spec_ExpMatrix_l6_T (s : Int × Int × Int × (List Nat)) : Tree ((Int × Int × Int × (List Nat)) ⊕ ((Unit) ⊕ (Int × Int × (List Nat)))) :=
  (.br (decide ((0 : Int) < s.1)) (
   (.call (spec_MulMatrices_g s.2.1 s.2.2.1 s.2.2.2 s.2.1 s.2.2.1 s.2.2.2) fun v447 =>
   (.sum v447 (fun v448 =>
    .leaf (.inr (.inl ()))
   ) (fun v449 =>
    .leaf (.inl (IntKind.i64.wrap (s.1 - (1 : Int)), v449.1, v449.2.1, v449.2.2))
   )))
  ) (
   .leaf (.inr (.inr (s.2.1, s.2.2.1, s.2.2.2)))
  ))

noncomputable def spec_ExpMatrix_l6_g (s0 : Int × Int × Int × (List Nat)) : Option ((Unit) ⊕ (Int × Int × (List Nat))) := whileM (fun s => (spec_ExpMatrix_l6_T s).run) s0
def spec_ExpMatrix_l6_E (v23 : Int) (v24 : Int) (v25 : List Nat) (v26 : Int) (s : Int × Int × Int × (List Nat)) : Sd := ([.top, .top, .top, .top, .ptr 0 (0 : Nat) 0 (3 : Nat), .top, .top, .int .i64 s.1, .top, .top, .ptr 1 (0 : Nat) 0 (3 : Nat), .top, .top, .top, .top, .top, .top, .top, .top, .top, .top, .top, .top, .top, .top, .top, .top, .top, .top, .top, .top, .top, .top, .top, .top, .top, .top, .top, .top, .top, .top, .top, .top, .top, .top, .top, .top, .top, .top, .top, .top, .top, .top, .top, .top, .top, .top, .top, .top, .top, .top, .top, .top, .top, .top, .top, .top, .top, .top, .top, .top, .top, .top, .top, .top, .top, .top, .top, .top, .top, .top, .top, .top, .top, .top, .top, .top, .top, .top, .top, .top, .top, .top, .top, .top, .top, .top, .top, .top, .top, .top, .top, .top, .top, .top, .top, .top, .top, .top, .top, .top, .top, .top, .top, .top, .top], [.gen [.int .i64 (0 : Int), .int .i64 (0 : Int), .nilslc] false 0, .gen [.int .i64 s.2.1, .int .i64 s.2.2.1, .own 2 0 ((s.2.2.2).length)] false 0, .row (.f32 s.2.2.2) 0])
def spec_ExpMatrix_l6_X (v23 : Int) (v24 : Int) (v25 : List Nat) (v26 : Int) (x : (Unit) ⊕ (Int × Int × (List Nat))) : Out := (match x with | .inl x => (.ret, [.top, .top, .top, .top, .ptr 0 (0 : Nat) 0 (3 : Nat), .lit false, .top, .top, .top, .top, .top, .top, .top, .top, .top, .top, .top, .top, .top, .top, .top, .top, .top, .top, .top, .top, .top, .top, .top, .top, .top, .top, .top, .top, .top, .top, .top, .top, .top, .top, .top, .top, .top, .top, .top, .top, .top, .top, .top, .top, .top, .top, .top, .top, .top, .top, .top, .top, .top, .top, .top, .top, .top, .top, .top, .top, .top, .top, .top, .top, .top, .top, .top, .top, .top, .top, .top, .top, .top, .top, .top, .top, .top, .top, .top, .top, .top, .top, .top, .top, .top, .top, .top, .top, .top, .top, .top, .top, .top, .top, .top, .top, .top, .top, .top, .top, .top, .top, .top, .top, .top, .top, .top, .top, .top, .top], [.gen [.int .i64 (0 : Int), .int .i64 (0 : Int), .nilslc] false 0]) | .inr x => (.normal, [.top, .top, .top, .top, .ptr 0 (0 : Nat) 0 (3 : Nat), .top, .top, .top, .top, .top, .ptr 1 (0 : Nat) 0 (3 : Nat), .top, .top, .top, .top, .top, .top, .top, .top, .top, .top, .top, .top, .top, .top, .top, .top, .top, .top, .top, .top, .top, .top, .top, .top, .top, .top, .top, .top, .top, .top, .top, .top, .top, .top, .top, .top, .top, .top, .top, .top, .top, .top, .top, .top, .top, .top, .top, .top, .top, .top, .top, .top, .top, .top, .top, .top, .top, .top, .top, .top, .top, .top, .top, .top, .top, .top, .top, .top, .top, .top, .top, .top, .top, .top, .top, .top, .top, .top, .top, .top, .top, .top, .top, .top, .top, .top, .top, .top, .top, .top, .top, .top, .top, .top, .top, .top, .top, .top, .top, .top, .top, .top, .top, .top, .top], [.gen [.int .i64 (0 : Int), .int .i64 (0 : Int), .nilslc] false 0, .gen [.int .i64 x.1, .int .i64 x.2.1, .own 2 0 ((x.2.2).length)] false 0, .row (.f32 x.2.2) 0]))
def spec_ExpMatrix_l6_kill : List Nat := [1, 1, 1, 1, 0, 1, 1, 0, 1, 1, 0, 1, 1, 1, 1, 1, 1, 1, 1, 1, 1, 1, 1, 1, 1, 1, 1, 1, 1, 1, 1, 1, 1, 1, 1, 1, 1, 1, 1, 1, 1, 1, 1, 1, 1, 1, 1, 1, 1, 1, 1, 1, 1, 1, 1, 1, 1, 1, 1, 1, 1, 1, 1, 1, 1, 1, 1, 1, 1, 1, 1, 1, 1, 1, 1, 1, 1, 1, 1, 1, 1, 1, 1, 1, 1, 1, 1, 1, 1, 1, 1, 1, 1, 1, 1, 1, 1, 1, 1, 1, 1, 1, 1, 1, 1, 1, 1, 1, 1, 1, 1, 1, 1, 1, 1, 1]
def spec_ExpMatrix_l6_nx : Exit → List Nat
  | .exit 6 => [1, 1, 1, 1, 0, 1, 1, 1, 1, 1, 0, 1, 1, 1, 1, 1, 1, 1, 1, 1, 1, 1, 1, 1, 1, 1, 1, 1, 1, 1, 1, 1, 1, 1, 1, 1, 1, 1, 1, 1, 1, 1, 1, 1, 1, 1, 1, 1, 1, 1, 1, 1, 1, 1, 1, 1, 1, 1, 1, 1, 1, 1, 1, 1, 1, 1, 1, 1, 1, 1, 1, 1, 1, 1, 1, 1, 1, 1, 1, 1, 1, 1, 1, 1, 1, 1, 1, 1, 1, 1, 1, 1, 1, 1, 1, 1, 1, 1, 1, 1, 1, 1, 1, 1, 1, 1, 1, 1, 1, 1, 1, 1, 1, 1, 1, 1]
  | .ret => [1, 1, 1, 1, 0, 0, 1, 1, 1, 1, 1, 1, 1, 1, 1, 1, 1, 1, 1, 1, 1, 1, 1, 1, 1, 1, 1, 1, 1, 1, 1, 1, 1, 1, 1, 1, 1, 1, 1, 1, 1, 1, 1, 1, 1, 1, 1, 1, 1, 1, 1, 1, 1, 1, 1, 1, 1, 1, 1, 1, 1, 1, 1, 1, 1, 1, 1, 1, 1, 1, 1, 1, 1, 1, 1, 1, 1, 1, 1, 1, 1, 1, 1, 1, 1, 1, 1, 1, 1, 1, 1, 1, 1, 1, 1, 1, 1, 1, 1, 1, 1, 1, 1, 1, 1, 1, 1, 1, 1, 1, 1, 1, 1, 1, 1, 1]
  | _ => []
noncomputable def spec_ExpMatrix_LO (v23 : Int) (v24 : Int) (v25 : List Nat) (v26 : Int) : LOr := fun id e L =>
  match id with
  | 0 => .need (normA 0 spec_ExpMatrix_l0_kill e L = some (spec_ExpMatrix_l0_E v23 v24 v25 v26 ((gI (vAt e 7)), (gI (cAt L (vAt e 6) 0)), (gI (cAt L (vAt e 6) 1)), (gRF L (cAt L (vAt e 6) 2))))) (.call (spec_ExpMatrix_l0_g ((gI (vAt e 7)), (gI (cAt L (vAt e 6) 0)), (gI (cAt L (vAt e 6) 1)), (gRF L (cAt L (vAt e 6) 2)))) fun x => .sum x (fun b0 => .leaf (spec_ExpMatrix_l0_X v23 v24 v25 v26 (.inl b0))) (fun c0 => .leaf (spec_ExpMatrix_l0_X v23 v24 v25 v26 (.inr c0))))
  | 4 => .need (normA 0 spec_ExpMatrix_l4_kill e L = some (spec_ExpMatrix_l4_E v23 v24 v25 v26 (gI (vAt e 7)) (gI (vAt e 12)) (gI (cAt L (vAt e 6) 0)) (gI (cAt L (vAt e 6) 1)) (gI (cAt L (vAt e 10) 0)) (gI (cAt L (vAt e 10) 1)) (gI (cAt L (vAt e 11) 0)) (gI (cAt L (vAt e 11) 1)) (gRF L (cAt L (vAt e 6) 2)) ((gI (vAt e 15)), (gRF L (cAt L (vAt e 10) 2)), (gRF L (cAt L (vAt e 11) 2))))) (.call (spec_ExpMatrix_l4_g (gI (vAt e 7)) (gI (vAt e 12)) (gI (cAt L (vAt e 6) 0)) (gI (cAt L (vAt e 6) 1)) (gI (cAt L (vAt e 10) 0)) (gI (cAt L (vAt e 10) 1)) (gI (cAt L (vAt e 11) 0)) (gI (cAt L (vAt e 11) 1)) (gRF L (cAt L (vAt e 6) 2)) ((gI (vAt e 15)), (gRF L (cAt L (vAt e 10) 2)), (gRF L (cAt L (vAt e 11) 2)))) fun x => .leaf (spec_ExpMatrix_l4_X v23 v24 v25 v26 (gI (vAt e 7)) (gI (vAt e 12)) (gI (cAt L (vAt e 6) 0)) (gI (cAt L (vAt e 6) 1)) (gI (cAt L (vAt e 10) 0)) (gI (cAt L (vAt e 10) 1)) (gI (cAt L (vAt e 11) 0)) (gI (cAt L (vAt e 11) 1)) (gRF L (cAt L (vAt e 6) 2)) x))
  | 2 => .need (normA 0 spec_ExpMatrix_l2_kill e L = some (spec_ExpMatrix_l2_E v23 v24 v25 v26 (gI (vAt e 7)) (gI (cAt L (vAt e 6) 0)) (gI (cAt L (vAt e 6) 1)) (gI (cAt L (vAt e 10) 0)) (gI (cAt L (vAt e 10) 1)) (gRF L (cAt L (vAt e 6) 2)) ((gI (vAt e 12)), (gI (cAt L (vAt e 11) 0)), (gI (cAt L (vAt e 11) 1)), (gRF L (cAt L (vAt e 10) 2)), (gRF L (cAt L (vAt e 11) 2))))) (.call (spec_ExpMatrix_l2_g v23 v24 v25 v26 (gI (vAt e 7)) (gI (cAt L (vAt e 6) 0)) (gI (cAt L (vAt e 6) 1)) (gI (cAt L (vAt e 10) 0)) (gI (cAt L (vAt e 10) 1)) (gRF L (cAt L (vAt e 6) 2)) ((gI (vAt e 12)), (gI (cAt L (vAt e 11) 0)), (gI (cAt L (vAt e 11) 1)), (gRF L (cAt L (vAt e 10) 2)), (gRF L (cAt L (vAt e 11) 2)))) fun x => .sum x (fun b0 => .leaf (spec_ExpMatrix_l2_X v23 v24 v25 v26 (gI (vAt e 7)) (gI (cAt L (vAt e 6) 0)) (gI (cAt L (vAt e 6) 1)) (gI (cAt L (vAt e 10) 0)) (gI (cAt L (vAt e 10) 1)) (gRF L (cAt L (vAt e 6) 2)) (.inl b0))) (fun c0 => .leaf (spec_ExpMatrix_l2_X v23 v24 v25 v26 (gI (vAt e 7)) (gI (cAt L (vAt e 6) 0)) (gI (cAt L (vAt e 6) 1)) (gI (cAt L (vAt e 10) 0)) (gI (cAt L (vAt e 10) 1)) (gRF L (cAt L (vAt e 6) 2)) (.inr c0))))
  | 6 => .need (normA 0 spec_ExpMatrix_l6_kill e L = some (spec_ExpMatrix_l6_E v23 v24 v25 v26 ((gI (vAt e 7)), (gI (cAt L (vAt e 10) 0)), (gI (cAt L (vAt e 10) 1)), (gRF L (cAt L (vAt e 10) 2))))) (.call (spec_ExpMatrix_l6_g ((gI (vAt e 7)), (gI (cAt L (vAt e 10) 0)), (gI (cAt L (vAt e 10) 1)), (gRF L (cAt L (vAt e 10) 2)))) fun x => .sum x (fun b0 => .leaf (spec_ExpMatrix_l6_X v23 v24 v25 v26 (.inl b0))) (fun c0 => .leaf (spec_ExpMatrix_l6_X v23 v24 v25 v26 (.inr c0))))
  | _ => .fail
noncomputable def spec_ExpMatrix_tab : List (FuncId × DFn × Bool) := [(82, spec_l02Square_F, true), (71, spec_l00In_F, true), (83, spec_l02Own_F, true), (84, spec_RowNorm_F, true), (85, spec_l04Half_F, false), (86, spec_l02Unit_F, true), (87, spec_MulMatrices_F, true), (88, spec_l02Give_F, true)]
theorem spec_ExpMatrix_hO : OrcOk Try.prog (tabD spec_ExpMatrix_tab) (tabM spec_ExpMatrix_tab) := tabD_cons spec_l02Square_Fok (tabD_cons spec_l00In_Fok (tabD_cons spec_l02Own_Fok (tabD_cons spec_RowNorm_Fok (tabD_cons spec_l04Half_Fok (tabD_cons spec_l02Unit_Fok (tabD_cons spec_MulMatrices_Fok (tabD_cons spec_l02Give_Fok (tabD_nil _))))))))
theorem spec_ExpMatrix_l0_be (v23 : Int) (v24 : Int) (v25 : List Nat) (v26 : Int) (s : Int × Int × Int × (List Nat)) : bodyT TT (tabD spec_ExpMatrix_tab) (tabM spec_ExpMatrix_tab) (spec_ExpMatrix_LO v23 v24 v25 v26) 0 spec_ExpMatrix_l0_kill spec_ExpMatrix_l0_nx (bodyOf Try.f30 0) 0 (spec_ExpMatrix_l0_E v23 v24 v25 v26 s) = (spec_ExpMatrix_l0_T s).bind fun y => .leaf (outS (spec_ExpMatrix_l0_E v23 v24 v25 v26) (spec_ExpMatrix_l0_X v23 v24 v25 v26) y) := by kernel_rfl
theorem spec_ExpMatrix_l0_ok (v23 : Int) (v24 : Int) (v25 : List Nat) (v26 : Int) : LSound Try.prog 0 (spec_ExpMatrix_LO v23 v24 v25 v26) 0 (bodyOf Try.f30 0) := by
  intro e L out h
  exact lo_ok (E := spec_ExpMatrix_l0_E v23 v24 v25 v26) (gT := spec_ExpMatrix_l0_T) (X := spec_ExpMatrix_l0_X v23 v24 v25 v26) (s0 := ((gI (vAt e 7)), (gI (cAt L (vAt e 6) 0)), (gI (cAt L (vAt e 6) 1)), (gRF L (cAt L (vAt e 6) 2)))) tok spec_ExpMatrix_hO mixed (LoopsOk_eq (l := []) (by kernel_rfl) trivial) (spec_ExpMatrix_l0_be v23 v24 v25 v26) rfl (by intro x; (cases x with | inl b => rfl | inr x => exact rfl)) h
theorem spec_ExpMatrix_l4_be (v23 : Int) (v24 : Int) (v25 : List Nat) (v26 : Int) (v413 : Int) (v414 : Int) (v416 : Int) (v417 : Int) (v418 : Int) (v419 : Int) (v420 : Int) (v421 : Int) (v422 : List Nat) (s : Int × (List Nat) × (List Nat)) : bodyT TT (tabD spec_ExpMatrix_tab) (tabM spec_ExpMatrix_tab) (spec_ExpMatrix_LO v23 v24 v25 v26) 0 spec_ExpMatrix_l4_kill spec_ExpMatrix_l4_nx (bodyOf Try.f30 4) 4 (spec_ExpMatrix_l4_E v23 v24 v25 v26 v413 v414 v416 v417 v418 v419 v420 v421 v422 s) = (spec_ExpMatrix_l4_T v413 v414 v416 v417 v418 v419 v420 v421 v422 s).bind fun y => .leaf (outS (spec_ExpMatrix_l4_E v23 v24 v25 v26 v413 v414 v416 v417 v418 v419 v420 v421 v422) (spec_ExpMatrix_l4_X v23 v24 v25 v26 v413 v414 v416 v417 v418 v419 v420 v421 v422) y) := by kernel_rfl
theorem spec_ExpMatrix_l4_ok (v23 : Int) (v24 : Int) (v25 : List Nat) (v26 : Int) : LSound Try.prog 0 (spec_ExpMatrix_LO v23 v24 v25 v26) 4 (bodyOf Try.f30 4) := by
  intro e L out h
  exact lo_ok (E := spec_ExpMatrix_l4_E v23 v24 v25 v26 (gI (vAt e 7)) (gI (vAt e 12)) (gI (cAt L (vAt e 6) 0)) (gI (cAt L (vAt e 6) 1)) (gI (cAt L (vAt e 10) 0)) (gI (cAt L (vAt e 10) 1)) (gI (cAt L (vAt e 11) 0)) (gI (cAt L (vAt e 11) 1)) (gRF L (cAt L (vAt e 6) 2))) (gT := spec_ExpMatrix_l4_T (gI (vAt e 7)) (gI (vAt e 12)) (gI (cAt L (vAt e 6) 0)) (gI (cAt L (vAt e 6) 1)) (gI (cAt L (vAt e 10) 0)) (gI (cAt L (vAt e 10) 1)) (gI (cAt L (vAt e 11) 0)) (gI (cAt L (vAt e 11) 1)) (gRF L (cAt L (vAt e 6) 2))) (X := spec_ExpMatrix_l4_X v23 v24 v25 v26 (gI (vAt e 7)) (gI (vAt e 12)) (gI (cAt L (vAt e 6) 0)) (gI (cAt L (vAt e 6) 1)) (gI (cAt L (vAt e 10) 0)) (gI (cAt L (vAt e 10) 1)) (gI (cAt L (vAt e 11) 0)) (gI (cAt L (vAt e 11) 1)) (gRF L (cAt L (vAt e 6) 2))) (s0 := ((gI (vAt e 15)), (gRF L (cAt L (vAt e 10) 2)), (gRF L (cAt L (vAt e 11) 2)))) tok spec_ExpMatrix_hO mixed (LoopsOk_eq (l := []) (by kernel_rfl) trivial) (spec_ExpMatrix_l4_be v23 v24 v25 v26 (gI (vAt e 7)) (gI (vAt e 12)) (gI (cAt L (vAt e 6) 0)) (gI (cAt L (vAt e 6) 1)) (gI (cAt L (vAt e 10) 0)) (gI (cAt L (vAt e 10) 1)) (gI (cAt L (vAt e 11) 0)) (gI (cAt L (vAt e 11) 1)) (gRF L (cAt L (vAt e 6) 2))) rfl (by intro x; rfl) h
theorem spec_ExpMatrix_l2_be (v23 : Int) (v24 : Int) (v25 : List Nat) (v26 : Int) (v375 : Int) (v377 : Int) (v378 : Int) (v379 : Int) (v380 : Int) (v383 : List Nat) (s : Int × Int × Int × (List Nat) × (List Nat)) : bodyT TT (tabD spec_ExpMatrix_tab) (tabM spec_ExpMatrix_tab) (spec_ExpMatrix_LO v23 v24 v25 v26) 0 spec_ExpMatrix_l2_kill spec_ExpMatrix_l2_nx (bodyOf Try.f30 2) 2 (spec_ExpMatrix_l2_E v23 v24 v25 v26 v375 v377 v378 v379 v380 v383 s) = (spec_ExpMatrix_l2_T v23 v24 v25 v26 v375 v377 v378 v379 v380 v383 s).bind fun y => .leaf (outS (spec_ExpMatrix_l2_E v23 v24 v25 v26 v375 v377 v378 v379 v380 v383) (spec_ExpMatrix_l2_X v23 v24 v25 v26 v375 v377 v378 v379 v380 v383) y) := by kernel_rfl
theorem spec_ExpMatrix_l2_ok (v23 : Int) (v24 : Int) (v25 : List Nat) (v26 : Int) : LSound Try.prog 0 (spec_ExpMatrix_LO v23 v24 v25 v26) 2 (bodyOf Try.f30 2) := by
  intro e L out h
  exact lo_ok (E := spec_ExpMatrix_l2_E v23 v24 v25 v26 (gI (vAt e 7)) (gI (cAt L (vAt e 6) 0)) (gI (cAt L (vAt e 6) 1)) (gI (cAt L (vAt e 10) 0)) (gI (cAt L (vAt e 10) 1)) (gRF L (cAt L (vAt e 6) 2))) (gT := spec_ExpMatrix_l2_T v23 v24 v25 v26 (gI (vAt e 7)) (gI (cAt L (vAt e 6) 0)) (gI (cAt L (vAt e 6) 1)) (gI (cAt L (vAt e 10) 0)) (gI (cAt L (vAt e 10) 1)) (gRF L (cAt L (vAt e 6) 2))) (X := spec_ExpMatrix_l2_X v23 v24 v25 v26 (gI (vAt e 7)) (gI (cAt L (vAt e 6) 0)) (gI (cAt L (vAt e 6) 1)) (gI (cAt L (vAt e 10) 0)) (gI (cAt L (vAt e 10) 1)) (gRF L (cAt L (vAt e 6) 2))) (s0 := ((gI (vAt e 12)), (gI (cAt L (vAt e 11) 0)), (gI (cAt L (vAt e 11) 1)), (gRF L (cAt L (vAt e 10) 2)), (gRF L (cAt L (vAt e 11) 2)))) tok spec_ExpMatrix_hO mixed (LoopsOk_eq (l := [(4, bodyOf Try.f30 4)]) (by kernel_rfl) ⟨spec_ExpMatrix_l4_ok v23 v24 v25 v26, trivial⟩) (spec_ExpMatrix_l2_be v23 v24 v25 v26 (gI (vAt e 7)) (gI (cAt L (vAt e 6) 0)) (gI (cAt L (vAt e 6) 1)) (gI (cAt L (vAt e 10) 0)) (gI (cAt L (vAt e 10) 1)) (gRF L (cAt L (vAt e 6) 2))) rfl (by intro x; (cases x with | inl b => rfl | inr x => exact rfl)) h
theorem spec_ExpMatrix_l6_be (v23 : Int) (v24 : Int) (v25 : List Nat) (v26 : Int) (s : Int × Int × Int × (List Nat)) : bodyT TT (tabD spec_ExpMatrix_tab) (tabM spec_ExpMatrix_tab) (spec_ExpMatrix_LO v23 v24 v25 v26) 0 spec_ExpMatrix_l6_kill spec_ExpMatrix_l6_nx (bodyOf Try.f30 6) 6 (spec_ExpMatrix_l6_E v23 v24 v25 v26 s) = (spec_ExpMatrix_l6_T s).bind fun y => .leaf (outS (spec_ExpMatrix_l6_E v23 v24 v25 v26) (spec_ExpMatrix_l6_X v23 v24 v25 v26) y) := by kernel_rfl
theorem spec_ExpMatrix_l6_ok (v23 : Int) (v24 : Int) (v25 : List Nat) (v26 : Int) : LSound Try.prog 0 (spec_ExpMatrix_LO v23 v24 v25 v26) 6 (bodyOf Try.f30 6) := by
  intro e L out h
  exact lo_ok (E := spec_ExpMatrix_l6_E v23 v24 v25 v26) (gT := spec_ExpMatrix_l6_T) (X := spec_ExpMatrix_l6_X v23 v24 v25 v26) (s0 := ((gI (vAt e 7)), (gI (cAt L (vAt e 10) 0)), (gI (cAt L (vAt e 10) 1)), (gRF L (cAt L (vAt e 10) 2)))) tok spec_ExpMatrix_hO mixed (LoopsOk_eq (l := []) (by kernel_rfl) trivial) (spec_ExpMatrix_l6_be v23 v24 v25 v26) rfl (by intro x; (cases x with | inl b => rfl | inr x => exact rfl)) h
noncomputable def spec_ExpMatrix_T (v23 : Int) (v24 : Int) (v25 : List Nat) (v26 : Int) : Tree ((Unit) ⊕ (Int × Int × (List Nat))) :=
  (.call (spec_l02Square_g v23 v24 v25) fun v48 =>
  (.br (!v48) (
   .leaf (.inl ())
  ) (
   (.br (!(spec_l00In_v v26 (1 : Int) (32 : Int))) (
    .leaf (.inl ())
   ) (
    (.call (spec_l02Own_g v23 v24 v25) fun v52 =>
    (.need (some (spec_ExpMatrix_l0_E v23 v24 v25 v26 ((0 : Int), v52.1, v52.2, ([] : List Nat) ++ v25)) = some (spec_ExpMatrix_l0_E v23 v24 v25 v26 ((0 : Int), v52.1, v52.2, ([] : List Nat) ++ v25))) <|
    (.call (spec_ExpMatrix_l0_g ((0 : Int), v52.1, v52.2, ([] : List Nat) ++ v25)) fun v161 =>
    (.sum v161 (fun v162 =>
     .leaf (.inl ())
    ) (fun v163 =>
     (.call (spec_l02Unit_g v23) fun v180 =>
     (.call (spec_l02Unit_g v23) fun v181 =>
     (.need (some (spec_ExpMatrix_l2_E v23 v24 v25 v26 v163.1 v163.2.1 v163.2.2.1 v180.1 v180.2.1 v163.2.2.2 ((1 : Int), v181.1, v181.2.1, v180.2.2, v181.2.2)) = some (spec_ExpMatrix_l2_E v23 v24 v25 v26 v163.1 v163.2.1 v163.2.2.1 v180.1 v180.2.1 v163.2.2.2 ((1 : Int), v181.1, v181.2.1, v180.2.2, v181.2.2))) <|
     (.call (spec_ExpMatrix_l2_g v23 v24 v25 v26 v163.1 v163.2.1 v163.2.2.1 v180.1 v180.2.1 v163.2.2.2 ((1 : Int), v181.1, v181.2.1, v180.2.2, v181.2.2)) fun v426 =>
     (.sum v426 (fun v427 =>
      .leaf (.inl ())
     ) (fun v428 =>
      (.need (some (spec_ExpMatrix_l6_E v23 v24 v25 v26 (v163.1, v180.1, v180.2.1, v428)) = some (spec_ExpMatrix_l6_E v23 v24 v25 v26 (v163.1, v180.1, v180.2.1, v428))) <|
      (.call (spec_ExpMatrix_l6_g (v163.1, v180.1, v180.2.1, v428)) fun v450 =>
      (.sum v450 (fun v451 =>
       .leaf (.inl ())
      ) (fun v452 =>
       (.call (spec_l02Give_g v452.1 v452.2.1 v452.2.2) fun v453 =>
       (.sum v453 (fun v454 =>
        .leaf (.inl ())
       ) (fun v455 =>
        .leaf (.inr (v455.1, v455.2, v452.2.2))
       )))
      ))))
     ))))))
    )))))
   ))
  )))

noncomputable def spec_ExpMatrix_g (v23 : Int) (v24 : Int) (v25 : List Nat) (v26 : Int) : Option ((Unit) ⊕ (Int × Int × (List Nat))) := (spec_ExpMatrix_T v23 v24 v25 v26).run
def spec_ExpMatrix_enc (v23 : Int) (v24 : Int) (v25 : List Nat) (v26 : Int) (y : (Unit) ⊕ (Int × Int × (List Nat))) : Rs := (match y with | .inl y => (.tup [.agg [.int .i64 (0 : Int), .int .i64 (0 : Int), .nilslc], .lit false], []) | .inr y => (.tup [.agg [.int .i64 y.1, .int .i64 y.2.1, .own 0 0 ((y.2.2).length)], .lit true], [.row (.f32 y.2.2) 0]))
theorem spec_ExpMatrix_den (v23 : Int) (v24 : Int) (v25 : List Nat) (v26 : Int) : (den TT (tabD spec_ExpMatrix_tab) (tabM spec_ExpMatrix_tab) (spec_ExpMatrix_LO v23 v24 v25 v26) (codeOf Try.f30) ([.agg [.int .i64 v23, .int .i64 v24, .bslc (BR.root 0) (.f32 v25)], .int .i64 v26] ++ List.replicate (Try.f30.ntmps - ([.agg [.int .i64 v23, .int .i64 v24, .bslc (BR.root 0) (.f32 v25)], .int .i64 v26] : List DV).length) .undef) []).bind (retD TT Try.f30.results.toList 0) = (spec_ExpMatrix_T v23 v24 v25 v26).bind fun y => .leaf (spec_ExpMatrix_enc v23 v24 v25 v26 y) := by kernel_rfl
theorem spec_ExpMatrix_fn (v23 : Int) (v24 : Int) (v25 : List Nat) (v26 : Int) (F : Fr) (hm : F.ids.length = 0) (h0 : St F [] F.H0) (hA : DVs.Ok F [] [.agg [.int .i64 v23, .int .i64 v24, .bslc (BR.root 0) (.f32 v25)], .int .i64 v26]) {y : (Unit) ⊕ (Int × Int × (List Nat))} (hy : spec_ExpMatrix_g v23 v24 v25 v26 = some y) : ∃ H', FnOk Try.prog 30 (DVs.av F [.agg [.int .i64 v23, .int .i64 v24, .bslc (BR.root 0) (.f32 v25)], .int .i64 v26]) F.H0 ((spec_ExpMatrix_enc v23 v24 v25 v26 y).1.av F) H' ∧ St F (spec_ExpMatrix_enc v23 v24 v25 v26 y).2 H' ∧ (spec_ExpMatrix_enc v23 v24 v25 v26 y).1.Ok F (spec_ExpMatrix_enc v23 v24 v25 v26 y).2 :=
  fn_fin tok spec_ExpMatrix_hO mixed Try.func30 Try.call30 (by kernel_rfl) (LoopsOk_eq (l := [(0, bodyOf Try.f30 0), (2, bodyOf Try.f30 2), (6, bodyOf Try.f30 6)]) (by kernel_rfl) ⟨spec_ExpMatrix_l0_ok v23 v24 v25 v26, spec_ExpMatrix_l2_ok v23 v24 v25 v26, spec_ExpMatrix_l6_ok v23 v24 v25 v26, trivial⟩) (spec_ExpMatrix_den v23 v24 v25 v26) hy hm h0 hA
noncomputable def spec_ExpMatrix_F : DFn := fun args L =>
  match args with
  | [.agg [.int .i64 v23, .int .i64 v24, a1], .int .i64 v26] =>
    optT (rowF32 L a1) fun v25 =>
    .call (spec_ExpMatrix_g v23 v24 v25 v26) fun y => .sum y (fun y0 => .leaf (.tup [.agg [.int .i64 (0 : Int), .int .i64 (0 : Int), .nilslc], .lit false], L)) (fun z0 => .leaf (.tup [.agg [.int .i64 z0.1, .int .i64 z0.2.1, .own (L.length + 0) 0 ((z0.2.2).length)], .lit true], L ++ [.row (.f32 z0.2.2) 0]))
  | _ => .fail
theorem spec_ExpMatrix_Fok : COk Try.prog 30 spec_ExpMatrix_F true := by
  intro F L H args r L' hs ha hr
  unfold spec_ExpMatrix_F at hr
  split at hr
  · rename_i v23 v24 a1 v26
    obtain ⟨v25, hv25, hr⟩ := optT_run hr
    simp only [Tree.run] at hr
    obtain ⟨y, hy, hr⟩ := Option.bind_eq_some_iff.1 hr
    cases y with
    | inl y =>
      simp only [Tree.run, Option.some.injEq, Prod.mk.injEq] at hr
      obtain ⟨rfl, rfl⟩ := hr
      exact call_ok0 hs (fun k => (([a1.av F] : List AV)[k]?).getD .top) [.agg [.int .i64 v23, .int .i64 v24, a1], .int .i64 v26] [.agg [.int .i64 v23, .int .i64 v24, .bslc (BR.root 0) (.f32 v25)], .int .i64 v26] (fun F' h0 hi hρ => ⟨by simp [DVs.av, DV.av, BR.av, hρ], spec_ExpMatrix_fn v23 v24 v25 v26 F' (by rw [hi]; rfl) (st_nil hi) ⟨⟨trivial, trivial, bslc_ok hi (by rw [h0, hρ]; exact rowF32_ok hs (DVs.okAt (DVs.okAt ha 0 rfl) 2 rfl) hv25), trivial⟩, trivial, trivial⟩ hy⟩) rfl
    | inr y =>
      simp only [Tree.run, Option.some.injEq, Prod.mk.injEq] at hr
      obtain ⟨rfl, rfl⟩ := hr
      exact call_ok1 hs (fun k => (([a1.av F] : List AV)[k]?).getD .top) [.agg [.int .i64 v23, .int .i64 v24, a1], .int .i64 v26] [.agg [.int .i64 v23, .int .i64 v24, .bslc (BR.root 0) (.f32 v25)], .int .i64 v26] (fun F' h0 hi hρ => ⟨by simp [DVs.av, DV.av, BR.av, hρ], spec_ExpMatrix_fn v23 v24 v25 v26 F' (by rw [hi]; rfl) (st_nil hi) ⟨⟨trivial, trivial, bslc_ok hi (by rw [h0, hρ]; exact rowF32_ok hs (DVs.okAt (DVs.okAt ha 0 rfl) 2 rfl) hv25), trivial⟩, trivial, trivial⟩ hy⟩) rfl rfl
  · cases hr
/-! impl.inRange -/
noncomputable def impl_inRange_LO (v471 : Int) (v472 : Int) (v473 : Int) : LOr := fun id e L =>
  match id with
  | _ => .fail
noncomputable def impl_inRange_tab : List (FuncId × DFn × Bool) := []
theorem impl_inRange_hO : OrcOk Try.prog (tabD impl_inRange_tab) (tabM impl_inRange_tab) := tabD_nil _
noncomputable def impl_inRange_T (v471 : Int) (v472 : Int) (v473 : Int) : Tree (Bool) :=
  (.br (decide (v472 ≤ v471)) (
   .leaf (decide (v471 ≤ v473))
  ) (
   .leaf false
  ))

noncomputable def impl_inRange_g (v471 : Int) (v472 : Int) (v473 : Int) : Option (Bool) := (impl_inRange_T v471 v472 v473).run
def impl_inRange_enc (v471 : Int) (v472 : Int) (v473 : Int) (y : Bool) : Rs := (.bool y, [])
theorem impl_inRange_den (v471 : Int) (v472 : Int) (v473 : Int) : (den TT (tabD impl_inRange_tab) (tabM impl_inRange_tab) (impl_inRange_LO v471 v472 v473) (codeOf Try.f72) ([.int .i64 v471, .int .i64 v472, .int .i64 v473] ++ List.replicate (Try.f72.ntmps - ([.int .i64 v471, .int .i64 v472, .int .i64 v473] : List DV).length) .undef) []).bind (retD TT Try.f72.results.toList 0) = (impl_inRange_T v471 v472 v473).bind fun y => .leaf (impl_inRange_enc v471 v472 v473 y) := by kernel_rfl
theorem impl_inRange_fn (v471 : Int) (v472 : Int) (v473 : Int) (F : Fr) (hm : F.ids.length = 0) (h0 : St F [] F.H0) (hA : DVs.Ok F [] [.int .i64 v471, .int .i64 v472, .int .i64 v473]) {y : Bool} (hy : impl_inRange_g v471 v472 v473 = some y) : ∃ H', FnOk Try.prog 72 (DVs.av F [.int .i64 v471, .int .i64 v472, .int .i64 v473]) F.H0 ((impl_inRange_enc v471 v472 v473 y).1.av F) H' ∧ St F (impl_inRange_enc v471 v472 v473 y).2 H' ∧ (impl_inRange_enc v471 v472 v473 y).1.Ok F (impl_inRange_enc v471 v472 v473 y).2 :=
  fn_fin tok impl_inRange_hO mixed Try.func72 Try.call72 (by kernel_rfl) (LoopsOk_eq (l := []) (by kernel_rfl) trivial) (impl_inRange_den v471 v472 v473) hy hm h0 hA
def impl_inRange_v (v471 : Int) (v472 : Int) (v473 : Int) : Bool :=
  if (decide (v472 ≤ v471)) = true then (
   decide (v471 ≤ v473)
  ) else (
   false
  )
theorem impl_inRange_tot (v471 : Int) (v472 : Int) (v473 : Int) : impl_inRange_g v471 v472 v473 = some (impl_inRange_v v471 v472 v473) := by
  unfold impl_inRange_g impl_inRange_T impl_inRange_v
  simp only [Tree.run]
  repeat' (first | rfl | split)
noncomputable def impl_inRange_F : DFn := fun args L =>
  match args with
  | [.int .i64 v471, .int .i64 v472, .int .i64 v473] =>
    .leaf (.bool (impl_inRange_v v471 v472 v473), L)
  | _ => .fail
theorem impl_inRange_Fok : COk Try.prog 72 impl_inRange_F true := by
  intro F L H args r L' hs ha hr
  unfold impl_inRange_F at hr
  split at hr
  · rename_i v471 v472 v473
    have hy := impl_inRange_tot v471 v472 v473
    generalize impl_inRange_v v471 v472 v473 = y at hy hr
    simp only [Tree.run, Option.some.injEq, Prod.mk.injEq] at hr
    obtain ⟨rfl, rfl⟩ := hr
    exact call_ok0 hs (fun k => (([] : List AV)[k]?).getD .top) [.int .i64 v471, .int .i64 v472, .int .i64 v473] [.int .i64 v471, .int .i64 v472, .int .i64 v473] (fun F' h0 hi hρ => ⟨by simp [DVs.av, DV.av, BR.av, hρ], impl_inRange_fn v471 v472 v473 F' (by rw [hi]; rfl) (st_nil hi) ⟨trivial, trivial, trivial, trivial⟩ hy⟩) rfl
  · cases hr
/-! impl.isSide -/
noncomputable def impl_isSide_LO (v470 : Int) : LOr := fun id e L =>
  match id with
  | _ => .fail
noncomputable def impl_isSide_tab : List (FuncId × DFn × Bool) := [(72, impl_inRange_F, true)]
theorem impl_isSide_hO : OrcOk Try.prog (tabD impl_isSide_tab) (tabM impl_isSide_tab) := tabD_cons impl_inRange_Fok (tabD_nil _)
noncomputable def impl_isSide_T (v470 : Int) : Tree (Bool) :=
  .leaf (impl_inRange_v v470 (1 : Int) (12 : Int))

noncomputable def impl_isSide_g (v470 : Int) : Option (Bool) := (impl_isSide_T v470).run
def impl_isSide_enc (v470 : Int) (y : Bool) : Rs := (.bool y, [])
theorem impl_isSide_den (v470 : Int) : (den TT (tabD impl_isSide_tab) (tabM impl_isSide_tab) (impl_isSide_LO v470) (codeOf Try.f146) ([.int .i64 v470] ++ List.replicate (Try.f146.ntmps - ([.int .i64 v470] : List DV).length) .undef) []).bind (retD TT Try.f146.results.toList 0) = (impl_isSide_T v470).bind fun y => .leaf (impl_isSide_enc v470 y) := by kernel_rfl
theorem impl_isSide_fn (v470 : Int) (F : Fr) (hm : F.ids.length = 0) (h0 : St F [] F.H0) (hA : DVs.Ok F [] [.int .i64 v470]) {y : Bool} (hy : impl_isSide_g v470 = some y) : ∃ H', FnOk Try.prog 146 (DVs.av F [.int .i64 v470]) F.H0 ((impl_isSide_enc v470 y).1.av F) H' ∧ St F (impl_isSide_enc v470 y).2 H' ∧ (impl_isSide_enc v470 y).1.Ok F (impl_isSide_enc v470 y).2 :=
  fn_fin tok impl_isSide_hO mixed Try.func146 Try.call146 (by kernel_rfl) (LoopsOk_eq (l := []) (by kernel_rfl) trivial) (impl_isSide_den v470) hy hm h0 hA
def impl_isSide_v (v470 : Int) : Bool :=
  (impl_inRange_v v470 (1 : Int) (12 : Int))
theorem impl_isSide_tot (v470 : Int) : impl_isSide_g v470 = some (impl_isSide_v v470) := by
  unfold impl_isSide_g impl_isSide_T impl_isSide_v
  simp only [Tree.run]
  repeat' (first | rfl | split)
noncomputable def impl_isSide_F : DFn := fun args L =>
  match args with
  | [.int .i64 v470] =>
    .leaf (.bool (impl_isSide_v v470), L)
  | _ => .fail
theorem impl_isSide_Fok : COk Try.prog 146 impl_isSide_F true := by
  intro F L H args r L' hs ha hr
  unfold impl_isSide_F at hr
  split at hr
  · rename_i v470
    have hy := impl_isSide_tot v470
    generalize impl_isSide_v v470 = y at hy hr
    simp only [Tree.run, Option.some.injEq, Prod.mk.injEq] at hr
    obtain ⟨rfl, rfl⟩ := hr
    exact call_ok0 hs (fun k => (([] : List AV)[k]?).getD .top) [.int .i64 v470] [.int .i64 v470] (fun F' h0 hi hρ => ⟨by simp [DVs.av, DV.av, BR.av, hρ], impl_isSide_fn v470 F' (by rw [hi]; rfl) (st_nil hi) ⟨trivial, trivial⟩ hy⟩) rfl
  · cases hr
/-! impl.length[float32] -/
noncomputable def impl_lengthF_LO (v474 : List Nat) : LOr := fun id e L =>
  match id with
  | _ => .fail
noncomputable def impl_lengthF_tab : List (FuncId × DFn × Bool) := []
theorem impl_lengthF_hO : OrcOk Try.prog (tabD impl_lengthF_tab) (tabM impl_lengthF_tab) := tabD_nil _
noncomputable def impl_lengthF_T (v474 : List Nat) : Tree (Int) :=
  .leaf ((v474.length : Nat) : Int)

noncomputable def impl_lengthF_g (v474 : List Nat) : Option (Int) := (impl_lengthF_T v474).run
def impl_lengthF_enc (v474 : List Nat) (y : Int) : Rs := (.int .i64 y, [])
theorem impl_lengthF_den (v474 : List Nat) : (den TT (tabD impl_lengthF_tab) (tabM impl_lengthF_tab) (impl_lengthF_LO v474) (codeOf Try.f134) ([.bslc (BR.root 0) (.f32 v474)] ++ List.replicate (Try.f134.ntmps - ([.bslc (BR.root 0) (.f32 v474)] : List DV).length) .undef) []).bind (retD TT Try.f134.results.toList 0) = (impl_lengthF_T v474).bind fun y => .leaf (impl_lengthF_enc v474 y) := by kernel_rfl
theorem impl_lengthF_fn (v474 : List Nat) (F : Fr) (hm : F.ids.length = 0) (h0 : St F [] F.H0) (hA : DVs.Ok F [] [.bslc (BR.root 0) (.f32 v474)]) {y : Int} (hy : impl_lengthF_g v474 = some y) : ∃ H', FnOk Try.prog 134 (DVs.av F [.bslc (BR.root 0) (.f32 v474)]) F.H0 ((impl_lengthF_enc v474 y).1.av F) H' ∧ St F (impl_lengthF_enc v474 y).2 H' ∧ (impl_lengthF_enc v474 y).1.Ok F (impl_lengthF_enc v474 y).2 :=
  fn_fin tok impl_lengthF_hO mixed Try.func134 Try.call134 (by kernel_rfl) (LoopsOk_eq (l := []) (by kernel_rfl) trivial) (impl_lengthF_den v474) hy hm h0 hA
def impl_lengthF_v (v474 : List Nat) : Int :=
  ((v474.length : Nat) : Int)
theorem impl_lengthF_tot (v474 : List Nat) : impl_lengthF_g v474 = some (impl_lengthF_v v474) := by
  unfold impl_lengthF_g impl_lengthF_T impl_lengthF_v
  simp only [Tree.run]
  repeat' (first | rfl | split)
noncomputable def impl_lengthF_F : DFn := fun args L =>
  match args with
  | [a1] =>
    optT (rowF32 L a1) fun v474 =>
    .leaf (.int .i64 (impl_lengthF_v v474), L)
  | _ => .fail
theorem impl_lengthF_Fok : COk Try.prog 134 impl_lengthF_F true := by
  intro F L H args r L' hs ha hr
  unfold impl_lengthF_F at hr
  split at hr
  · rename_i a1
    obtain ⟨v474, hv474, hr⟩ := optT_run hr
    have hy := impl_lengthF_tot v474
    generalize impl_lengthF_v v474 = y at hy hr
    simp only [Tree.run, Option.some.injEq, Prod.mk.injEq] at hr
    obtain ⟨rfl, rfl⟩ := hr
    exact call_ok0 hs (fun k => (([a1.av F] : List AV)[k]?).getD .top) [a1] [.bslc (BR.root 0) (.f32 v474)] (fun F' h0 hi hρ => ⟨by simp [DVs.av, DV.av, BR.av, hρ], impl_lengthF_fn v474 F' (by rw [hi]; rfl) (st_nil hi) ⟨bslc_ok hi (by rw [h0, hρ]; exact rowF32_ok hs (DVs.okAt ha 0 rfl) hv474), trivial⟩ hy⟩) rfl
  · cases hr
/-! math.IsNaN -/
noncomputable def math_IsNaN_LO (v482 : Nat) : LOr := fun id e L =>
  match id with
  | _ => .fail
noncomputable def math_IsNaN_tab : List (FuncId × DFn × Bool) := []
theorem math_IsNaN_hO : OrcOk Try.prog (tabD math_IsNaN_tab) (tabM math_IsNaN_tab) := tabD_nil _
noncomputable def math_IsNaN_T (v482 : Nat) : Tree (Bool) :=
  .leaf (!feq .f64 v482 v482)

noncomputable def math_IsNaN_g (v482 : Nat) : Option (Bool) := (math_IsNaN_T v482).run
def math_IsNaN_enc (v482 : Nat) (y : Bool) : Rs := (.bool y, [])
theorem math_IsNaN_den (v482 : Nat) : (den TT (tabD math_IsNaN_tab) (tabM math_IsNaN_tab) (math_IsNaN_LO v482) (codeOf Try.f169) ([.flt .f64 v482] ++ List.replicate (Try.f169.ntmps - ([.flt .f64 v482] : List DV).length) .undef) []).bind (retD TT Try.f169.results.toList 0) = (math_IsNaN_T v482).bind fun y => .leaf (math_IsNaN_enc v482 y) := by kernel_rfl
theorem math_IsNaN_fn (v482 : Nat) (F : Fr) (hm : F.ids.length = 0) (h0 : St F [] F.H0) (hA : DVs.Ok F [] [.flt .f64 v482]) {y : Bool} (hy : math_IsNaN_g v482 = some y) : ∃ H', FnOk Try.prog 169 (DVs.av F [.flt .f64 v482]) F.H0 ((math_IsNaN_enc v482 y).1.av F) H' ∧ St F (math_IsNaN_enc v482 y).2 H' ∧ (math_IsNaN_enc v482 y).1.Ok F (math_IsNaN_enc v482 y).2 :=
  fn_fin tok math_IsNaN_hO mixed Try.func169 Try.call169 (by kernel_rfl) (LoopsOk_eq (l := []) (by kernel_rfl) trivial) (math_IsNaN_den v482) hy hm h0 hA
def math_IsNaN_v (v482 : Nat) : Bool :=
  !feq .f64 v482 v482
theorem math_IsNaN_tot (v482 : Nat) : math_IsNaN_g v482 = some (math_IsNaN_v v482) := by
  unfold math_IsNaN_g math_IsNaN_T math_IsNaN_v
  simp only [Tree.run]
  repeat' (first | rfl | split)
noncomputable def math_IsNaN_F : DFn := fun args L =>
  match args with
  | [.flt .f64 v482] =>
    .leaf (.bool (math_IsNaN_v v482), L)
  | _ => .fail
theorem math_IsNaN_Fok : COk Try.prog 169 math_IsNaN_F true := by
  intro F L H args r L' hs ha hr
  unfold math_IsNaN_F at hr
  split at hr
  · rename_i v482
    have hy := math_IsNaN_tot v482
    generalize math_IsNaN_v v482 = y at hy hr
    simp only [Tree.run, Option.some.injEq, Prod.mk.injEq] at hr
    obtain ⟨rfl, rfl⟩ := hr
    exact call_ok0 hs (fun k => (([] : List AV)[k]?).getD .top) [.flt .f64 v482] [.flt .f64 v482] (fun F' h0 hi hρ => ⟨by simp [DVs.av, DV.av, BR.av, hρ], math_IsNaN_fn v482 F' (by rw [hi]; rfl) (st_nil hi) ⟨trivial, trivial⟩ hy⟩) rfl
  · cases hr
/-! math.IsInf -/
noncomputable def math_IsInf_LO (v483 : Nat) (v484 : Int) : LOr := fun id e L =>
  match id with
  | _ => .fail
noncomputable def math_IsInf_tab : List (FuncId × DFn × Bool) := [(104, Abs_F, true)]
theorem math_IsInf_hO : OrcOk Try.prog (tabD math_IsInf_tab) (tabM math_IsInf_tab) := tabD_cons Abs_Fok (tabD_nil _)
noncomputable def math_IsInf_T (v483 : Nat) (v484 : Int) : Tree (Bool) :=
  (.br (decide (v484 = (0 : Int))) (
   .leaf (fgrt .f64 (fabs v483) (9218868437227405311 : Nat))
  ) (
   (.br (decide (v484 < (0 : Int))) (
    .leaf (fgrt .f64 (fneg .f64 v483) (9218868437227405311 : Nat))
   ) (
    .leaf (fgrt .f64 v483 (9218868437227405311 : Nat))
   ))
  ))

noncomputable def math_IsInf_g (v483 : Nat) (v484 : Int) : Option (Bool) := (math_IsInf_T v483 v484).run
def math_IsInf_enc (v483 : Nat) (v484 : Int) (y : Bool) : Rs := (.bool y, [])
theorem math_IsInf_den (v483 : Nat) (v484 : Int) : (den TT (tabD math_IsInf_tab) (tabM math_IsInf_tab) (math_IsInf_LO v483 v484) (codeOf Try.f170) ([.flt .f64 v483, .int .i64 v484] ++ List.replicate (Try.f170.ntmps - ([.flt .f64 v483, .int .i64 v484] : List DV).length) .undef) []).bind (retD TT Try.f170.results.toList 0) = (math_IsInf_T v483 v484).bind fun y => .leaf (math_IsInf_enc v483 v484 y) := by kernel_rfl
theorem math_IsInf_fn (v483 : Nat) (v484 : Int) (F : Fr) (hm : F.ids.length = 0) (h0 : St F [] F.H0) (hA : DVs.Ok F [] [.flt .f64 v483, .int .i64 v484]) {y : Bool} (hy : math_IsInf_g v483 v484 = some y) : ∃ H', FnOk Try.prog 170 (DVs.av F [.flt .f64 v483, .int .i64 v484]) F.H0 ((math_IsInf_enc v483 v484 y).1.av F) H' ∧ St F (math_IsInf_enc v483 v484 y).2 H' ∧ (math_IsInf_enc v483 v484 y).1.Ok F (math_IsInf_enc v483 v484 y).2 :=
  fn_fin tok math_IsInf_hO mixed Try.func170 Try.call170 (by kernel_rfl) (LoopsOk_eq (l := []) (by kernel_rfl) trivial) (math_IsInf_den v483 v484) hy hm h0 hA
def math_IsInf_v (v483 : Nat) (v484 : Int) : Bool :=
  if (decide (v484 = (0 : Int))) = true then (
   fgrt .f64 (fabs v483) (9218868437227405311 : Nat)
  ) else (
   if (decide (v484 < (0 : Int))) = true then (
    fgrt .f64 (fneg .f64 v483) (9218868437227405311 : Nat)
   ) else (
    fgrt .f64 v483 (9218868437227405311 : Nat)
   )
  )
theorem math_IsInf_tot (v483 : Nat) (v484 : Int) : math_IsInf_g v483 v484 = some (math_IsInf_v v483 v484) := by
  unfold math_IsInf_g math_IsInf_T math_IsInf_v
  simp only [Tree.run]
  repeat' (first | rfl | split)
noncomputable def math_IsInf_F : DFn := fun args L =>
  match args with
  | [.flt .f64 v483, .int .i64 v484] =>
    .leaf (.bool (math_IsInf_v v483 v484), L)
  | _ => .fail
theorem math_IsInf_Fok : COk Try.prog 170 math_IsInf_F true := by
  intro F L H args r L' hs ha hr
  unfold math_IsInf_F at hr
  split at hr
  · rename_i v483 v484
    have hy := math_IsInf_tot v483 v484
    generalize math_IsInf_v v483 v484 = y at hy hr
    simp only [Tree.run, Option.some.injEq, Prod.mk.injEq] at hr
    obtain ⟨rfl, rfl⟩ := hr
    exact call_ok0 hs (fun k => (([] : List AV)[k]?).getD .top) [.flt .f64 v483, .int .i64 v484] [.flt .f64 v483, .int .i64 v484] (fun F' h0 hi hρ => ⟨by simp [DVs.av, DV.av, BR.av, hρ], math_IsInf_fn v483 v484 F' (by rw [hi]; rfl) (st_nil hi) ⟨trivial, trivial, trivial⟩ hy⟩) rfl
  · cases hr
/-! impl.isFinite64 -/
noncomputable def impl_isFinite64_LO (v481 : Nat) : LOr := fun id e L =>
  match id with
  | _ => .fail
noncomputable def impl_isFinite64_tab : List (FuncId × DFn × Bool) := [(169, math_IsNaN_F, true), (170, math_IsInf_F, true)]
theorem impl_isFinite64_hO : OrcOk Try.prog (tabD impl_isFinite64_tab) (tabM impl_isFinite64_tab) := tabD_cons math_IsNaN_Fok (tabD_cons math_IsInf_Fok (tabD_nil _))
noncomputable def impl_isFinite64_T (v481 : Nat) : Tree (Bool) :=
  (.br (!(math_IsNaN_v v481)) (
   .leaf (!(math_IsInf_v v481 (0 : Int)))
  ) (
   .leaf false
  ))

noncomputable def impl_isFinite64_g (v481 : Nat) : Option (Bool) := (impl_isFinite64_T v481).run
def impl_isFinite64_enc (v481 : Nat) (y : Bool) : Rs := (.bool y, [])
theorem impl_isFinite64_den (v481 : Nat) : (den TT (tabD impl_isFinite64_tab) (tabM impl_isFinite64_tab) (impl_isFinite64_LO v481) (codeOf Try.f151) ([.flt .f64 v481] ++ List.replicate (Try.f151.ntmps - ([.flt .f64 v481] : List DV).length) .undef) []).bind (retD TT Try.f151.results.toList 0) = (impl_isFinite64_T v481).bind fun y => .leaf (impl_isFinite64_enc v481 y) := by kernel_rfl
theorem impl_isFinite64_fn (v481 : Nat) (F : Fr) (hm : F.ids.length = 0) (h0 : St F [] F.H0) (hA : DVs.Ok F [] [.flt .f64 v481]) {y : Bool} (hy : impl_isFinite64_g v481 = some y) : ∃ H', FnOk Try.prog 151 (DVs.av F [.flt .f64 v481]) F.H0 ((impl_isFinite64_enc v481 y).1.av F) H' ∧ St F (impl_isFinite64_enc v481 y).2 H' ∧ (impl_isFinite64_enc v481 y).1.Ok F (impl_isFinite64_enc v481 y).2 :=
  fn_fin tok impl_isFinite64_hO mixed Try.func151 Try.call151 (by kernel_rfl) (LoopsOk_eq (l := []) (by kernel_rfl) trivial) (impl_isFinite64_den v481) hy hm h0 hA
def impl_isFinite64_v (v481 : Nat) : Bool :=
  if (!(math_IsNaN_v v481)) = true then (
   !(math_IsInf_v v481 (0 : Int))
  ) else (
   false
  )
theorem impl_isFinite64_tot (v481 : Nat) : impl_isFinite64_g v481 = some (impl_isFinite64_v v481) := by
  unfold impl_isFinite64_g impl_isFinite64_T impl_isFinite64_v
  simp only [Tree.run]
  repeat' (first | rfl | split)
noncomputable def impl_isFinite64_F : DFn := fun args L =>
  match args with
  | [.flt .f64 v481] =>
    .leaf (.bool (impl_isFinite64_v v481), L)
  | _ => .fail
theorem impl_isFinite64_Fok : COk Try.prog 151 impl_isFinite64_F true := by
  intro F L H args r L' hs ha hr
  unfold impl_isFinite64_F at hr
  split at hr
  · rename_i v481
    have hy := impl_isFinite64_tot v481
    generalize impl_isFinite64_v v481 = y at hy hr
    simp only [Tree.run, Option.some.injEq, Prod.mk.injEq] at hr
    obtain ⟨rfl, rfl⟩ := hr
    exact call_ok0 hs (fun k => (([] : List AV)[k]?).getD .top) [.flt .f64 v481] [.flt .f64 v481] (fun F' h0 hi hρ => ⟨by simp [DVs.av, DV.av, BR.av, hρ], impl_isFinite64_fn v481 F' (by rw [hi]; rfl) (st_nil hi) ⟨trivial, trivial⟩ hy⟩) rfl
  · cases hr
/-! impl.IsFinite -/
noncomputable def impl_IsFinite_LO (v480 : Nat) : LOr := fun id e L =>
  match id with
  | _ => .fail
noncomputable def impl_IsFinite_tab : List (FuncId × DFn × Bool) := [(151, impl_isFinite64_F, true)]
theorem impl_IsFinite_hO : OrcOk Try.prog (tabD impl_IsFinite_tab) (tabM impl_IsFinite_tab) := tabD_cons impl_isFinite64_Fok (tabD_nil _)
noncomputable def impl_IsFinite_T (v480 : Nat) : Tree (Bool) :=
  .leaf (impl_isFinite64_v (wid v480))

noncomputable def impl_IsFinite_g (v480 : Nat) : Option (Bool) := (impl_IsFinite_T v480).run
def impl_IsFinite_enc (v480 : Nat) (y : Bool) : Rs := (.bool y, [])
theorem impl_IsFinite_den (v480 : Nat) : (den TT (tabD impl_IsFinite_tab) (tabM impl_IsFinite_tab) (impl_IsFinite_LO v480) (codeOf Try.f103) ([.flt .f32 v480] ++ List.replicate (Try.f103.ntmps - ([.flt .f32 v480] : List DV).length) .undef) []).bind (retD TT Try.f103.results.toList 0) = (impl_IsFinite_T v480).bind fun y => .leaf (impl_IsFinite_enc v480 y) := by kernel_rfl
theorem impl_IsFinite_fn (v480 : Nat) (F : Fr) (hm : F.ids.length = 0) (h0 : St F [] F.H0) (hA : DVs.Ok F [] [.flt .f32 v480]) {y : Bool} (hy : impl_IsFinite_g v480 = some y) : ∃ H', FnOk Try.prog 103 (DVs.av F [.flt .f32 v480]) F.H0 ((impl_IsFinite_enc v480 y).1.av F) H' ∧ St F (impl_IsFinite_enc v480 y).2 H' ∧ (impl_IsFinite_enc v480 y).1.Ok F (impl_IsFinite_enc v480 y).2 :=
  fn_fin tok impl_IsFinite_hO mixed Try.func103 Try.call103 (by kernel_rfl) (LoopsOk_eq (l := []) (by kernel_rfl) trivial) (impl_IsFinite_den v480) hy hm h0 hA
def impl_IsFinite_v (v480 : Nat) : Bool :=
  (impl_isFinite64_v (wid v480))
theorem impl_IsFinite_tot (v480 : Nat) : impl_IsFinite_g v480 = some (impl_IsFinite_v v480) := by
  unfold impl_IsFinite_g impl_IsFinite_T impl_IsFinite_v
  simp only [Tree.run]
  repeat' (first | rfl | split)
noncomputable def impl_IsFinite_F : DFn := fun args L =>
  match args with
  | [.flt .f32 v480] =>
    .leaf (.bool (impl_IsFinite_v v480), L)
  | _ => .fail
theorem impl_IsFinite_Fok : COk Try.prog 103 impl_IsFinite_F true := by
  intro F L H args r L' hs ha hr
  unfold impl_IsFinite_F at hr
  split at hr
  · rename_i v480
    have hy := impl_IsFinite_tot v480
    generalize impl_IsFinite_v v480 = y at hy hr
    simp only [Tree.run, Option.some.injEq, Prod.mk.injEq] at hr
    obtain ⟨rfl, rfl⟩ := hr
    exact call_ok0 hs (fun k => (([] : List AV)[k]?).getD .top) [.flt .f32 v480] [.flt .f32 v480] (fun F' h0 hi hρ => ⟨by simp [DVs.av, DV.av, BR.av, hρ], impl_IsFinite_fn v480 F' (by rw [hi]; rfl) (st_nil hi) ⟨trivial, trivial⟩ hy⟩) rfl
  · cases hr
/-! impl.areFinite$1 -/
noncomputable def impl_areFinite_1_LO (v479 : Nat) : LOr := fun id e L =>
  match id with
  | _ => .fail
noncomputable def impl_areFinite_1_tab : List (FuncId × DFn × Bool) := [(103, impl_IsFinite_F, true)]
theorem impl_areFinite_1_hO : OrcOk Try.prog (tabD impl_areFinite_1_tab) (tabM impl_areFinite_1_tab) := tabD_cons impl_IsFinite_Fok (tabD_nil _)
noncomputable def impl_areFinite_1_T (v479 : Nat) : Tree (Bool) :=
  .leaf (!(impl_IsFinite_v v479))

noncomputable def impl_areFinite_1_g (v479 : Nat) : Option (Bool) := (impl_areFinite_1_T v479).run
def impl_areFinite_1_enc (v479 : Nat) (y : Bool) : Rs := (.bool y, [])
theorem impl_areFinite_1_den (v479 : Nat) : (den TT (tabD impl_areFinite_1_tab) (tabM impl_areFinite_1_tab) (impl_areFinite_1_LO v479) (codeOf Try.f165) ([.flt .f32 v479] ++ List.replicate (Try.f165.ntmps - ([.flt .f32 v479] : List DV).length) .undef) []).bind (retD TT Try.f165.results.toList 0) = (impl_areFinite_1_T v479).bind fun y => .leaf (impl_areFinite_1_enc v479 y) := by kernel_rfl
theorem impl_areFinite_1_fn (v479 : Nat) (F : Fr) (hm : F.ids.length = 0) (h0 : St F [] F.H0) (hA : DVs.Ok F [] [.flt .f32 v479]) {y : Bool} (hy : impl_areFinite_1_g v479 = some y) : ∃ H', FnOk Try.prog 165 (DVs.av F [.flt .f32 v479]) F.H0 ((impl_areFinite_1_enc v479 y).1.av F) H' ∧ St F (impl_areFinite_1_enc v479 y).2 H' ∧ (impl_areFinite_1_enc v479 y).1.Ok F (impl_areFinite_1_enc v479 y).2 :=
  fn_fin tok impl_areFinite_1_hO mixed Try.func165 Try.call165 (by kernel_rfl) (LoopsOk_eq (l := []) (by kernel_rfl) trivial) (impl_areFinite_1_den v479) hy hm h0 hA
def impl_areFinite_1_v (v479 : Nat) : Bool :=
  !(impl_IsFinite_v v479)
theorem impl_areFinite_1_tot (v479 : Nat) : impl_areFinite_1_g v479 = some (impl_areFinite_1_v v479) := by
  unfold impl_areFinite_1_g impl_areFinite_1_T impl_areFinite_1_v
  simp only [Tree.run]
  repeat' (first | rfl | split)
noncomputable def impl_areFinite_1_F : DFn := fun args L =>
  match args with
  | [.flt .f32 v479] =>
    .leaf (.bool (impl_areFinite_1_v v479), L)
  | _ => .fail
theorem impl_areFinite_1_Fok : COk Try.prog 165 impl_areFinite_1_F true := by
  intro F L H args r L' hs ha hr
  unfold impl_areFinite_1_F at hr
  split at hr
  · rename_i v479
    have hy := impl_areFinite_1_tot v479
    generalize impl_areFinite_1_v v479 = y at hy hr
    simp only [Tree.run, Option.some.injEq, Prod.mk.injEq] at hr
    obtain ⟨rfl, rfl⟩ := hr
    exact call_ok0 hs (fun k => (([] : List AV)[k]?).getD .top) [.flt .f32 v479] [.flt .f32 v479] (fun F' h0 hi hρ => ⟨by simp [DVs.av, DV.av, BR.av, hρ], impl_areFinite_1_fn v479 F' (by rw [hi]; rfl) (st_nil hi) ⟨trivial, trivial⟩ hy⟩) rfl
  · cases hr
/-! slices.IndexFunc[list of float32,float32] -/
noncomputable def slices_IndexFuncF_l0_T (v477 : List Nat) (s : Int) : Tree ((Int) ⊕ ((Int) ⊕ (Unit))) :=
  (.br (decide (s < ((v477.length : Nat) : Int))) (
   (.grd (inb s v477.length) <|
   (.br (impl_areFinite_1_v (nth v477 (Int.toNat s))) (
    .leaf (.inr (.inl s))
   ) (
    .leaf (.inl (IntKind.i64.wrap (s + (1 : Int))))
   )))
  ) (
   .leaf (.inr (.inr ()))
  ))

noncomputable def slices_IndexFuncF_l0_g (v477 : List Nat) (s0 : Int) : Option ((Int) ⊕ (Unit)) := whileM (fun s => (slices_IndexFuncF_l0_T v477 s).run) s0
def slices_IndexFuncF_l0_E (v477 : List Nat) (s : Int) : Sd := ([.bslc (BR.root 0) (.f32 v477), .fn 165 [], .top, .top, .top, .top, .top, .int .i64 ((v477.length : Nat) : Int), .int .i64 s, .top, .top, .top, .top, .top, .top, .top, .top, .top, .top], [])
def slices_IndexFuncF_l0_X (v477 : List Nat) (x : (Int) ⊕ (Unit)) : Out := (match x with | .inl x => (.ret, [.top, .top, .top, .top, .int .i64 x, .top, .top, .top, .top, .top, .top, .top, .top, .top, .top, .top, .top, .top, .top], []) | .inr x => (.normal, [.top, .top, .top, .top, .top, .top, .top, .top, .top, .top, .top, .top, .top, .top, .top, .top, .top, .top, .top], []))
def slices_IndexFuncF_l0_kill : List Nat := [0, 0, 1, 1, 1, 1, 1, 0, 0, 1, 1, 1, 1, 1, 1, 1, 1, 1, 1]
def slices_IndexFuncF_l0_nx : Exit → List Nat
  | .exit 0 => [1, 1, 1, 1, 1, 1, 1, 1, 1, 1, 1, 1, 1, 1, 1, 1, 1, 1, 1]
  | .ret => [1, 1, 1, 1, 0, 1, 1, 1, 1, 1, 1, 1, 1, 1, 1, 1, 1, 1, 1]
  | _ => []
noncomputable def slices_IndexFuncF_LO (v477 : List Nat) : LOr := fun id e L =>
  match id with
  | 0 => .need (normA 0 slices_IndexFuncF_l0_kill e L = some (slices_IndexFuncF_l0_E v477 (gI (vAt e 8)))) (.call (slices_IndexFuncF_l0_g v477 (gI (vAt e 8))) fun x => .sum x (fun b0 => .leaf (slices_IndexFuncF_l0_X v477 (.inl b0))) (fun c0 => .leaf (slices_IndexFuncF_l0_X v477 (.inr c0))))
  | _ => .fail
noncomputable def slices_IndexFuncF_tab : List (FuncId × DFn × Bool) := [(165, impl_areFinite_1_F, true)]
theorem slices_IndexFuncF_hO : OrcOk Try.prog (tabD slices_IndexFuncF_tab) (tabM slices_IndexFuncF_tab) := tabD_cons impl_areFinite_1_Fok (tabD_nil _)
theorem slices_IndexFuncF_l0_be (v477 : List Nat) (s : Int) : bodyT TT (tabD slices_IndexFuncF_tab) (tabM slices_IndexFuncF_tab) (slices_IndexFuncF_LO v477) 0 slices_IndexFuncF_l0_kill slices_IndexFuncF_l0_nx (bodyOf Try.f178 0) 0 (slices_IndexFuncF_l0_E v477 s) = (slices_IndexFuncF_l0_T v477 s).bind fun y => .leaf (outS (slices_IndexFuncF_l0_E v477) (slices_IndexFuncF_l0_X v477) y) := by kernel_rfl
theorem slices_IndexFuncF_l0_ok (v477 : List Nat) : LSound Try.prog 0 (slices_IndexFuncF_LO v477) 0 (bodyOf Try.f178 0) := by
  intro e L out h
  exact lo_ok (E := slices_IndexFuncF_l0_E v477) (gT := slices_IndexFuncF_l0_T v477) (X := slices_IndexFuncF_l0_X v477) (s0 := (gI (vAt e 8))) tok slices_IndexFuncF_hO mixed (LoopsOk_eq (l := []) (by kernel_rfl) trivial) (slices_IndexFuncF_l0_be v477) rfl (by intro x; (cases x with | inl b => rfl | inr x => exact rfl)) h
noncomputable def slices_IndexFuncF_T (v477 : List Nat) : Tree (Int) :=
  (.need (some (slices_IndexFuncF_l0_E v477 (0 : Int)) = some (slices_IndexFuncF_l0_E v477 (0 : Int))) <|
  (.call (slices_IndexFuncF_l0_g v477 (0 : Int)) fun v487 =>
  (.sum v487 (fun v488 =>
   .leaf v488
  ) (fun v489 =>
   .leaf (-1 : Int)
  ))))

noncomputable def slices_IndexFuncF_g (v477 : List Nat) : Option (Int) := (slices_IndexFuncF_T v477).run
def slices_IndexFuncF_enc (v477 : List Nat) (y : Int) : Rs := (.int .i64 y, [])
theorem slices_IndexFuncF_den (v477 : List Nat) : (den TT (tabD slices_IndexFuncF_tab) (tabM slices_IndexFuncF_tab) (slices_IndexFuncF_LO v477) (codeOf Try.f178) ([.bslc (BR.root 0) (.f32 v477), .fn 165 []] ++ List.replicate (Try.f178.ntmps - ([.bslc (BR.root 0) (.f32 v477), .fn 165 []] : List DV).length) .undef) []).bind (retD TT Try.f178.results.toList 0) = (slices_IndexFuncF_T v477).bind fun y => .leaf (slices_IndexFuncF_enc v477 y) := by kernel_rfl
theorem slices_IndexFuncF_fn (v477 : List Nat) (F : Fr) (hm : F.ids.length = 0) (h0 : St F [] F.H0) (hA : DVs.Ok F [] [.bslc (BR.root 0) (.f32 v477), .fn 165 []]) {y : Int} (hy : slices_IndexFuncF_g v477 = some y) : ∃ H', FnOk Try.prog 178 (DVs.av F [.bslc (BR.root 0) (.f32 v477), .fn 165 []]) F.H0 ((slices_IndexFuncF_enc v477 y).1.av F) H' ∧ St F (slices_IndexFuncF_enc v477 y).2 H' ∧ (slices_IndexFuncF_enc v477 y).1.Ok F (slices_IndexFuncF_enc v477 y).2 :=
  fn_fin tok slices_IndexFuncF_hO mixed Try.func178 Try.call178 (by kernel_rfl) (LoopsOk_eq (l := [(0, bodyOf Try.f178 0)]) (by kernel_rfl) ⟨slices_IndexFuncF_l0_ok v477, trivial⟩) (slices_IndexFuncF_den v477) hy hm h0 hA
noncomputable def slices_IndexFuncF_F : DFn := fun args L =>
  match args with
  | [a1, .fn 165 []] =>
    optT (rowF32 L a1) fun v477 =>
    .call (slices_IndexFuncF_g v477) fun y => .leaf (.int .i64 y, L)
  | _ => .fail
theorem slices_IndexFuncF_Fok : COk Try.prog 178 slices_IndexFuncF_F true := by
  intro F L H args r L' hs ha hr
  unfold slices_IndexFuncF_F at hr
  split at hr
  · rename_i a1
    obtain ⟨v477, hv477, hr⟩ := optT_run hr
    simp only [Tree.run] at hr
    obtain ⟨y, hy, hr⟩ := Option.bind_eq_some_iff.1 hr
    simp only [Tree.run, Option.some.injEq, Prod.mk.injEq] at hr
    obtain ⟨rfl, rfl⟩ := hr
    exact call_ok0 hs (fun k => (([a1.av F] : List AV)[k]?).getD .top) [a1, .fn 165 []] [.bslc (BR.root 0) (.f32 v477), .fn 165 []] (fun F' h0 hi hρ => ⟨by simp [DVs.av, DV.av, BR.av, hρ], slices_IndexFuncF_fn v477 F' (by rw [hi]; rfl) (st_nil hi) ⟨bslc_ok hi (by rw [h0, hρ]; exact rowF32_ok hs (DVs.okAt ha 0 rfl) hv477), trivial, trivial⟩ hy⟩) rfl
  · cases hr
/-! slices.ContainsFunc[list of float32,float32] -/
noncomputable def slices_ContainsFuncF_LO (v476 : List Nat) : LOr := fun id e L =>
  match id with
  | _ => .fail
noncomputable def slices_ContainsFuncF_tab : List (FuncId × DFn × Bool) := [(178, slices_IndexFuncF_F, true)]
theorem slices_ContainsFuncF_hO : OrcOk Try.prog (tabD slices_ContainsFuncF_tab) (tabM slices_ContainsFuncF_tab) := tabD_cons slices_IndexFuncF_Fok (tabD_nil _)
noncomputable def slices_ContainsFuncF_T (v476 : List Nat) : Tree (Bool) :=
  (.call (slices_IndexFuncF_g v476) fun v490 =>
  .leaf (decide ((0 : Int) ≤ v490)))

noncomputable def slices_ContainsFuncF_g (v476 : List Nat) : Option (Bool) := (slices_ContainsFuncF_T v476).run
def slices_ContainsFuncF_enc (v476 : List Nat) (y : Bool) : Rs := (.bool y, [])
theorem slices_ContainsFuncF_den (v476 : List Nat) : (den TT (tabD slices_ContainsFuncF_tab) (tabM slices_ContainsFuncF_tab) (slices_ContainsFuncF_LO v476) (codeOf Try.f164) ([.bslc (BR.root 0) (.f32 v476), .fn 165 []] ++ List.replicate (Try.f164.ntmps - ([.bslc (BR.root 0) (.f32 v476), .fn 165 []] : List DV).length) .undef) []).bind (retD TT Try.f164.results.toList 0) = (slices_ContainsFuncF_T v476).bind fun y => .leaf (slices_ContainsFuncF_enc v476 y) := by kernel_rfl
theorem slices_ContainsFuncF_fn (v476 : List Nat) (F : Fr) (hm : F.ids.length = 0) (h0 : St F [] F.H0) (hA : DVs.Ok F [] [.bslc (BR.root 0) (.f32 v476), .fn 165 []]) {y : Bool} (hy : slices_ContainsFuncF_g v476 = some y) : ∃ H', FnOk Try.prog 164 (DVs.av F [.bslc (BR.root 0) (.f32 v476), .fn 165 []]) F.H0 ((slices_ContainsFuncF_enc v476 y).1.av F) H' ∧ St F (slices_ContainsFuncF_enc v476 y).2 H' ∧ (slices_ContainsFuncF_enc v476 y).1.Ok F (slices_ContainsFuncF_enc v476 y).2 :=
  fn_fin tok slices_ContainsFuncF_hO mixed Try.func164 Try.call164 (by kernel_rfl) (LoopsOk_eq (l := []) (by kernel_rfl) trivial) (slices_ContainsFuncF_den v476) hy hm h0 hA
noncomputable def slices_ContainsFuncF_F : DFn := fun args L =>
  match args with
  | [a1, .fn 165 []] =>
    optT (rowF32 L a1) fun v476 =>
    .call (slices_ContainsFuncF_g v476) fun y => .leaf (.bool y, L)
  | _ => .fail
theorem slices_ContainsFuncF_Fok : COk Try.prog 164 slices_ContainsFuncF_F true := by
  intro F L H args r L' hs ha hr
  unfold slices_ContainsFuncF_F at hr
  split at hr
  · rename_i a1
    obtain ⟨v476, hv476, hr⟩ := optT_run hr
    simp only [Tree.run] at hr
    obtain ⟨y, hy, hr⟩ := Option.bind_eq_some_iff.1 hr
    simp only [Tree.run, Option.some.injEq, Prod.mk.injEq] at hr
    obtain ⟨rfl, rfl⟩ := hr
    exact call_ok0 hs (fun k => (([a1.av F] : List AV)[k]?).getD .top) [a1, .fn 165 []] [.bslc (BR.root 0) (.f32 v476), .fn 165 []] (fun F' h0 hi hρ => ⟨by simp [DVs.av, DV.av, BR.av, hρ], slices_ContainsFuncF_fn v476 F' (by rw [hi]; rfl) (st_nil hi) ⟨bslc_ok hi (by rw [h0, hρ]; exact rowF32_ok hs (DVs.okAt ha 0 rfl) hv476), trivial, trivial⟩ hy⟩) rfl
  · cases hr
/-! impl.areFinite -/
noncomputable def impl_areFinite_LO (v475 : List Nat) : LOr := fun id e L =>
  match id with
  | _ => .fail
noncomputable def impl_areFinite_tab : List (FuncId × DFn × Bool) := [(164, slices_ContainsFuncF_F, true)]
theorem impl_areFinite_hO : OrcOk Try.prog (tabD impl_areFinite_tab) (tabM impl_areFinite_tab) := tabD_cons slices_ContainsFuncF_Fok (tabD_nil _)
noncomputable def impl_areFinite_T (v475 : List Nat) : Tree (Bool) :=
  (.call (slices_ContainsFuncF_g v475) fun v491 =>
  .leaf (!v491))

noncomputable def impl_areFinite_g (v475 : List Nat) : Option (Bool) := (impl_areFinite_T v475).run
def impl_areFinite_enc (v475 : List Nat) (y : Bool) : Rs := (.bool y, [])
theorem impl_areFinite_den (v475 : List Nat) : (den TT (tabD impl_areFinite_tab) (tabM impl_areFinite_tab) (impl_areFinite_LO v475) (codeOf Try.f135) ([.bslc (BR.root 0) (.f32 v475)] ++ List.replicate (Try.f135.ntmps - ([.bslc (BR.root 0) (.f32 v475)] : List DV).length) .undef) []).bind (retD TT Try.f135.results.toList 0) = (impl_areFinite_T v475).bind fun y => .leaf (impl_areFinite_enc v475 y) := by kernel_rfl
theorem impl_areFinite_fn (v475 : List Nat) (F : Fr) (hm : F.ids.length = 0) (h0 : St F [] F.H0) (hA : DVs.Ok F [] [.bslc (BR.root 0) (.f32 v475)]) {y : Bool} (hy : impl_areFinite_g v475 = some y) : ∃ H', FnOk Try.prog 135 (DVs.av F [.bslc (BR.root 0) (.f32 v475)]) F.H0 ((impl_areFinite_enc v475 y).1.av F) H' ∧ St F (impl_areFinite_enc v475 y).2 H' ∧ (impl_areFinite_enc v475 y).1.Ok F (impl_areFinite_enc v475 y).2 :=
  fn_fin tok impl_areFinite_hO mixed Try.func135 Try.call135 (by kernel_rfl) (LoopsOk_eq (l := []) (by kernel_rfl) trivial) (impl_areFinite_den v475) hy hm h0 hA
noncomputable def impl_areFinite_F : DFn := fun args L =>
  match args with
  | [a1] =>
    optT (rowF32 L a1) fun v475 =>
    .call (impl_areFinite_g v475) fun y => .leaf (.bool y, L)
  | _ => .fail
theorem impl_areFinite_Fok : COk Try.prog 135 impl_areFinite_F true := by
  intro F L H args r L' hs ha hr
  unfold impl_areFinite_F at hr
  split at hr
  · rename_i a1
    obtain ⟨v475, hv475, hr⟩ := optT_run hr
    simp only [Tree.run] at hr
    obtain ⟨y, hy, hr⟩ := Option.bind_eq_some_iff.1 hr
    simp only [Tree.run, Option.some.injEq, Prod.mk.injEq] at hr
    obtain ⟨rfl, rfl⟩ := hr
    exact call_ok0 hs (fun k => (([a1.av F] : List AV)[k]?).getD .top) [a1] [.bslc (BR.root 0) (.f32 v475)] (fun F' h0 hi hρ => ⟨by simp [DVs.av, DV.av, BR.av, hρ], impl_areFinite_fn v475 F' (by rw [hi]; rfl) (st_nil hi) ⟨bslc_ok hi (by rw [h0, hρ]; exact rowF32_ok hs (DVs.okAt ha 0 rfl) hv475), trivial⟩ hy⟩) rfl
  · cases hr
/-! impl.ValidMatrix -/
noncomputable def impl_ValidMatrix_LO (v467 : Int) (v468 : Int) (v469 : List Nat) : LOr := fun id e L =>
  match id with
  | _ => .fail
noncomputable def impl_ValidMatrix_tab : List (FuncId × DFn × Bool) := [(146, impl_isSide_F, true), (134, impl_lengthF_F, true), (135, impl_areFinite_F, true)]
theorem impl_ValidMatrix_hO : OrcOk Try.prog (tabD impl_ValidMatrix_tab) (tabM impl_ValidMatrix_tab) := tabD_cons impl_isSide_Fok (tabD_cons impl_lengthF_Fok (tabD_cons impl_areFinite_Fok (tabD_nil _)))
noncomputable def impl_ValidMatrix_T (v467 : Int) (v468 : Int) (v469 : List Nat) : Tree (Bool) :=
  (.br (impl_isSide_v v467) (
   (.br (impl_isSide_v v468) (
    (.br (decide ((impl_lengthF_v v469) = IntKind.i64.wrap (v467 * v468))) (
     (.call (impl_areFinite_g v469) fun v492 =>
     .leaf v492)
    ) (
     .leaf false
    ))
   ) (
    .leaf false
   ))
  ) (
   .leaf false
  ))

noncomputable def impl_ValidMatrix_g (v467 : Int) (v468 : Int) (v469 : List Nat) : Option (Bool) := (impl_ValidMatrix_T v467 v468 v469).run
def impl_ValidMatrix_enc (v467 : Int) (v468 : Int) (v469 : List Nat) (y : Bool) : Rs := (.bool y, [])
theorem impl_ValidMatrix_den (v467 : Int) (v468 : Int) (v469 : List Nat) : (den TT (tabD impl_ValidMatrix_tab) (tabM impl_ValidMatrix_tab) (impl_ValidMatrix_LO v467 v468 v469) (codeOf Try.f98) ([.agg [.int .i64 v467, .int .i64 v468, .bslc (BR.root 0) (.f32 v469)]] ++ List.replicate (Try.f98.ntmps - ([.agg [.int .i64 v467, .int .i64 v468, .bslc (BR.root 0) (.f32 v469)]] : List DV).length) .undef) []).bind (retD TT Try.f98.results.toList 0) = (impl_ValidMatrix_T v467 v468 v469).bind fun y => .leaf (impl_ValidMatrix_enc v467 v468 v469 y) := by kernel_rfl
theorem impl_ValidMatrix_fn (v467 : Int) (v468 : Int) (v469 : List Nat) (F : Fr) (hm : F.ids.length = 0) (h0 : St F [] F.H0) (hA : DVs.Ok F [] [.agg [.int .i64 v467, .int .i64 v468, .bslc (BR.root 0) (.f32 v469)]]) {y : Bool} (hy : impl_ValidMatrix_g v467 v468 v469 = some y) : ∃ H', FnOk Try.prog 98 (DVs.av F [.agg [.int .i64 v467, .int .i64 v468, .bslc (BR.root 0) (.f32 v469)]]) F.H0 ((impl_ValidMatrix_enc v467 v468 v469 y).1.av F) H' ∧ St F (impl_ValidMatrix_enc v467 v468 v469 y).2 H' ∧ (impl_ValidMatrix_enc v467 v468 v469 y).1.Ok F (impl_ValidMatrix_enc v467 v468 v469 y).2 :=
  fn_fin tok impl_ValidMatrix_hO mixed Try.func98 Try.call98 (by kernel_rfl) (LoopsOk_eq (l := []) (by kernel_rfl) trivial) (impl_ValidMatrix_den v467 v468 v469) hy hm h0 hA
noncomputable def impl_ValidMatrix_F : DFn := fun args L =>
  match args with
  | [.agg [.int .i64 v467, .int .i64 v468, a1]] =>
    optT (rowF32 L a1) fun v469 =>
    .call (impl_ValidMatrix_g v467 v468 v469) fun y => .leaf (.bool y, L)
  | _ => .fail
theorem impl_ValidMatrix_Fok : COk Try.prog 98 impl_ValidMatrix_F true := by
  intro F L H args r L' hs ha hr
  unfold impl_ValidMatrix_F at hr
  split at hr
  · rename_i v467 v468 a1
    obtain ⟨v469, hv469, hr⟩ := optT_run hr
    simp only [Tree.run] at hr
    obtain ⟨y, hy, hr⟩ := Option.bind_eq_some_iff.1 hr
    simp only [Tree.run, Option.some.injEq, Prod.mk.injEq] at hr
    obtain ⟨rfl, rfl⟩ := hr
    exact call_ok0 hs (fun k => (([a1.av F] : List AV)[k]?).getD .top) [.agg [.int .i64 v467, .int .i64 v468, a1]] [.agg [.int .i64 v467, .int .i64 v468, .bslc (BR.root 0) (.f32 v469)]] (fun F' h0 hi hρ => ⟨by simp [DVs.av, DV.av, BR.av, hρ], impl_ValidMatrix_fn v467 v468 v469 F' (by rw [hi]; rfl) (st_nil hi) ⟨⟨trivial, trivial, bslc_ok hi (by rw [h0, hρ]; exact rowF32_ok hs (DVs.okAt (DVs.okAt ha 0 rfl) 2 rfl) hv469), trivial⟩, trivial⟩ hy⟩) rfl
  · cases hr
/-! impl.isSquare -/
noncomputable def impl_isSquare_LO (v464 : Int) (v465 : Int) (v466 : List Nat) : LOr := fun id e L =>
  match id with
  | _ => .fail
noncomputable def impl_isSquare_tab : List (FuncId × DFn × Bool) := [(98, impl_ValidMatrix_F, true)]
theorem impl_isSquare_hO : OrcOk Try.prog (tabD impl_isSquare_tab) (tabM impl_isSquare_tab) := tabD_cons impl_ValidMatrix_Fok (tabD_nil _)
noncomputable def impl_isSquare_T (v464 : Int) (v465 : Int) (v466 : List Nat) : Tree (Bool) :=
  (.call (impl_ValidMatrix_g v464 v465 v466) fun v493 =>
  (.br v493 (
   .leaf (decide (v464 = v465))
  ) (
   .leaf false
  )))

noncomputable def impl_isSquare_g (v464 : Int) (v465 : Int) (v466 : List Nat) : Option (Bool) := (impl_isSquare_T v464 v465 v466).run
def impl_isSquare_enc (v464 : Int) (v465 : Int) (v466 : List Nat) (y : Bool) : Rs := (.bool y, [])
theorem impl_isSquare_den (v464 : Int) (v465 : Int) (v466 : List Nat) : (den TT (tabD impl_isSquare_tab) (tabM impl_isSquare_tab) (impl_isSquare_LO v464 v465 v466) (codeOf Try.f89) ([.agg [.int .i64 v464, .int .i64 v465, .bslc (BR.root 0) (.f32 v466)]] ++ List.replicate (Try.f89.ntmps - ([.agg [.int .i64 v464, .int .i64 v465, .bslc (BR.root 0) (.f32 v466)]] : List DV).length) .undef) []).bind (retD TT Try.f89.results.toList 0) = (impl_isSquare_T v464 v465 v466).bind fun y => .leaf (impl_isSquare_enc v464 v465 v466 y) := by kernel_rfl
theorem impl_isSquare_fn (v464 : Int) (v465 : Int) (v466 : List Nat) (F : Fr) (hm : F.ids.length = 0) (h0 : St F [] F.H0) (hA : DVs.Ok F [] [.agg [.int .i64 v464, .int .i64 v465, .bslc (BR.root 0) (.f32 v466)]]) {y : Bool} (hy : impl_isSquare_g v464 v465 v466 = some y) : ∃ H', FnOk Try.prog 89 (DVs.av F [.agg [.int .i64 v464, .int .i64 v465, .bslc (BR.root 0) (.f32 v466)]]) F.H0 ((impl_isSquare_enc v464 v465 v466 y).1.av F) H' ∧ St F (impl_isSquare_enc v464 v465 v466 y).2 H' ∧ (impl_isSquare_enc v464 v465 v466 y).1.Ok F (impl_isSquare_enc v464 v465 v466 y).2 :=
  fn_fin tok impl_isSquare_hO mixed Try.func89 Try.call89 (by kernel_rfl) (LoopsOk_eq (l := []) (by kernel_rfl) trivial) (impl_isSquare_den v464 v465 v466) hy hm h0 hA
noncomputable def impl_isSquare_F : DFn := fun args L =>
  match args with
  | [.agg [.int .i64 v464, .int .i64 v465, a1]] =>
    optT (rowF32 L a1) fun v466 =>
    .call (impl_isSquare_g v464 v465 v466) fun y => .leaf (.bool y, L)
  | _ => .fail
theorem impl_isSquare_Fok : COk Try.prog 89 impl_isSquare_F true := by
  intro F L H args r L' hs ha hr
  unfold impl_isSquare_F at hr
  split at hr
  · rename_i v464 v465 a1
    obtain ⟨v466, hv466, hr⟩ := optT_run hr
    simp only [Tree.run] at hr
    obtain ⟨y, hy, hr⟩ := Option.bind_eq_some_iff.1 hr
    simp only [Tree.run, Option.some.injEq, Prod.mk.injEq] at hr
    obtain ⟨rfl, rfl⟩ := hr
    exact call_ok0 hs (fun k => (([a1.av F] : List AV)[k]?).getD .top) [.agg [.int .i64 v464, .int .i64 v465, a1]] [.agg [.int .i64 v464, .int .i64 v465, .bslc (BR.root 0) (.f32 v466)]] (fun F' h0 hi hρ => ⟨by simp [DVs.av, DV.av, BR.av, hρ], impl_isSquare_fn v464 v465 v466 F' (by rw [hi]; rfl) (st_nil hi) ⟨⟨trivial, trivial, bslc_ok hi (by rw [h0, hρ]; exact rowF32_ok hs (DVs.okAt (DVs.okAt ha 0 rfl) 2 rfl) hv466), trivial⟩, trivial⟩ hy⟩) rfl
  · cases hr
/-! (impl.Matrix).at -/
noncomputable def impl_Matrix_at_LO (v509 : Int) (v510 : Int) (v511 : List Nat) (v512 : Int) (v513 : Int) : LOr := fun id e L =>
  match id with
  | _ => .fail
noncomputable def impl_Matrix_at_tab : List (FuncId × DFn × Bool) := []
theorem impl_Matrix_at_hO : OrcOk Try.prog (tabD impl_Matrix_at_tab) (tabM impl_Matrix_at_tab) := tabD_nil _
noncomputable def impl_Matrix_at_T (v510 : Int) (v511 : List Nat) (v512 : Int) (v513 : Int) : Tree (Nat) :=
  (.grd (inb (IntKind.i64.wrap ((IntKind.i64.wrap (v512 * v510)) + v513)) v511.length) <|
  .leaf (nth v511 (Int.toNat (IntKind.i64.wrap ((IntKind.i64.wrap (v512 * v510)) + v513)))))

noncomputable def impl_Matrix_at_g (v510 : Int) (v511 : List Nat) (v512 : Int) (v513 : Int) : Option (Nat) := (impl_Matrix_at_T v510 v511 v512 v513).run
def impl_Matrix_at_enc (v509 : Int) (v510 : Int) (v511 : List Nat) (v512 : Int) (v513 : Int) (y : Nat) : Rs := (.flt .f32 y, [])
theorem impl_Matrix_at_den (v509 : Int) (v510 : Int) (v511 : List Nat) (v512 : Int) (v513 : Int) : (den TT (tabD impl_Matrix_at_tab) (tabM impl_Matrix_at_tab) (impl_Matrix_at_LO v509 v510 v511 v512 v513) (codeOf Try.f93) ([.agg [.int .i64 v509, .int .i64 v510, .bslc (BR.root 0) (.f32 v511)], .int .i64 v512, .int .i64 v513] ++ List.replicate (Try.f93.ntmps - ([.agg [.int .i64 v509, .int .i64 v510, .bslc (BR.root 0) (.f32 v511)], .int .i64 v512, .int .i64 v513] : List DV).length) .undef) []).bind (retD TT Try.f93.results.toList 0) = (impl_Matrix_at_T v510 v511 v512 v513).bind fun y => .leaf (impl_Matrix_at_enc v509 v510 v511 v512 v513 y) := by kernel_rfl
theorem impl_Matrix_at_fn (v509 : Int) (v510 : Int) (v511 : List Nat) (v512 : Int) (v513 : Int) (F : Fr) (hm : F.ids.length = 0) (h0 : St F [] F.H0) (hA : DVs.Ok F [] [.agg [.int .i64 v509, .int .i64 v510, .bslc (BR.root 0) (.f32 v511)], .int .i64 v512, .int .i64 v513]) {y : Nat} (hy : impl_Matrix_at_g v510 v511 v512 v513 = some y) : ∃ H', FnOk Try.prog 93 (DVs.av F [.agg [.int .i64 v509, .int .i64 v510, .bslc (BR.root 0) (.f32 v511)], .int .i64 v512, .int .i64 v513]) F.H0 ((impl_Matrix_at_enc v509 v510 v511 v512 v513 y).1.av F) H' ∧ St F (impl_Matrix_at_enc v509 v510 v511 v512 v513 y).2 H' ∧ (impl_Matrix_at_enc v509 v510 v511 v512 v513 y).1.Ok F (impl_Matrix_at_enc v509 v510 v511 v512 v513 y).2 :=
  fn_fin tok impl_Matrix_at_hO mixed Try.func93 Try.call93 (by kernel_rfl) (LoopsOk_eq (l := []) (by kernel_rfl) trivial) (impl_Matrix_at_den v509 v510 v511 v512 v513) hy hm h0 hA
noncomputable def impl_Matrix_at_F : DFn := fun args L =>
  match args with
  | [.agg [.int .i64 v509, .int .i64 v510, a1], .int .i64 v512, .int .i64 v513] =>
    optT (rowF32 L a1) fun v511 =>
    .call (impl_Matrix_at_g v510 v511 v512 v513) fun y => .leaf (.flt .f32 y, L)
  | _ => .fail
theorem impl_Matrix_at_Fok : COk Try.prog 93 impl_Matrix_at_F true := by
  intro F L H args r L' hs ha hr
  unfold impl_Matrix_at_F at hr
  split at hr
  · rename_i v509 v510 a1 v512 v513
    obtain ⟨v511, hv511, hr⟩ := optT_run hr
    simp only [Tree.run] at hr
    obtain ⟨y, hy, hr⟩ := Option.bind_eq_some_iff.1 hr
    simp only [Tree.run, Option.some.injEq, Prod.mk.injEq] at hr
    obtain ⟨rfl, rfl⟩ := hr
    exact call_ok0 hs (fun k => (([a1.av F] : List AV)[k]?).getD .top) [.agg [.int .i64 v509, .int .i64 v510, a1], .int .i64 v512, .int .i64 v513] [.agg [.int .i64 v509, .int .i64 v510, .bslc (BR.root 0) (.f32 v511)], .int .i64 v512, .int .i64 v513] (fun F' h0 hi hρ => ⟨by simp [DVs.av, DV.av, BR.av, hρ], impl_Matrix_at_fn v509 v510 v511 v512 v513 F' (by rw [hi]; rfl) (st_nil hi) ⟨⟨trivial, trivial, bslc_ok hi (by rw [h0, hρ]; exact rowF32_ok hs (DVs.okAt (DVs.okAt ha 0 rfl) 2 rfl) hv511), trivial⟩, trivial, trivial, trivial⟩ hy⟩) rfl
  · cases hr
/-! impl.absolute -/
noncomputable def impl_absolute_LO (v515 : Nat) : LOr := fun id e L =>
  match id with
  | _ => .fail
noncomputable def impl_absolute_tab : List (FuncId × DFn × Bool) := [(104, Abs_F, true)]
theorem impl_absolute_hO : OrcOk Try.prog (tabD impl_absolute_tab) (tabM impl_absolute_tab) := tabD_cons Abs_Fok (tabD_nil _)
noncomputable def impl_absolute_T (v515 : Nat) : Tree (Nat) :=
  (.call (fconv .f64 (fabs (wid v515)) .f32) fun v516 =>
  .leaf v516)

noncomputable def impl_absolute_g (v515 : Nat) : Option (Nat) := (impl_absolute_T v515).run
def impl_absolute_enc (v515 : Nat) (y : Nat) : Rs := (.flt .f32 y, [])
theorem impl_absolute_den (v515 : Nat) : (den TT (tabD impl_absolute_tab) (tabM impl_absolute_tab) (impl_absolute_LO v515) (codeOf Try.f158) ([.flt .f32 v515] ++ List.replicate (Try.f158.ntmps - ([.flt .f32 v515] : List DV).length) .undef) []).bind (retD TT Try.f158.results.toList 0) = (impl_absolute_T v515).bind fun y => .leaf (impl_absolute_enc v515 y) := by kernel_rfl
theorem impl_absolute_fn (v515 : Nat) (F : Fr) (hm : F.ids.length = 0) (h0 : St F [] F.H0) (hA : DVs.Ok F [] [.flt .f32 v515]) {y : Nat} (hy : impl_absolute_g v515 = some y) : ∃ H', FnOk Try.prog 158 (DVs.av F [.flt .f32 v515]) F.H0 ((impl_absolute_enc v515 y).1.av F) H' ∧ St F (impl_absolute_enc v515 y).2 H' ∧ (impl_absolute_enc v515 y).1.Ok F (impl_absolute_enc v515 y).2 :=
  fn_fin tok impl_absolute_hO mixed Try.func158 Try.call158 (by kernel_rfl) (LoopsOk_eq (l := []) (by kernel_rfl) trivial) (impl_absolute_den v515) hy hm h0 hA
noncomputable def impl_absolute_F : DFn := fun args L =>
  match args with
  | [.flt .f32 v515] =>
    .call (impl_absolute_g v515) fun y => .leaf (.flt .f32 y, L)
  | _ => .fail
theorem impl_absolute_Fok : COk Try.prog 158 impl_absolute_F true := by
  intro F L H args r L' hs ha hr
  unfold impl_absolute_F at hr
  split at hr
  · rename_i v515
    simp only [Tree.run] at hr
    obtain ⟨y, hy, hr⟩ := Option.bind_eq_some_iff.1 hr
    simp only [Tree.run, Option.some.injEq, Prod.mk.injEq] at hr
    obtain ⟨rfl, rfl⟩ := hr
    exact call_ok0 hs (fun k => (([] : List AV)[k]?).getD .top) [.flt .f32 v515] [.flt .f32 v515] (fun F' h0 hi hρ => ⟨by simp [DVs.av, DV.av, BR.av, hρ], impl_absolute_fn v515 F' (by rw [hi]; rfl) (st_nil hi) ⟨trivial, trivial⟩ hy⟩) rfl
  · cases hr
end Go.Proofs.Ytjadfgeemfdbmaa.AM
