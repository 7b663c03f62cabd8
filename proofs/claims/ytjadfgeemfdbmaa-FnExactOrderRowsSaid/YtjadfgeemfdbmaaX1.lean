/- Functions: what they come to. -/
import Derived.Test.YtjadfgeemfdbmaaBase
set_option maxRecDepth 100000
set_option maxHeartbeats 4000000
set_option linter.unusedSimpArgs false
set_option linter.unusedVariables false
namespace Go.Proofs.Ytjadfgeemfdbmaa.AM
open Go.Proofs
/-! laws.szFloat32S -/
noncomputable def laws_szFloat32S_LO (v9 : List Nat) (v10 : Int) : LOr := fun id e L =>
  match id with
  | _ => .fail
noncomputable def laws_szFloat32S_tab : List (FuncId × DFn × Bool) := []
theorem laws_szFloat32S_hO : OrcOk Try.prog (tabD laws_szFloat32S_tab) (tabM laws_szFloat32S_tab) := tabD_nil _
noncomputable def laws_szFloat32S_T (v9 : List Nat) (v10 : Int) : Tree (Int) :=
  (.br (decide (IntKind.i64.wrap (v10 - ((v9.length : Nat) : Int)) < (0 : Int))) (
   .leaf (-1 : Int)
  ) (
   .leaf (IntKind.i64.wrap (v10 - ((v9.length : Nat) : Int)))
  ))

noncomputable def laws_szFloat32S_g (v9 : List Nat) (v10 : Int) : Option (Int) := (laws_szFloat32S_T v9 v10).run
def laws_szFloat32S_enc (v9 : List Nat) (v10 : Int) (y : Int) : Rs := (.int .i64 y, [])
theorem laws_szFloat32S_den (v9 : List Nat) (v10 : Int) : (den TT (tabD laws_szFloat32S_tab) (tabM laws_szFloat32S_tab) (laws_szFloat32S_LO v9 v10) (codeOf Try.f64) ([.bslc (BR.root 0) (.f32 v9), .int .i64 v10] ++ List.replicate (Try.f64.ntmps - ([.bslc (BR.root 0) (.f32 v9), .int .i64 v10] : List DV).length) .undef) []).bind (retD TT Try.f64.results.toList 0) = (laws_szFloat32S_T v9 v10).bind fun y => .leaf (laws_szFloat32S_enc v9 v10 y) := by kernel_rfl
theorem laws_szFloat32S_fn (v9 : List Nat) (v10 : Int) (F : Fr) (hm : F.ids.length = 0) (h0 : St F [] F.H0) (hA : DVs.Ok F [] [.bslc (BR.root 0) (.f32 v9), .int .i64 v10]) {y : Int} (hy : laws_szFloat32S_g v9 v10 = some y) : ∃ H', FnOk Try.prog 64 (DVs.av F [.bslc (BR.root 0) (.f32 v9), .int .i64 v10]) F.H0 ((laws_szFloat32S_enc v9 v10 y).1.av F) H' ∧ St F (laws_szFloat32S_enc v9 v10 y).2 H' ∧ (laws_szFloat32S_enc v9 v10 y).1.Ok F (laws_szFloat32S_enc v9 v10 y).2 :=
  fn_fin tok laws_szFloat32S_hO mixed Try.func64 Try.call64 (by kernel_rfl) (LoopsOk_eq (l := []) (by kernel_rfl) trivial) (laws_szFloat32S_den v9 v10) hy hm h0 hA
def laws_szFloat32S_v (v9 : List Nat) (v10 : Int) : Int :=
  if (decide (IntKind.i64.wrap (v10 - ((v9.length : Nat) : Int)) < (0 : Int))) = true then (
   (-1 : Int)
  ) else (
   IntKind.i64.wrap (v10 - ((v9.length : Nat) : Int))
  )
theorem laws_szFloat32S_tot (v9 : List Nat) (v10 : Int) : laws_szFloat32S_g v9 v10 = some (laws_szFloat32S_v v9 v10) := by
  unfold laws_szFloat32S_g laws_szFloat32S_T laws_szFloat32S_v
  simp only [Tree.run]
  repeat' (first | rfl | split)
noncomputable def laws_szFloat32S_F : DFn := fun args L =>
  match args with
  | [a1, .int .i64 v10] =>
    optT (rowF32 L a1) fun v9 =>
    .leaf (.int .i64 (laws_szFloat32S_v v9 v10), L)
  | _ => .fail
theorem laws_szFloat32S_Fok : COk Try.prog 64 laws_szFloat32S_F true := by
  intro F L H args r L' hs ha hr
  unfold laws_szFloat32S_F at hr
  split at hr
  · rename_i a1 v10
    obtain ⟨v9, hv9, hr⟩ := optT_run hr
    have hy := laws_szFloat32S_tot v9 v10
    generalize laws_szFloat32S_v v9 v10 = y at hy hr
    simp only [Tree.run, Option.some.injEq, Prod.mk.injEq] at hr
    obtain ⟨rfl, rfl⟩ := hr
    exact call_ok0 hs (fun k => (([a1.av F] : List AV)[k]?).getD .top) [a1, .int .i64 v10] [.bslc (BR.root 0) (.f32 v9), .int .i64 v10] (fun F' h0 hi hρ => ⟨by simp [DVs.av, DV.av, BR.av, hρ], laws_szFloat32S_fn v9 v10 F' (by rw [hi]; rfl) (st_nil hi) ⟨bslc_ok hi (by rw [h0, hρ]; exact rowF32_ok hs (DVs.okAt ha 0 rfl) hv9), trivial, trivial⟩ hy⟩) rfl
  · cases hr
/-! laws.szMatrix -/
noncomputable def laws_szMatrix_LO (v5 : Int) (v6 : Int) (v7 : List Nat) (v8 : Int) : LOr := fun id e L =>
  match id with
  | _ => .fail
noncomputable def laws_szMatrix_tab : List (FuncId × DFn × Bool) := [(64, laws_szFloat32S_F, true)]
theorem laws_szMatrix_hO : OrcOk Try.prog (tabD laws_szMatrix_tab) (tabM laws_szMatrix_tab) := tabD_cons laws_szFloat32S_Fok (tabD_nil _)
noncomputable def laws_szMatrix_T (v7 : List Nat) (v8 : Int) : Tree (Int) :=
  (.br (decide ((laws_szFloat32S_v v7 v8) < (0 : Int))) (
   .leaf (-1 : Int)
  ) (
   .leaf (laws_szFloat32S_v v7 v8)
  ))

noncomputable def laws_szMatrix_g (v7 : List Nat) (v8 : Int) : Option (Int) := (laws_szMatrix_T v7 v8).run
def laws_szMatrix_enc (v5 : Int) (v6 : Int) (v7 : List Nat) (v8 : Int) (y : Int) : Rs := (.int .i64 y, [])
theorem laws_szMatrix_den (v5 : Int) (v6 : Int) (v7 : List Nat) (v8 : Int) : (den TT (tabD laws_szMatrix_tab) (tabM laws_szMatrix_tab) (laws_szMatrix_LO v5 v6 v7 v8) (codeOf Try.f29) ([.agg [.int .i64 v5, .int .i64 v6, .bslc (BR.root 0) (.f32 v7)], .int .i64 v8] ++ List.replicate (Try.f29.ntmps - ([.agg [.int .i64 v5, .int .i64 v6, .bslc (BR.root 0) (.f32 v7)], .int .i64 v8] : List DV).length) .undef) []).bind (retD TT Try.f29.results.toList 0) = (laws_szMatrix_T v7 v8).bind fun y => .leaf (laws_szMatrix_enc v5 v6 v7 v8 y) := by kernel_rfl
theorem laws_szMatrix_fn (v5 : Int) (v6 : Int) (v7 : List Nat) (v8 : Int) (F : Fr) (hm : F.ids.length = 0) (h0 : St F [] F.H0) (hA : DVs.Ok F [] [.agg [.int .i64 v5, .int .i64 v6, .bslc (BR.root 0) (.f32 v7)], .int .i64 v8]) {y : Int} (hy : laws_szMatrix_g v7 v8 = some y) : ∃ H', FnOk Try.prog 29 (DVs.av F [.agg [.int .i64 v5, .int .i64 v6, .bslc (BR.root 0) (.f32 v7)], .int .i64 v8]) F.H0 ((laws_szMatrix_enc v5 v6 v7 v8 y).1.av F) H' ∧ St F (laws_szMatrix_enc v5 v6 v7 v8 y).2 H' ∧ (laws_szMatrix_enc v5 v6 v7 v8 y).1.Ok F (laws_szMatrix_enc v5 v6 v7 v8 y).2 :=
  fn_fin tok laws_szMatrix_hO mixed Try.func29 Try.call29 (by kernel_rfl) (LoopsOk_eq (l := []) (by kernel_rfl) trivial) (laws_szMatrix_den v5 v6 v7 v8) hy hm h0 hA
def laws_szMatrix_v (v7 : List Nat) (v8 : Int) : Int :=
  if (decide ((laws_szFloat32S_v v7 v8) < (0 : Int))) = true then (
   (-1 : Int)
  ) else (
   (laws_szFloat32S_v v7 v8)
  )
theorem laws_szMatrix_tot (v7 : List Nat) (v8 : Int) : laws_szMatrix_g v7 v8 = some (laws_szMatrix_v v7 v8) := by
  unfold laws_szMatrix_g laws_szMatrix_T laws_szMatrix_v
  simp only [Tree.run]
  repeat' (first | rfl | split)
noncomputable def laws_szMatrix_F : DFn := fun args L =>
  match args with
  | [.agg [.int .i64 v5, .int .i64 v6, a1], .int .i64 v8] =>
    optT (rowF32 L a1) fun v7 =>
    .leaf (.int .i64 (laws_szMatrix_v v7 v8), L)
  | _ => .fail
theorem laws_szMatrix_Fok : COk Try.prog 29 laws_szMatrix_F true := by
  intro F L H args r L' hs ha hr
  unfold laws_szMatrix_F at hr
  split at hr
  · rename_i v5 v6 a1 v8
    obtain ⟨v7, hv7, hr⟩ := optT_run hr
    have hy := laws_szMatrix_tot v7 v8
    generalize laws_szMatrix_v v7 v8 = y at hy hr
    simp only [Tree.run, Option.some.injEq, Prod.mk.injEq] at hr
    obtain ⟨rfl, rfl⟩ := hr
    exact call_ok0 hs (fun k => (([a1.av F] : List AV)[k]?).getD .top) [.agg [.int .i64 v5, .int .i64 v6, a1], .int .i64 v8] [.agg [.int .i64 v5, .int .i64 v6, .bslc (BR.root 0) (.f32 v7)], .int .i64 v8] (fun F' h0 hi hρ => ⟨by simp [DVs.av, DV.av, BR.av, hρ], laws_szMatrix_fn v5 v6 v7 v8 F' (by rw [hi]; rfl) (st_nil hi) ⟨⟨trivial, trivial, bslc_ok hi (by rw [h0, hρ]; exact rowF32_ok hs (DVs.okAt (DVs.okAt ha 0 rfl) 2 rfl) hv7), trivial⟩, trivial, trivial⟩ hy⟩) rfl
  · cases hr
/-! laws.toFloat32S -/
noncomputable def laws_toFloat32S_l0_T (v14 : List Nat) (s : Int × (List Nat)) : Tree ((Int × (List Nat)) ⊕ ((List Nat))) :=
  (.br (decide (s.1 < ((v14.length : Nat) : Int))) (
   (.grd (inb s.1 v14.length) <|
   (.grd (inb s.1 ((s.2).length)) <|
   .leaf (.inl (IntKind.i64.wrap (s.1 + (1 : Int)), List.set s.2 (Int.toNat s.1) (nth v14 (Int.toNat s.1))))))
  ) (
   .leaf (.inr s.2)
  ))

noncomputable def laws_toFloat32S_l0_g (v14 : List Nat) (s0 : Int × (List Nat)) : Option ((List Nat)) := whileM (fun s => (laws_toFloat32S_l0_T v14 s).run) s0
def laws_toFloat32S_l0_E (v14 : List Nat) (s : Int × (List Nat)) : Sd := ([.bslc (BR.root 0) (.f32 v14), .top, .top, .own 0 0 ((s.2).length), .int .i64 s.1, .top, .top, .top, .top, .top, .top, .top, .top, .top, .top, .top, .top, .top, .top, .top, .top, .top], [.row (.f32 s.2) 0])
def laws_toFloat32S_l0_X (v14 : List Nat) (x : (List Nat)) : Out := (.normal, [.top, .top, .top, .own 0 0 ((x).length), .top, .top, .top, .top, .top, .top, .top, .top, .top, .top, .top, .top, .top, .top, .top, .top, .top, .top], [.row (.f32 x) 0])
def laws_toFloat32S_l0_kill : List Nat := [0, 1, 1, 0, 0, 1, 1, 1, 1, 1, 1, 1, 1, 1, 1, 1, 1, 1, 1, 1, 1, 1]
def laws_toFloat32S_l0_nx : Exit → List Nat
  | .exit 0 => [1, 1, 1, 0, 1, 1, 1, 1, 1, 1, 1, 1, 1, 1, 1, 1, 1, 1, 1, 1, 1, 1]
  | .ret => [1, 1, 0, 1, 1, 1, 1, 1, 1, 1, 1, 1, 1, 1, 1, 1, 1, 1, 1, 1, 1, 1]
  | _ => []
noncomputable def laws_toFloat32S_LO (v14 : List Nat) : LOr := fun id e L =>
  match id with
  | 0 => .need (normA 0 laws_toFloat32S_l0_kill e L = some (laws_toFloat32S_l0_E v14 ((gI (vAt e 4)), (gRF L (vAt e 3))))) (.call (laws_toFloat32S_l0_g v14 ((gI (vAt e 4)), (gRF L (vAt e 3)))) fun x => .leaf (laws_toFloat32S_l0_X v14 x))
  | _ => .fail
noncomputable def laws_toFloat32S_tab : List (FuncId × DFn × Bool) := []
theorem laws_toFloat32S_hO : OrcOk Try.prog (tabD laws_toFloat32S_tab) (tabM laws_toFloat32S_tab) := tabD_nil _
theorem laws_toFloat32S_l0_be (v14 : List Nat) (s : Int × (List Nat)) : bodyT TT (tabD laws_toFloat32S_tab) (tabM laws_toFloat32S_tab) (laws_toFloat32S_LO v14) 0 laws_toFloat32S_l0_kill laws_toFloat32S_l0_nx (bodyOf Try.f18 0) 0 (laws_toFloat32S_l0_E v14 s) = (laws_toFloat32S_l0_T v14 s).bind fun y => .leaf (outS (laws_toFloat32S_l0_E v14) (laws_toFloat32S_l0_X v14) y) := by kernel_rfl
theorem laws_toFloat32S_l0_ok (v14 : List Nat) : LSound Try.prog 0 (laws_toFloat32S_LO v14) 0 (bodyOf Try.f18 0) := by
  intro e L out h
  exact lo_ok (E := laws_toFloat32S_l0_E v14) (gT := laws_toFloat32S_l0_T v14) (X := laws_toFloat32S_l0_X v14) (s0 := ((gI (vAt e 4)), (gRF L (vAt e 3)))) tok laws_toFloat32S_hO mixed (LoopsOk_eq (l := []) (by kernel_rfl) trivial) (laws_toFloat32S_l0_be v14) rfl (by intro x; rfl) h
noncomputable def laws_toFloat32S_T (v14 : List Nat) : Tree ((List Nat)) :=
  (.need (((v14.length : Nat) : Int) = ((v14.length : Nat) : Int)) <|
  (.grd (inb ((v14.length : Nat) : Int) (maxN + 1)) <|
  (.need (some (laws_toFloat32S_l0_E v14 ((0 : Int), List.replicate (Int.toNat ((v14.length : Nat) : Int)) (0 : Nat))) = some (laws_toFloat32S_l0_E v14 ((0 : Int), List.replicate (Int.toNat ((v14.length : Nat) : Int)) (0 : Nat)))) <|
  (.call (laws_toFloat32S_l0_g v14 ((0 : Int), List.replicate (Int.toNat ((v14.length : Nat) : Int)) (0 : Nat))) fun v20 =>
  .leaf v20))))

noncomputable def laws_toFloat32S_g (v14 : List Nat) : Option ((List Nat)) := (laws_toFloat32S_T v14).run
def laws_toFloat32S_enc (v14 : List Nat) (y : (List Nat)) : Rs := (.own 0 0 ((y).length), [.row (.f32 y) 0])
theorem laws_toFloat32S_den (v14 : List Nat) : (den TT (tabD laws_toFloat32S_tab) (tabM laws_toFloat32S_tab) (laws_toFloat32S_LO v14) (codeOf Try.f18) ([.bslc (BR.root 0) (.f32 v14)] ++ List.replicate (Try.f18.ntmps - ([.bslc (BR.root 0) (.f32 v14)] : List DV).length) .undef) []).bind (retD TT Try.f18.results.toList 0) = (laws_toFloat32S_T v14).bind fun y => .leaf (laws_toFloat32S_enc v14 y) := by kernel_rfl
theorem laws_toFloat32S_fn (v14 : List Nat) (F : Fr) (hm : F.ids.length = 0) (h0 : St F [] F.H0) (hA : DVs.Ok F [] [.bslc (BR.root 0) (.f32 v14)]) {y : (List Nat)} (hy : laws_toFloat32S_g v14 = some y) : ∃ H', FnOk Try.prog 18 (DVs.av F [.bslc (BR.root 0) (.f32 v14)]) F.H0 ((laws_toFloat32S_enc v14 y).1.av F) H' ∧ St F (laws_toFloat32S_enc v14 y).2 H' ∧ (laws_toFloat32S_enc v14 y).1.Ok F (laws_toFloat32S_enc v14 y).2 :=
  fn_fin tok laws_toFloat32S_hO mixed Try.func18 Try.call18 (by kernel_rfl) (LoopsOk_eq (l := [(0, bodyOf Try.f18 0)]) (by kernel_rfl) ⟨laws_toFloat32S_l0_ok v14, trivial⟩) (laws_toFloat32S_den v14) hy hm h0 hA
noncomputable def laws_toFloat32S_F : DFn := fun args L =>
  match args with
  | [a1] =>
    optT (rowF32 L a1) fun v14 =>
    .call (laws_toFloat32S_g v14) fun y => .leaf (.own (L.length + 0) 0 ((y).length), L ++ [.row (.f32 y) 0])
  | _ => .fail
theorem laws_toFloat32S_Fok : COk Try.prog 18 laws_toFloat32S_F true := by
  intro F L H args r L' hs ha hr
  unfold laws_toFloat32S_F at hr
  split at hr
  · rename_i a1
    obtain ⟨v14, hv14, hr⟩ := optT_run hr
    simp only [Tree.run] at hr
    obtain ⟨y, hy, hr⟩ := Option.bind_eq_some_iff.1 hr
    simp only [Tree.run, Option.some.injEq, Prod.mk.injEq] at hr
    obtain ⟨rfl, rfl⟩ := hr
    exact call_ok1 hs (fun k => (([a1.av F] : List AV)[k]?).getD .top) [a1] [.bslc (BR.root 0) (.f32 v14)] (fun F' h0 hi hρ => ⟨by simp [DVs.av, DV.av, BR.av, hρ], laws_toFloat32S_fn v14 F' (by rw [hi]; rfl) (st_nil hi) ⟨bslc_ok hi (by rw [h0, hρ]; exact rowF32_ok hs (DVs.okAt ha 0 rfl) hv14), trivial⟩ hy⟩) rfl rfl
  · cases hr
/-! laws.toMatrix -/
noncomputable def laws_toMatrix_LO (v11 : Int) (v12 : Int) (v13 : List Nat) : LOr := fun id e L =>
  match id with
  | _ => .fail
noncomputable def laws_toMatrix_tab : List (FuncId × DFn × Bool) := [(18, laws_toFloat32S_F, true)]
theorem laws_toMatrix_hO : OrcOk Try.prog (tabD laws_toMatrix_tab) (tabM laws_toMatrix_tab) := tabD_cons laws_toFloat32S_Fok (tabD_nil _)
noncomputable def laws_toMatrix_T (v11 : Int) (v12 : Int) (v13 : List Nat) : Tree (Int × Int × (List Nat)) :=
  (.call (laws_toFloat32S_g v13) fun v21 =>
  .leaf (v11, v12, v21))

noncomputable def laws_toMatrix_g (v11 : Int) (v12 : Int) (v13 : List Nat) : Option (Int × Int × (List Nat)) := (laws_toMatrix_T v11 v12 v13).run
def laws_toMatrix_enc (v11 : Int) (v12 : Int) (v13 : List Nat) (y : Int × Int × (List Nat)) : Rs := (.agg [.int .i64 y.1, .int .i64 y.2.1, .own 0 0 ((y.2.2).length)], [.row (.f32 y.2.2) 0])
theorem laws_toMatrix_den (v11 : Int) (v12 : Int) (v13 : List Nat) : (den TT (tabD laws_toMatrix_tab) (tabM laws_toMatrix_tab) (laws_toMatrix_LO v11 v12 v13) (codeOf Try.f31) ([.agg [.int .i64 v11, .int .i64 v12, .bslc (BR.root 0) (.f32 v13)]] ++ List.replicate (Try.f31.ntmps - ([.agg [.int .i64 v11, .int .i64 v12, .bslc (BR.root 0) (.f32 v13)]] : List DV).length) .undef) []).bind (retD TT Try.f31.results.toList 0) = (laws_toMatrix_T v11 v12 v13).bind fun y => .leaf (laws_toMatrix_enc v11 v12 v13 y) := by kernel_rfl
theorem laws_toMatrix_fn (v11 : Int) (v12 : Int) (v13 : List Nat) (F : Fr) (hm : F.ids.length = 0) (h0 : St F [] F.H0) (hA : DVs.Ok F [] [.agg [.int .i64 v11, .int .i64 v12, .bslc (BR.root 0) (.f32 v13)]]) {y : Int × Int × (List Nat)} (hy : laws_toMatrix_g v11 v12 v13 = some y) : ∃ H', FnOk Try.prog 31 (DVs.av F [.agg [.int .i64 v11, .int .i64 v12, .bslc (BR.root 0) (.f32 v13)]]) F.H0 ((laws_toMatrix_enc v11 v12 v13 y).1.av F) H' ∧ St F (laws_toMatrix_enc v11 v12 v13 y).2 H' ∧ (laws_toMatrix_enc v11 v12 v13 y).1.Ok F (laws_toMatrix_enc v11 v12 v13 y).2 :=
  fn_fin tok laws_toMatrix_hO mixed Try.func31 Try.call31 (by kernel_rfl) (LoopsOk_eq (l := []) (by kernel_rfl) trivial) (laws_toMatrix_den v11 v12 v13) hy hm h0 hA
noncomputable def laws_toMatrix_F : DFn := fun args L =>
  match args with
  | [.agg [.int .i64 v11, .int .i64 v12, a1]] =>
    optT (rowF32 L a1) fun v13 =>
    .call (laws_toMatrix_g v11 v12 v13) fun y => .leaf (.agg [.int .i64 y.1, .int .i64 y.2.1, .own (L.length + 0) 0 ((y.2.2).length)], L ++ [.row (.f32 y.2.2) 0])
  | _ => .fail
theorem laws_toMatrix_Fok : COk Try.prog 31 laws_toMatrix_F true := by
  intro F L H args r L' hs ha hr
  unfold laws_toMatrix_F at hr
  split at hr
  · rename_i v11 v12 a1
    obtain ⟨v13, hv13, hr⟩ := optT_run hr
    simp only [Tree.run] at hr
    obtain ⟨y, hy, hr⟩ := Option.bind_eq_some_iff.1 hr
    simp only [Tree.run, Option.some.injEq, Prod.mk.injEq] at hr
    obtain ⟨rfl, rfl⟩ := hr
    exact call_ok1 hs (fun k => (([a1.av F] : List AV)[k]?).getD .top) [.agg [.int .i64 v11, .int .i64 v12, a1]] [.agg [.int .i64 v11, .int .i64 v12, .bslc (BR.root 0) (.f32 v13)]] (fun F' h0 hi hρ => ⟨by simp [DVs.av, DV.av, BR.av, hρ], laws_toMatrix_fn v11 v12 v13 F' (by rw [hi]; rfl) (st_nil hi) ⟨⟨trivial, trivial, bslc_ok hi (by rw [h0, hρ]; exact rowF32_ok hs (DVs.okAt (DVs.okAt ha 0 rfl) 2 rfl) hv13), trivial⟩, trivial⟩ hy⟩) rfl rfl
  · cases hr
/-! laws.toInt64S -/
noncomputable def laws_toInt64S_l0_T (v23 : List Int) (s : Int × (List Int)) : Tree ((Int × (List Int)) ⊕ ((List Int))) :=
  (.br (decide (s.1 < ((v23.length : Nat) : Int))) (
   (.grd (inb s.1 v23.length) <|
   (.grd (inb s.1 ((s.2).length)) <|
   .leaf (.inl (IntKind.i64.wrap (s.1 + (1 : Int)), List.set s.2 (Int.toNat s.1) (nth v23 (Int.toNat s.1))))))
  ) (
   .leaf (.inr s.2)
  ))

noncomputable def laws_toInt64S_l0_g (v23 : List Int) (s0 : Int × (List Int)) : Option ((List Int)) := whileM (fun s => (laws_toInt64S_l0_T v23 s).run) s0
def laws_toInt64S_l0_E (v23 : List Int) (s : Int × (List Int)) : Sd := ([.bslc (BR.root 0) (.i64 v23), .top, .top, .own 0 0 ((s.2).length), .int .i64 s.1, .top, .top, .top, .top, .top, .top, .top, .top, .top, .top, .top, .top, .top, .top, .top, .top, .top], [.row (.i64 s.2) 0])
def laws_toInt64S_l0_X (v23 : List Int) (x : (List Int)) : Out := (.normal, [.top, .top, .top, .own 0 0 ((x).length), .top, .top, .top, .top, .top, .top, .top, .top, .top, .top, .top, .top, .top, .top, .top, .top, .top, .top], [.row (.i64 x) 0])
def laws_toInt64S_l0_kill : List Nat := [0, 1, 1, 0, 0, 1, 1, 1, 1, 1, 1, 1, 1, 1, 1, 1, 1, 1, 1, 1, 1, 1]
def laws_toInt64S_l0_nx : Exit → List Nat
  | .exit 0 => [1, 1, 1, 0, 1, 1, 1, 1, 1, 1, 1, 1, 1, 1, 1, 1, 1, 1, 1, 1, 1, 1]
  | .ret => [1, 1, 0, 1, 1, 1, 1, 1, 1, 1, 1, 1, 1, 1, 1, 1, 1, 1, 1, 1, 1, 1]
  | _ => []
noncomputable def laws_toInt64S_LO (v23 : List Int) : LOr := fun id e L =>
  match id with
  | 0 => .need (normA 0 laws_toInt64S_l0_kill e L = some (laws_toInt64S_l0_E v23 ((gI (vAt e 4)), (gRI L (vAt e 3))))) (.call (laws_toInt64S_l0_g v23 ((gI (vAt e 4)), (gRI L (vAt e 3)))) fun x => .leaf (laws_toInt64S_l0_X v23 x))
  | _ => .fail
noncomputable def laws_toInt64S_tab : List (FuncId × DFn × Bool) := []
theorem laws_toInt64S_hO : OrcOk Try.prog (tabD laws_toInt64S_tab) (tabM laws_toInt64S_tab) := tabD_nil _
theorem laws_toInt64S_l0_be (v23 : List Int) (s : Int × (List Int)) : bodyT TT (tabD laws_toInt64S_tab) (tabM laws_toInt64S_tab) (laws_toInt64S_LO v23) 0 laws_toInt64S_l0_kill laws_toInt64S_l0_nx (bodyOf Try.f42 0) 0 (laws_toInt64S_l0_E v23 s) = (laws_toInt64S_l0_T v23 s).bind fun y => .leaf (outS (laws_toInt64S_l0_E v23) (laws_toInt64S_l0_X v23) y) := by kernel_rfl
theorem laws_toInt64S_l0_ok (v23 : List Int) : LSound Try.prog 0 (laws_toInt64S_LO v23) 0 (bodyOf Try.f42 0) := by
  intro e L out h
  exact lo_ok (E := laws_toInt64S_l0_E v23) (gT := laws_toInt64S_l0_T v23) (X := laws_toInt64S_l0_X v23) (s0 := ((gI (vAt e 4)), (gRI L (vAt e 3)))) tok laws_toInt64S_hO mixed (LoopsOk_eq (l := []) (by kernel_rfl) trivial) (laws_toInt64S_l0_be v23) rfl (by intro x; rfl) h
noncomputable def laws_toInt64S_T (v23 : List Int) : Tree ((List Int)) :=
  (.need (((v23.length : Nat) : Int) = ((v23.length : Nat) : Int)) <|
  (.grd (inb ((v23.length : Nat) : Int) (maxN + 1)) <|
  (.need (some (laws_toInt64S_l0_E v23 ((0 : Int), List.replicate (Int.toNat ((v23.length : Nat) : Int)) (0 : Int))) = some (laws_toInt64S_l0_E v23 ((0 : Int), List.replicate (Int.toNat ((v23.length : Nat) : Int)) (0 : Int)))) <|
  (.call (laws_toInt64S_l0_g v23 ((0 : Int), List.replicate (Int.toNat ((v23.length : Nat) : Int)) (0 : Int))) fun v29 =>
  .leaf v29))))

noncomputable def laws_toInt64S_g (v23 : List Int) : Option ((List Int)) := (laws_toInt64S_T v23).run
def laws_toInt64S_enc (v23 : List Int) (y : (List Int)) : Rs := (.own 0 0 ((y).length), [.row (.i64 y) 0])
theorem laws_toInt64S_den (v23 : List Int) : (den TT (tabD laws_toInt64S_tab) (tabM laws_toInt64S_tab) (laws_toInt64S_LO v23) (codeOf Try.f42) ([.bslc (BR.root 0) (.i64 v23)] ++ List.replicate (Try.f42.ntmps - ([.bslc (BR.root 0) (.i64 v23)] : List DV).length) .undef) []).bind (retD TT Try.f42.results.toList 0) = (laws_toInt64S_T v23).bind fun y => .leaf (laws_toInt64S_enc v23 y) := by kernel_rfl
theorem laws_toInt64S_fn (v23 : List Int) (F : Fr) (hm : F.ids.length = 0) (h0 : St F [] F.H0) (hA : DVs.Ok F [] [.bslc (BR.root 0) (.i64 v23)]) {y : (List Int)} (hy : laws_toInt64S_g v23 = some y) : ∃ H', FnOk Try.prog 42 (DVs.av F [.bslc (BR.root 0) (.i64 v23)]) F.H0 ((laws_toInt64S_enc v23 y).1.av F) H' ∧ St F (laws_toInt64S_enc v23 y).2 H' ∧ (laws_toInt64S_enc v23 y).1.Ok F (laws_toInt64S_enc v23 y).2 :=
  fn_fin tok laws_toInt64S_hO mixed Try.func42 Try.call42 (by kernel_rfl) (LoopsOk_eq (l := [(0, bodyOf Try.f42 0)]) (by kernel_rfl) ⟨laws_toInt64S_l0_ok v23, trivial⟩) (laws_toInt64S_den v23) hy hm h0 hA
noncomputable def laws_toInt64S_F : DFn := fun args L =>
  match args with
  | [a1] =>
    optT (rowI64 L a1) fun v23 =>
    .call (laws_toInt64S_g v23) fun y => .leaf (.own (L.length + 0) 0 ((y).length), L ++ [.row (.i64 y) 0])
  | _ => .fail
theorem laws_toInt64S_Fok : COk Try.prog 42 laws_toInt64S_F true := by
  intro F L H args r L' hs ha hr
  unfold laws_toInt64S_F at hr
  split at hr
  · rename_i a1
    obtain ⟨v23, hv23, hr⟩ := optT_run hr
    simp only [Tree.run] at hr
    obtain ⟨y, hy, hr⟩ := Option.bind_eq_some_iff.1 hr
    simp only [Tree.run, Option.some.injEq, Prod.mk.injEq] at hr
    obtain ⟨rfl, rfl⟩ := hr
    exact call_ok1 hs (fun k => (([a1.av F] : List AV)[k]?).getD .top) [a1] [.bslc (BR.root 0) (.i64 v23)] (fun F' h0 hi hρ => ⟨by simp [DVs.av, DV.av, BR.av, hρ], laws_toInt64S_fn v23 F' (by rw [hi]; rfl) (st_nil hi) ⟨bslc_ok hi (by rw [h0, hρ]; exact rowI64_ok hs (DVs.okAt ha 0 rfl) hv23), trivial⟩ hy⟩) rfl rfl
  · cases hr
/-! spec.l00In -/
noncomputable def spec_l00In_LO (v40 : Int) (v41 : Int) (v42 : Int) : LOr := fun id e L =>
  match id with
  | _ => .fail
noncomputable def spec_l00In_tab : List (FuncId × DFn × Bool) := []
theorem spec_l00In_hO : OrcOk Try.prog (tabD spec_l00In_tab) (tabM spec_l00In_tab) := tabD_nil _
noncomputable def spec_l00In_T (v40 : Int) (v41 : Int) (v42 : Int) : Tree (Bool) :=
  (.br (decide (v41 ≤ v40)) (
   .leaf (decide (v40 ≤ v42))
  ) (
   .leaf false
  ))

noncomputable def spec_l00In_g (v40 : Int) (v41 : Int) (v42 : Int) : Option (Bool) := (spec_l00In_T v40 v41 v42).run
def spec_l00In_enc (v40 : Int) (v41 : Int) (v42 : Int) (y : Bool) : Rs := (.bool y, [])
theorem spec_l00In_den (v40 : Int) (v41 : Int) (v42 : Int) : (den TT (tabD spec_l00In_tab) (tabM spec_l00In_tab) (spec_l00In_LO v40 v41 v42) (codeOf Try.f71) ([.int .i64 v40, .int .i64 v41, .int .i64 v42] ++ List.replicate (Try.f71.ntmps - ([.int .i64 v40, .int .i64 v41, .int .i64 v42] : List DV).length) .undef) []).bind (retD TT Try.f71.results.toList 0) = (spec_l00In_T v40 v41 v42).bind fun y => .leaf (spec_l00In_enc v40 v41 v42 y) := by kernel_rfl
theorem spec_l00In_fn (v40 : Int) (v41 : Int) (v42 : Int) (F : Fr) (hm : F.ids.length = 0) (h0 : St F [] F.H0) (hA : DVs.Ok F [] [.int .i64 v40, .int .i64 v41, .int .i64 v42]) {y : Bool} (hy : spec_l00In_g v40 v41 v42 = some y) : ∃ H', FnOk Try.prog 71 (DVs.av F [.int .i64 v40, .int .i64 v41, .int .i64 v42]) F.H0 ((spec_l00In_enc v40 v41 v42 y).1.av F) H' ∧ St F (spec_l00In_enc v40 v41 v42 y).2 H' ∧ (spec_l00In_enc v40 v41 v42 y).1.Ok F (spec_l00In_enc v40 v41 v42 y).2 :=
  fn_fin tok spec_l00In_hO mixed Try.func71 Try.call71 (by kernel_rfl) (LoopsOk_eq (l := []) (by kernel_rfl) trivial) (spec_l00In_den v40 v41 v42) hy hm h0 hA
def spec_l00In_v (v40 : Int) (v41 : Int) (v42 : Int) : Bool :=
  if (decide (v41 ≤ v40)) = true then (
   decide (v40 ≤ v42)
  ) else (
   false
  )
theorem spec_l00In_tot (v40 : Int) (v41 : Int) (v42 : Int) : spec_l00In_g v40 v41 v42 = some (spec_l00In_v v40 v41 v42) := by
  unfold spec_l00In_g spec_l00In_T spec_l00In_v
  simp only [Tree.run]
  repeat' (first | rfl | split)
noncomputable def spec_l00In_F : DFn := fun args L =>
  match args with
  | [.int .i64 v40, .int .i64 v41, .int .i64 v42] =>
    .leaf (.bool (spec_l00In_v v40 v41 v42), L)
  | _ => .fail
theorem spec_l00In_Fok : COk Try.prog 71 spec_l00In_F true := by
  intro F L H args r L' hs ha hr
  unfold spec_l00In_F at hr
  split at hr
  · rename_i v40 v41 v42
    have hy := spec_l00In_tot v40 v41 v42
    generalize spec_l00In_v v40 v41 v42 = y at hy hr
    simp only [Tree.run, Option.some.injEq, Prod.mk.injEq] at hr
    obtain ⟨rfl, rfl⟩ := hr
    exact call_ok0 hs (fun k => (([] : List AV)[k]?).getD .top) [.int .i64 v40, .int .i64 v41, .int .i64 v42] [.int .i64 v40, .int .i64 v41, .int .i64 v42] (fun F' h0 hi hρ => ⟨by simp [DVs.av, DV.av, BR.av, hρ], spec_l00In_fn v40 v41 v42 F' (by rw [hi]; rfl) (st_nil hi) ⟨trivial, trivial, trivial, trivial⟩ hy⟩) rfl
  · cases hr
/-! spec.l02Sides -/
noncomputable def spec_l02Sides_LO (v38 : Int) (v39 : Int) : LOr := fun id e L =>
  match id with
  | _ => .fail
noncomputable def spec_l02Sides_tab : List (FuncId × DFn × Bool) := [(71, spec_l00In_F, true)]
theorem spec_l02Sides_hO : OrcOk Try.prog (tabD spec_l02Sides_tab) (tabM spec_l02Sides_tab) := tabD_cons spec_l00In_Fok (tabD_nil _)
noncomputable def spec_l02Sides_T (v38 : Int) (v39 : Int) : Tree (Bool) :=
  (.br (spec_l00In_v v38 (1 : Int) (12 : Int)) (
   .leaf (spec_l00In_v v39 (1 : Int) (12 : Int))
  ) (
   .leaf false
  ))

noncomputable def spec_l02Sides_g (v38 : Int) (v39 : Int) : Option (Bool) := (spec_l02Sides_T v38 v39).run
def spec_l02Sides_enc (v38 : Int) (v39 : Int) (y : Bool) : Rs := (.bool y, [])
theorem spec_l02Sides_den (v38 : Int) (v39 : Int) : (den TT (tabD spec_l02Sides_tab) (tabM spec_l02Sides_tab) (spec_l02Sides_LO v38 v39) (codeOf Try.f147) ([.int .i64 v38, .int .i64 v39] ++ List.replicate (Try.f147.ntmps - ([.int .i64 v38, .int .i64 v39] : List DV).length) .undef) []).bind (retD TT Try.f147.results.toList 0) = (spec_l02Sides_T v38 v39).bind fun y => .leaf (spec_l02Sides_enc v38 v39 y) := by kernel_rfl
theorem spec_l02Sides_fn (v38 : Int) (v39 : Int) (F : Fr) (hm : F.ids.length = 0) (h0 : St F [] F.H0) (hA : DVs.Ok F [] [.int .i64 v38, .int .i64 v39]) {y : Bool} (hy : spec_l02Sides_g v38 v39 = some y) : ∃ H', FnOk Try.prog 147 (DVs.av F [.int .i64 v38, .int .i64 v39]) F.H0 ((spec_l02Sides_enc v38 v39 y).1.av F) H' ∧ St F (spec_l02Sides_enc v38 v39 y).2 H' ∧ (spec_l02Sides_enc v38 v39 y).1.Ok F (spec_l02Sides_enc v38 v39 y).2 :=
  fn_fin tok spec_l02Sides_hO mixed Try.func147 Try.call147 (by kernel_rfl) (LoopsOk_eq (l := []) (by kernel_rfl) trivial) (spec_l02Sides_den v38 v39) hy hm h0 hA
def spec_l02Sides_v (v38 : Int) (v39 : Int) : Bool :=
  if (spec_l00In_v v38 (1 : Int) (12 : Int)) = true then (
   (spec_l00In_v v39 (1 : Int) (12 : Int))
  ) else (
   false
  )
theorem spec_l02Sides_tot (v38 : Int) (v39 : Int) : spec_l02Sides_g v38 v39 = some (spec_l02Sides_v v38 v39) := by
  unfold spec_l02Sides_g spec_l02Sides_T spec_l02Sides_v
  simp only [Tree.run]
  repeat' (first | rfl | split)
noncomputable def spec_l02Sides_F : DFn := fun args L =>
  match args with
  | [.int .i64 v38, .int .i64 v39] =>
    .leaf (.bool (spec_l02Sides_v v38 v39), L)
  | _ => .fail
theorem spec_l02Sides_Fok : COk Try.prog 147 spec_l02Sides_F true := by
  intro F L H args r L' hs ha hr
  unfold spec_l02Sides_F at hr
  split at hr
  · rename_i v38 v39
    have hy := spec_l02Sides_tot v38 v39
    generalize spec_l02Sides_v v38 v39 = y at hy hr
    simp only [Tree.run, Option.some.injEq, Prod.mk.injEq] at hr
    obtain ⟨rfl, rfl⟩ := hr
    exact call_ok0 hs (fun k => (([] : List AV)[k]?).getD .top) [.int .i64 v38, .int .i64 v39] [.int .i64 v38, .int .i64 v39] (fun F' h0 hi hρ => ⟨by simp [DVs.av, DV.av, BR.av, hρ], spec_l02Sides_fn v38 v39 F' (by rw [hi]; rfl) (st_nil hi) ⟨trivial, trivial, trivial⟩ hy⟩) rfl
  · cases hr
/-! spec.l01Finite -/
noncomputable def spec_l01Finite_LO (v45 : Nat) : LOr := fun id e L =>
  match id with
  | _ => .fail
noncomputable def spec_l01Finite_tab : List (FuncId × DFn × Bool) := []
theorem spec_l01Finite_hO : OrcOk Try.prog (tabD spec_l01Finite_tab) (tabM spec_l01Finite_tab) := tabD_nil _
noncomputable def spec_l01Finite_T (v45 : Nat) : Tree (Bool) :=
  .leaf (feq .f32 (fsub .f32 v45 v45) (0 : Nat))

noncomputable def spec_l01Finite_g (v45 : Nat) : Option (Bool) := (spec_l01Finite_T v45).run
def spec_l01Finite_enc (v45 : Nat) (y : Bool) : Rs := (.bool y, [])
theorem spec_l01Finite_den (v45 : Nat) : (den TT (tabD spec_l01Finite_tab) (tabM spec_l01Finite_tab) (spec_l01Finite_LO v45) (codeOf Try.f100) ([.flt .f32 v45] ++ List.replicate (Try.f100.ntmps - ([.flt .f32 v45] : List DV).length) .undef) []).bind (retD TT Try.f100.results.toList 0) = (spec_l01Finite_T v45).bind fun y => .leaf (spec_l01Finite_enc v45 y) := by kernel_rfl
theorem spec_l01Finite_fn (v45 : Nat) (F : Fr) (hm : F.ids.length = 0) (h0 : St F [] F.H0) (hA : DVs.Ok F [] [.flt .f32 v45]) {y : Bool} (hy : spec_l01Finite_g v45 = some y) : ∃ H', FnOk Try.prog 100 (DVs.av F [.flt .f32 v45]) F.H0 ((spec_l01Finite_enc v45 y).1.av F) H' ∧ St F (spec_l01Finite_enc v45 y).2 H' ∧ (spec_l01Finite_enc v45 y).1.Ok F (spec_l01Finite_enc v45 y).2 :=
  fn_fin tok spec_l01Finite_hO mixed Try.func100 Try.call100 (by kernel_rfl) (LoopsOk_eq (l := []) (by kernel_rfl) trivial) (spec_l01Finite_den v45) hy hm h0 hA
def spec_l01Finite_v (v45 : Nat) : Bool :=
  feq .f32 (fsub .f32 v45 v45) (0 : Nat)
theorem spec_l01Finite_tot (v45 : Nat) : spec_l01Finite_g v45 = some (spec_l01Finite_v v45) := by
  unfold spec_l01Finite_g spec_l01Finite_T spec_l01Finite_v
  simp only [Tree.run]
  repeat' (first | rfl | split)
noncomputable def spec_l01Finite_F : DFn := fun args L =>
  match args with
  | [.flt .f32 v45] =>
    .leaf (.bool (spec_l01Finite_v v45), L)
  | _ => .fail
theorem spec_l01Finite_Fok : COk Try.prog 100 spec_l01Finite_F true := by
  intro F L H args r L' hs ha hr
  unfold spec_l01Finite_F at hr
  split at hr
  · rename_i v45
    have hy := spec_l01Finite_tot v45
    generalize spec_l01Finite_v v45 = y at hy hr
    simp only [Tree.run, Option.some.injEq, Prod.mk.injEq] at hr
    obtain ⟨rfl, rfl⟩ := hr
    exact call_ok0 hs (fun k => (([] : List AV)[k]?).getD .top) [.flt .f32 v45] [.flt .f32 v45] (fun F' h0 hi hρ => ⟨by simp [DVs.av, DV.av, BR.av, hρ], spec_l01Finite_fn v45 F' (by rw [hi]; rfl) (st_nil hi) ⟨trivial, trivial⟩ hy⟩) rfl
  · cases hr
/-! spec.l02Finite -/
noncomputable def spec_l02Finite_l0_T (v43 : List Nat) (s : Int) : Tree ((Int) ⊕ ((Unit) ⊕ (Unit))) :=
  (.br (decide (s < ((v43.length : Nat) : Int))) (
   (.grd (inb s v43.length) <|
   (.br (!(spec_l01Finite_v (nth v43 (Int.toNat s)))) (
    .leaf (.inr (.inl ()))
   ) (
    .leaf (.inl (IntKind.i64.wrap (s + (1 : Int))))
   )))
  ) (
   .leaf (.inr (.inr ()))
  ))

noncomputable def spec_l02Finite_l0_g (v43 : List Nat) (s0 : Int) : Option ((Unit) ⊕ (Unit)) := whileM (fun s => (spec_l02Finite_l0_T v43 s).run) s0
def spec_l02Finite_l0_E (v43 : List Nat) (s : Int) : Sd := ([.bslc (BR.root 0) (.f32 v43), .top, .top, .int .i64 s, .top, .top, .top, .top, .top, .top, .top, .top, .top, .top, .top, .top], [])
def spec_l02Finite_l0_X (v43 : List Nat) (x : (Unit) ⊕ (Unit)) : Out := (match x with | .inl x => (.ret, [.top, .top, .lit false, .top, .top, .top, .top, .top, .top, .top, .top, .top, .top, .top, .top, .top], []) | .inr x => (.normal, [.top, .top, .top, .top, .top, .top, .top, .top, .top, .top, .top, .top, .top, .top, .top, .top], []))
def spec_l02Finite_l0_kill : List Nat := [0, 1, 1, 0, 1, 1, 1, 1, 1, 1, 1, 1, 1, 1, 1, 1]
def spec_l02Finite_l0_nx : Exit → List Nat
  | .exit 0 => [1, 1, 1, 1, 1, 1, 1, 1, 1, 1, 1, 1, 1, 1, 1, 1]
  | .ret => [1, 1, 0, 1, 1, 1, 1, 1, 1, 1, 1, 1, 1, 1, 1, 1]
  | _ => []
noncomputable def spec_l02Finite_LO (v43 : List Nat) : LOr := fun id e L =>
  match id with
  | 0 => .need (normA 0 spec_l02Finite_l0_kill e L = some (spec_l02Finite_l0_E v43 (gI (vAt e 3)))) (.call (spec_l02Finite_l0_g v43 (gI (vAt e 3))) fun x => .sum x (fun b0 => .leaf (spec_l02Finite_l0_X v43 (.inl b0))) (fun c0 => .leaf (spec_l02Finite_l0_X v43 (.inr c0))))
  | _ => .fail
noncomputable def spec_l02Finite_tab : List (FuncId × DFn × Bool) := [(100, spec_l01Finite_F, true)]
theorem spec_l02Finite_hO : OrcOk Try.prog (tabD spec_l02Finite_tab) (tabM spec_l02Finite_tab) := tabD_cons spec_l01Finite_Fok (tabD_nil _)
theorem spec_l02Finite_l0_be (v43 : List Nat) (s : Int) : bodyT TT (tabD spec_l02Finite_tab) (tabM spec_l02Finite_tab) (spec_l02Finite_LO v43) 0 spec_l02Finite_l0_kill spec_l02Finite_l0_nx (bodyOf Try.f131 0) 0 (spec_l02Finite_l0_E v43 s) = (spec_l02Finite_l0_T v43 s).bind fun y => .leaf (outS (spec_l02Finite_l0_E v43) (spec_l02Finite_l0_X v43) y) := by kernel_rfl
theorem spec_l02Finite_l0_ok (v43 : List Nat) : LSound Try.prog 0 (spec_l02Finite_LO v43) 0 (bodyOf Try.f131 0) := by
  intro e L out h
  exact lo_ok (E := spec_l02Finite_l0_E v43) (gT := spec_l02Finite_l0_T v43) (X := spec_l02Finite_l0_X v43) (s0 := (gI (vAt e 3))) tok spec_l02Finite_hO mixed (LoopsOk_eq (l := []) (by kernel_rfl) trivial) (spec_l02Finite_l0_be v43) rfl (by intro x; (cases x with | inl b => rfl | inr x => exact rfl)) h
noncomputable def spec_l02Finite_T (v43 : List Nat) : Tree (Bool) :=
  (.need (some (spec_l02Finite_l0_E v43 (0 : Int)) = some (spec_l02Finite_l0_E v43 (0 : Int))) <|
  (.call (spec_l02Finite_l0_g v43 (0 : Int)) fun v48 =>
  (.sum v48 (fun v49 =>
   .leaf false
  ) (fun v50 =>
   .leaf true
  ))))

noncomputable def spec_l02Finite_g (v43 : List Nat) : Option (Bool) := (spec_l02Finite_T v43).run
def spec_l02Finite_enc (v43 : List Nat) (y : Bool) : Rs := (.bool y, [])
theorem spec_l02Finite_den (v43 : List Nat) : (den TT (tabD spec_l02Finite_tab) (tabM spec_l02Finite_tab) (spec_l02Finite_LO v43) (codeOf Try.f131) ([.bslc (BR.root 0) (.f32 v43)] ++ List.replicate (Try.f131.ntmps - ([.bslc (BR.root 0) (.f32 v43)] : List DV).length) .undef) []).bind (retD TT Try.f131.results.toList 0) = (spec_l02Finite_T v43).bind fun y => .leaf (spec_l02Finite_enc v43 y) := by kernel_rfl
theorem spec_l02Finite_fn (v43 : List Nat) (F : Fr) (hm : F.ids.length = 0) (h0 : St F [] F.H0) (hA : DVs.Ok F [] [.bslc (BR.root 0) (.f32 v43)]) {y : Bool} (hy : spec_l02Finite_g v43 = some y) : ∃ H', FnOk Try.prog 131 (DVs.av F [.bslc (BR.root 0) (.f32 v43)]) F.H0 ((spec_l02Finite_enc v43 y).1.av F) H' ∧ St F (spec_l02Finite_enc v43 y).2 H' ∧ (spec_l02Finite_enc v43 y).1.Ok F (spec_l02Finite_enc v43 y).2 :=
  fn_fin tok spec_l02Finite_hO mixed Try.func131 Try.call131 (by kernel_rfl) (LoopsOk_eq (l := [(0, bodyOf Try.f131 0)]) (by kernel_rfl) ⟨spec_l02Finite_l0_ok v43, trivial⟩) (spec_l02Finite_den v43) hy hm h0 hA
noncomputable def spec_l02Finite_F : DFn := fun args L =>
  match args with
  | [a1] =>
    optT (rowF32 L a1) fun v43 =>
    .call (spec_l02Finite_g v43) fun y => .leaf (.bool y, L)
  | _ => .fail
theorem spec_l02Finite_Fok : COk Try.prog 131 spec_l02Finite_F true := by
  intro F L H args r L' hs ha hr
  unfold spec_l02Finite_F at hr
  split at hr
  · rename_i a1
    obtain ⟨v43, hv43, hr⟩ := optT_run hr
    simp only [Tree.run] at hr
    obtain ⟨y, hy, hr⟩ := Option.bind_eq_some_iff.1 hr
    simp only [Tree.run, Option.some.injEq, Prod.mk.injEq] at hr
    obtain ⟨rfl, rfl⟩ := hr
    exact call_ok0 hs (fun k => (([a1.av F] : List AV)[k]?).getD .top) [a1] [.bslc (BR.root 0) (.f32 v43)] (fun F' h0 hi hρ => ⟨by simp [DVs.av, DV.av, BR.av, hρ], spec_l02Finite_fn v43 F' (by rw [hi]; rfl) (st_nil hi) ⟨bslc_ok hi (by rw [h0, hρ]; exact rowF32_ok hs (DVs.okAt ha 0 rfl) hv43), trivial⟩ hy⟩) rfl
  · cases hr
/-! spec.l02Is -/
noncomputable def spec_l02Is_LO (v35 : Int) (v36 : Int) (v37 : List Nat) : LOr := fun id e L =>
  match id with
  | _ => .fail
noncomputable def spec_l02Is_tab : List (FuncId × DFn × Bool) := [(147, spec_l02Sides_F, true), (131, spec_l02Finite_F, true)]
theorem spec_l02Is_hO : OrcOk Try.prog (tabD spec_l02Is_tab) (tabM spec_l02Is_tab) := tabD_cons spec_l02Sides_Fok (tabD_cons spec_l02Finite_Fok (tabD_nil _))
noncomputable def spec_l02Is_T (v35 : Int) (v36 : Int) (v37 : List Nat) : Tree (Bool) :=
  (.br (spec_l02Sides_v v35 v36) (
   (.br (decide (((v37.length : Nat) : Int) = IntKind.i64.wrap (v35 * v36))) (
    (.call (spec_l02Finite_g v37) fun v51 =>
    .leaf v51)
   ) (
    .leaf false
   ))
  ) (
   .leaf false
  ))

noncomputable def spec_l02Is_g (v35 : Int) (v36 : Int) (v37 : List Nat) : Option (Bool) := (spec_l02Is_T v35 v36 v37).run
def spec_l02Is_enc (v35 : Int) (v36 : Int) (v37 : List Nat) (y : Bool) : Rs := (.bool y, [])
theorem spec_l02Is_den (v35 : Int) (v36 : Int) (v37 : List Nat) : (den TT (tabD spec_l02Is_tab) (tabM spec_l02Is_tab) (spec_l02Is_LO v35 v36 v37) (codeOf Try.f99) ([.bptr (BR.root 0) [.int .i64 v35, .int .i64 v36, .bslc (BR.root 1) (.f32 v37)]] ++ List.replicate (Try.f99.ntmps - ([.bptr (BR.root 0) [.int .i64 v35, .int .i64 v36, .bslc (BR.root 1) (.f32 v37)]] : List DV).length) .undef) []).bind (retD TT Try.f99.results.toList 0) = (spec_l02Is_T v35 v36 v37).bind fun y => .leaf (spec_l02Is_enc v35 v36 v37 y) := by kernel_rfl
theorem spec_l02Is_fn (v35 : Int) (v36 : Int) (v37 : List Nat) (F : Fr) (hm : F.ids.length = 0) (h0 : St F [] F.H0) (hA : DVs.Ok F [] [.bptr (BR.root 0) [.int .i64 v35, .int .i64 v36, .bslc (BR.root 1) (.f32 v37)]]) {y : Bool} (hy : spec_l02Is_g v35 v36 v37 = some y) : ∃ H', FnOk Try.prog 99 (DVs.av F [.bptr (BR.root 0) [.int .i64 v35, .int .i64 v36, .bslc (BR.root 1) (.f32 v37)]]) F.H0 ((spec_l02Is_enc v35 v36 v37 y).1.av F) H' ∧ St F (spec_l02Is_enc v35 v36 v37 y).2 H' ∧ (spec_l02Is_enc v35 v36 v37 y).1.Ok F (spec_l02Is_enc v35 v36 v37 y).2 :=
  fn_fin tok spec_l02Is_hO mixed Try.func99 Try.call99 (by kernel_rfl) (LoopsOk_eq (l := []) (by kernel_rfl) trivial) (spec_l02Is_den v35 v36 v37) hy hm h0 hA
noncomputable def spec_l02Is_F : DFn := fun args L =>
  match args with
  | [a1] =>
    optT (cellsOf L 3 a1) fun cs0 =>
    (match cs0 with
    | [.int .i64 v35, .int .i64 v36, a2] =>
    optT (rowF32 L a2) fun v37 =>
    .call (spec_l02Is_g v35 v36 v37) fun y => .leaf (.bool y, L)
    | _ => .fail)
  | _ => .fail
theorem spec_l02Is_Fok : COk Try.prog 99 spec_l02Is_F true := by
  intro F L H args r L' hs ha hr
  unfold spec_l02Is_F at hr
  split at hr
  · rename_i a1
    obtain ⟨cs0, hcp0, hr⟩ := optT_run hr
    split at hr
    · rename_i v35 v36 a2
      obtain ⟨v37, hv37, hr⟩ := optT_run hr
      simp only [Tree.run] at hr
      obtain ⟨y, hy, hr⟩ := Option.bind_eq_some_iff.1 hr
      simp only [Tree.run, Option.some.injEq, Prod.mk.injEq] at hr
      obtain ⟨rfl, rfl⟩ := hr
      exact call_ok0 hs (fun k => (([a1.av F, a2.av F] : List AV)[k]?).getD .top) [a1] [.bptr (BR.root 0) [.int .i64 v35, .int .i64 v36, .bslc (BR.root 1) (.f32 v37)]] (fun F' h0 hi hρ => ⟨by simp [DVs.av, DV.av, BR.av, hρ], spec_l02Is_fn v35 v36 v37 F' (by rw [hi]; rfl) (st_nil hi) ⟨bptr_ok hi (by rw [h0]; simpa [DVs.av, DV.av, BR.av, hρ] using (cellsOf_ok hs (DVs.okAt ha 0 rfl) hcp0).1) ⟨trivial, trivial, bslc_ok hi (by rw [h0, hρ]; exact rowF32_ok hs (DVs.okAt (cellsOf_ok hs (DVs.okAt ha 0 rfl) hcp0).2 2 rfl) hv37), trivial⟩, trivial⟩ hy⟩) rfl
    · cases hr
  · cases hr
/-! spec.l02Order -/
noncomputable def spec_l02Order_l0_T (v53 : List Int) (s : Int × (List Bool)) : Tree ((Int × (List Bool)) ⊕ ((Unit) ⊕ (Unit))) :=
  (.br (decide (s.1 < ((v53.length : Nat) : Int))) (
   (.grd (inb s.1 v53.length) <|
   (.br (!(spec_l00In_v (nth v53 (Int.toNat s.1)) (0 : Int) (IntKind.i64.wrap (((v53.length : Nat) : Int) - (1 : Int))))) (
    .leaf (.inr (.inl ()))
   ) (
    (.grd (inb s.1 v53.length) <|
    (.grd (inb (nth v53 (Int.toNat s.1)) ((s.2).length)) <|
    (.br (nth s.2 (Int.toNat (nth v53 (Int.toNat s.1)))) (
     .leaf (.inr (.inl ()))
    ) (
     (.grd (inb s.1 v53.length) <|
     (.grd (inb (nth v53 (Int.toNat s.1)) ((s.2).length)) <|
     .leaf (.inl (IntKind.i64.wrap (s.1 + (1 : Int)), List.set s.2 (Int.toNat (nth v53 (Int.toNat s.1))) true))))
    ))))
   )))
  ) (
   .leaf (.inr (.inr ()))
  ))

noncomputable def spec_l02Order_l0_g (v53 : List Int) (s0 : Int × (List Bool)) : Option ((Unit) ⊕ (Unit)) := whileM (fun s => (spec_l02Order_l0_T v53 s).run) s0
def spec_l02Order_l0_E (v53 : List Int) (s : Int × (List Bool)) : Sd := ([.bslc (BR.root 0) (.i64 v53), .top, .top, .own 0 0 ((s.2).length), .int .i64 s.1, .top, .top, .top, .top, .top, .top, .top, .top, .top, .top, .top, .top, .top, .top, .top, .top, .top, .top, .top, .top, .top, .top, .top, .top, .top, .top, .top, .top, .top, .top, .top, .top, .top, .top, .top, .top, .top, .top, .top, .top, .top], [.row (.bool s.2) 0])
def spec_l02Order_l0_X (v53 : List Int) (x : (Unit) ⊕ (Unit)) : Out := (match x with | .inl x => (.ret, [.top, .top, .lit false, .top, .top, .top, .top, .top, .top, .top, .top, .top, .top, .top, .top, .top, .top, .top, .top, .top, .top, .top, .top, .top, .top, .top, .top, .top, .top, .top, .top, .top, .top, .top, .top, .top, .top, .top, .top, .top, .top, .top, .top, .top, .top, .top], []) | .inr x => (.normal, [.top, .top, .top, .top, .top, .top, .top, .top, .top, .top, .top, .top, .top, .top, .top, .top, .top, .top, .top, .top, .top, .top, .top, .top, .top, .top, .top, .top, .top, .top, .top, .top, .top, .top, .top, .top, .top, .top, .top, .top, .top, .top, .top, .top, .top, .top], []))
def spec_l02Order_l0_kill : List Nat := [0, 1, 1, 0, 0, 1, 1, 1, 1, 1, 1, 1, 1, 1, 1, 1, 1, 1, 1, 1, 1, 1, 1, 1, 1, 1, 1, 1, 1, 1, 1, 1, 1, 1, 1, 1, 1, 1, 1, 1, 1, 1, 1, 1, 1, 1]
def spec_l02Order_l0_nx : Exit → List Nat
  | .exit 0 => [1, 1, 1, 1, 1, 1, 1, 1, 1, 1, 1, 1, 1, 1, 1, 1, 1, 1, 1, 1, 1, 1, 1, 1, 1, 1, 1, 1, 1, 1, 1, 1, 1, 1, 1, 1, 1, 1, 1, 1, 1, 1, 1, 1, 1, 1]
  | .ret => [1, 1, 0, 1, 1, 1, 1, 1, 1, 1, 1, 1, 1, 1, 1, 1, 1, 1, 1, 1, 1, 1, 1, 1, 1, 1, 1, 1, 1, 1, 1, 1, 1, 1, 1, 1, 1, 1, 1, 1, 1, 1, 1, 1, 1, 1]
  | _ => []
noncomputable def spec_l02Order_LO (v53 : List Int) : LOr := fun id e L =>
  match id with
  | 0 => .need (normA 0 spec_l02Order_l0_kill e L = some (spec_l02Order_l0_E v53 ((gI (vAt e 4)), (gRB L (vAt e 3))))) (.call (spec_l02Order_l0_g v53 ((gI (vAt e 4)), (gRB L (vAt e 3)))) fun x => .sum x (fun b0 => .leaf (spec_l02Order_l0_X v53 (.inl b0))) (fun c0 => .leaf (spec_l02Order_l0_X v53 (.inr c0))))
  | _ => .fail
noncomputable def spec_l02Order_tab : List (FuncId × DFn × Bool) := [(71, spec_l00In_F, true)]
theorem spec_l02Order_hO : OrcOk Try.prog (tabD spec_l02Order_tab) (tabM spec_l02Order_tab) := tabD_cons spec_l00In_Fok (tabD_nil _)
theorem spec_l02Order_l0_be (v53 : List Int) (s : Int × (List Bool)) : bodyT TT (tabD spec_l02Order_tab) (tabM spec_l02Order_tab) (spec_l02Order_LO v53) 0 spec_l02Order_l0_kill spec_l02Order_l0_nx (bodyOf Try.f106 0) 0 (spec_l02Order_l0_E v53 s) = (spec_l02Order_l0_T v53 s).bind fun y => .leaf (outS (spec_l02Order_l0_E v53) (spec_l02Order_l0_X v53) y) := by kernel_rfl
theorem spec_l02Order_l0_ok (v53 : List Int) : LSound Try.prog 0 (spec_l02Order_LO v53) 0 (bodyOf Try.f106 0) := by
  intro e L out h
  exact lo_ok (E := spec_l02Order_l0_E v53) (gT := spec_l02Order_l0_T v53) (X := spec_l02Order_l0_X v53) (s0 := ((gI (vAt e 4)), (gRB L (vAt e 3)))) tok spec_l02Order_hO mixed (LoopsOk_eq (l := []) (by kernel_rfl) trivial) (spec_l02Order_l0_be v53) rfl (by intro x; (cases x with | inl b => rfl | inr x => exact rfl)) h
noncomputable def spec_l02Order_T (v53 : List Int) : Tree (Bool) :=
  (.br (decide (((v53.length : Nat) : Int) < (1 : Int))) (
   .leaf false
  ) (
   (.br (decide ((12 : Int) < ((v53.length : Nat) : Int))) (
    .leaf false
   ) (
    (.need (((v53.length : Nat) : Int) = ((v53.length : Nat) : Int)) <|
    (.grd (inb ((v53.length : Nat) : Int) (maxN + 1)) <|
    (.need (some (spec_l02Order_l0_E v53 ((0 : Int), List.replicate (Int.toNat ((v53.length : Nat) : Int)) false)) = some (spec_l02Order_l0_E v53 ((0 : Int), List.replicate (Int.toNat ((v53.length : Nat) : Int)) false))) <|
    (.call (spec_l02Order_l0_g v53 ((0 : Int), List.replicate (Int.toNat ((v53.length : Nat) : Int)) false)) fun v59 =>
    (.sum v59 (fun v60 =>
     .leaf false
    ) (fun v61 =>
     .leaf true
    ))))))
   ))
  ))

noncomputable def spec_l02Order_g (v53 : List Int) : Option (Bool) := (spec_l02Order_T v53).run
def spec_l02Order_enc (v53 : List Int) (y : Bool) : Rs := (.bool y, [])
theorem spec_l02Order_den (v53 : List Int) : (den TT (tabD spec_l02Order_tab) (tabM spec_l02Order_tab) (spec_l02Order_LO v53) (codeOf Try.f106) ([.bslc (BR.root 0) (.i64 v53)] ++ List.replicate (Try.f106.ntmps - ([.bslc (BR.root 0) (.i64 v53)] : List DV).length) .undef) []).bind (retD TT Try.f106.results.toList 0) = (spec_l02Order_T v53).bind fun y => .leaf (spec_l02Order_enc v53 y) := by kernel_rfl
theorem spec_l02Order_fn (v53 : List Int) (F : Fr) (hm : F.ids.length = 0) (h0 : St F [] F.H0) (hA : DVs.Ok F [] [.bslc (BR.root 0) (.i64 v53)]) {y : Bool} (hy : spec_l02Order_g v53 = some y) : ∃ H', FnOk Try.prog 106 (DVs.av F [.bslc (BR.root 0) (.i64 v53)]) F.H0 ((spec_l02Order_enc v53 y).1.av F) H' ∧ St F (spec_l02Order_enc v53 y).2 H' ∧ (spec_l02Order_enc v53 y).1.Ok F (spec_l02Order_enc v53 y).2 :=
  fn_fin tok spec_l02Order_hO mixed Try.func106 Try.call106 (by kernel_rfl) (LoopsOk_eq (l := [(0, bodyOf Try.f106 0)]) (by kernel_rfl) ⟨spec_l02Order_l0_ok v53, trivial⟩) (spec_l02Order_den v53) hy hm h0 hA
noncomputable def spec_l02Order_F : DFn := fun args L =>
  match args with
  | [a1] =>
    optT (rowI64 L a1) fun v53 =>
    .call (spec_l02Order_g v53) fun y => .leaf (.bool y, L)
  | _ => .fail
theorem spec_l02Order_Fok : COk Try.prog 106 spec_l02Order_F true := by
  intro F L H args r L' hs ha hr
  unfold spec_l02Order_F at hr
  split at hr
  · rename_i a1
    obtain ⟨v53, hv53, hr⟩ := optT_run hr
    simp only [Tree.run] at hr
    obtain ⟨y, hy, hr⟩ := Option.bind_eq_some_iff.1 hr
    simp only [Tree.run, Option.some.injEq, Prod.mk.injEq] at hr
    obtain ⟨rfl, rfl⟩ := hr
    exact call_ok0 hs (fun k => (([a1.av F] : List AV)[k]?).getD .top) [a1] [.bslc (BR.root 0) (.i64 v53)] (fun F' h0 hi hρ => ⟨by simp [DVs.av, DV.av, BR.av, hρ], spec_l02Order_fn v53 F' (by rw [hi]; rfl) (st_nil hi) ⟨bslc_ok hi (by rw [h0, hρ]; exact rowI64_ok hs (DVs.okAt ha 0 rfl) hv53), trivial⟩ hy⟩) rfl
  · cases hr
/-! spec.l02Blank -/
noncomputable def spec_l02Blank_LO (v63 : Int) (v64 : Int) : LOr := fun id e L =>
  match id with
  | _ => .fail
noncomputable def spec_l02Blank_tab : List (FuncId × DFn × Bool) := []
theorem spec_l02Blank_hO : OrcOk Try.prog (tabD spec_l02Blank_tab) (tabM spec_l02Blank_tab) := tabD_nil _
noncomputable def spec_l02Blank_T (v63 : Int) (v64 : Int) : Tree (Int × Int) :=
  .leaf (v63, v64)

noncomputable def spec_l02Blank_g (v63 : Int) (v64 : Int) : Option (Int × Int) := (spec_l02Blank_T v63 v64).run
def spec_l02Blank_enc (v63 : Int) (v64 : Int) (y : Int × Int) : Rs := (.agg [.int .i64 y.1, .int .i64 y.2, .own 0 0 ((([] : List Nat)).length)], [.row (.f32 ([] : List Nat)) 0])
theorem spec_l02Blank_den (v63 : Int) (v64 : Int) : (den TT (tabD spec_l02Blank_tab) (tabM spec_l02Blank_tab) (spec_l02Blank_LO v63 v64) (codeOf Try.f107) ([.int .i64 v63, .int .i64 v64] ++ List.replicate (Try.f107.ntmps - ([.int .i64 v63, .int .i64 v64] : List DV).length) .undef) []).bind (retD TT Try.f107.results.toList 0) = (spec_l02Blank_T v63 v64).bind fun y => .leaf (spec_l02Blank_enc v63 v64 y) := by kernel_rfl
theorem spec_l02Blank_fn (v63 : Int) (v64 : Int) (F : Fr) (hm : F.ids.length = 0) (h0 : St F [] F.H0) (hA : DVs.Ok F [] [.int .i64 v63, .int .i64 v64]) {y : Int × Int} (hy : spec_l02Blank_g v63 v64 = some y) : ∃ H', FnOk Try.prog 107 (DVs.av F [.int .i64 v63, .int .i64 v64]) F.H0 ((spec_l02Blank_enc v63 v64 y).1.av F) H' ∧ St F (spec_l02Blank_enc v63 v64 y).2 H' ∧ (spec_l02Blank_enc v63 v64 y).1.Ok F (spec_l02Blank_enc v63 v64 y).2 :=
  fn_fin tok spec_l02Blank_hO mixed Try.func107 Try.call107 (by kernel_rfl) (LoopsOk_eq (l := []) (by kernel_rfl) trivial) (spec_l02Blank_den v63 v64) hy hm h0 hA
def spec_l02Blank_v (v63 : Int) (v64 : Int) : Int × Int :=
  (v63, v64)
theorem spec_l02Blank_tot (v63 : Int) (v64 : Int) : spec_l02Blank_g v63 v64 = some (spec_l02Blank_v v63 v64) := by
  unfold spec_l02Blank_g spec_l02Blank_T spec_l02Blank_v
  simp only [Tree.run]
  repeat' (first | rfl | split)
noncomputable def spec_l02Blank_F : DFn := fun args L =>
  match args with
  | [.int .i64 v63, .int .i64 v64] =>
    .leaf (.agg [.int .i64 ((spec_l02Blank_v v63 v64).1), .int .i64 ((spec_l02Blank_v v63 v64).2), .own (L.length + 0) 0 ((([] : List Nat)).length)], L ++ [.row (.f32 ([] : List Nat)) 0])
  | _ => .fail
theorem spec_l02Blank_Fok : COk Try.prog 107 spec_l02Blank_F true := by
  intro F L H args r L' hs ha hr
  unfold spec_l02Blank_F at hr
  split at hr
  · rename_i v63 v64
    have hy := spec_l02Blank_tot v63 v64
    generalize spec_l02Blank_v v63 v64 = y at hy hr
    simp only [Tree.run, Option.some.injEq, Prod.mk.injEq] at hr
    obtain ⟨rfl, rfl⟩ := hr
    exact call_ok1 hs (fun k => (([] : List AV)[k]?).getD .top) [.int .i64 v63, .int .i64 v64] [.int .i64 v63, .int .i64 v64] (fun F' h0 hi hρ => ⟨by simp [DVs.av, DV.av, BR.av, hρ], spec_l02Blank_fn v63 v64 F' (by rw [hi]; rfl) (st_nil hi) ⟨trivial, trivial, trivial⟩ hy⟩) rfl rfl
  · cases hr
/-! spec.OrderRows -/
noncomputable def spec_OrderRows_l0_T (v32 : Int) (v33 : List Nat) (v34 : List Int) (s : Int × (List Nat)) : Tree ((Int × (List Nat)) ⊕ ((List Nat))) :=
  (.br (decide (s.1 < ((v34.length : Nat) : Int))) (
   (.grd (inb s.1 v34.length) <|
   (.grd (inb s.1 v34.length) <|
   (.grd (sok (IntKind.i64.wrap ((nth v34 (Int.toNat s.1)) * v32)) (IntKind.i64.wrap ((IntKind.i64.wrap ((nth v34 (Int.toNat s.1)) + (1 : Int))) * v32)) v33.length) <|
   (.grd (fits (s.2 ++ (AM.sub v33 (IntKind.i64.wrap ((nth v34 (Int.toNat s.1)) * v32)) (IntKind.i64.wrap ((IntKind.i64.wrap ((nth v34 (Int.toNat s.1)) + (1 : Int))) * v32)))).length) <|
   .leaf (.inl (IntKind.i64.wrap (s.1 + (1 : Int)), s.2 ++ (AM.sub v33 (IntKind.i64.wrap ((nth v34 (Int.toNat s.1)) * v32)) (IntKind.i64.wrap ((IntKind.i64.wrap ((nth v34 (Int.toNat s.1)) + (1 : Int))) * v32)))))))))
  ) (
   .leaf (.inr s.2)
  ))

noncomputable def spec_OrderRows_l0_g (v32 : Int) (v33 : List Nat) (v34 : List Int) (s0 : Int × (List Nat)) : Option ((List Nat)) := whileM (fun s => (spec_OrderRows_l0_T v32 v33 v34 s).run) s0
def spec_OrderRows_l0_E (v31 : Int) (v32 : Int) (v33 : List Nat) (v34 : List Int) (s : Int × (List Nat)) : Sd := ([.top, .bslc (BR.root 1) (.i64 v34), .ptr 0 (0 : Nat) 0 (3 : Nat), .top, .ptr 1 (0 : Nat) 0 (3 : Nat), .top, .ptr 2 (0 : Nat) 0 (3 : Nat), .int .i64 s.1, .top, .top, .top, .top, .top, .top, .top, .top, .top, .top, .top, .top, .top, .top, .top, .top, .top, .top, .top, .top, .top, .top, .top, .top, .top, .top, .top, .top, .top, .top, .top, .top, .top, .top, .top, .top, .top, .top, .top, .top, .top, .top, .top, .top, .top, .top, .top, .top, .top], [.gen [.int .i64 v31, .int .i64 v32, .bslc (BR.root 0) (.f32 v33)] false 0, .gen [.int .i64 (0 : Int), .int .i64 (0 : Int), .nilslc] false 0, .gen [.int .i64 ((spec_l02Blank_v v31 v32).1), .int .i64 ((spec_l02Blank_v v31 v32).2), .own 3 0 ((s.2).length)] false 0, .row (.f32 s.2) 0])
def spec_OrderRows_l0_X (v31 : Int) (v32 : Int) (v33 : List Nat) (v34 : List Int) (x : (List Nat)) : Out := (.normal, [.top, .top, .top, .top, .ptr 0 (0 : Nat) 0 (3 : Nat), .top, .ptr 1 (0 : Nat) 0 (3 : Nat), .top, .top, .top, .top, .top, .top, .top, .top, .top, .top, .top, .top, .top, .top, .top, .top, .top, .top, .top, .top, .top, .top, .top, .top, .top, .top, .top, .top, .top, .top, .top, .top, .top, .top, .top, .top, .top, .top, .top, .top, .top, .top, .top, .top, .top, .top, .top, .top, .top, .top], [.gen [.int .i64 (0 : Int), .int .i64 (0 : Int), .nilslc] false 0, .gen [.int .i64 ((spec_l02Blank_v v31 v32).1), .int .i64 ((spec_l02Blank_v v31 v32).2), .own 2 0 ((x).length)] false 0, .row (.f32 x) 0])
def spec_OrderRows_l0_kill : List Nat := [1, 0, 0, 1, 0, 1, 0, 0, 1, 1, 1, 1, 1, 1, 1, 1, 1, 1, 1, 1, 1, 1, 1, 1, 1, 1, 1, 1, 1, 1, 1, 1, 1, 1, 1, 1, 1, 1, 1, 1, 1, 1, 1, 1, 1, 1, 1, 1, 1, 1, 1, 1, 1, 1, 1, 1, 1]
def spec_OrderRows_l0_nx : Exit → List Nat
  | .exit 0 => [1, 1, 1, 1, 0, 1, 0, 1, 1, 1, 1, 1, 1, 1, 1, 1, 1, 1, 1, 1, 1, 1, 1, 1, 1, 1, 1, 1, 1, 1, 1, 1, 1, 1, 1, 1, 1, 1, 1, 1, 1, 1, 1, 1, 1, 1, 1, 1, 1, 1, 1, 1, 1, 1, 1, 1, 1]
  | .ret => [1, 1, 1, 1, 0, 0, 1, 1, 1, 1, 1, 1, 1, 1, 1, 1, 1, 1, 1, 1, 1, 1, 1, 1, 1, 1, 1, 1, 1, 1, 1, 1, 1, 1, 1, 1, 1, 1, 1, 1, 1, 1, 1, 1, 1, 1, 1, 1, 1, 1, 1, 1, 1, 1, 1, 1, 1]
  | _ => []
noncomputable def spec_OrderRows_LO (v31 : Int) (v32 : Int) (v33 : List Nat) (v34 : List Int) : LOr := fun id e L =>
  match id with
  | 0 => .need (normA 0 spec_OrderRows_l0_kill e L = some (spec_OrderRows_l0_E v31 v32 v33 v34 ((gI (vAt e 7)), (gRF L (cAt L (vAt e 6) 2))))) (.call (spec_OrderRows_l0_g v32 v33 v34 ((gI (vAt e 7)), (gRF L (cAt L (vAt e 6) 2)))) fun x => .leaf (spec_OrderRows_l0_X v31 v32 v33 v34 x))
  | _ => .fail
noncomputable def spec_OrderRows_tab : List (FuncId × DFn × Bool) := [(99, spec_l02Is_F, true), (106, spec_l02Order_F, true), (107, spec_l02Blank_F, true)]
theorem spec_OrderRows_hO : OrcOk Try.prog (tabD spec_OrderRows_tab) (tabM spec_OrderRows_tab) := tabD_cons spec_l02Is_Fok (tabD_cons spec_l02Order_Fok (tabD_cons spec_l02Blank_Fok (tabD_nil _)))
theorem spec_OrderRows_l0_be (v31 : Int) (v32 : Int) (v33 : List Nat) (v34 : List Int) (s : Int × (List Nat)) : bodyT TT (tabD spec_OrderRows_tab) (tabM spec_OrderRows_tab) (spec_OrderRows_LO v31 v32 v33 v34) 0 spec_OrderRows_l0_kill spec_OrderRows_l0_nx (bodyOf Try.f41 0) 0 (spec_OrderRows_l0_E v31 v32 v33 v34 s) = (spec_OrderRows_l0_T v32 v33 v34 s).bind fun y => .leaf (outS (spec_OrderRows_l0_E v31 v32 v33 v34) (spec_OrderRows_l0_X v31 v32 v33 v34) y) := by kernel_rfl
theorem spec_OrderRows_l0_ok (v31 : Int) (v32 : Int) (v33 : List Nat) (v34 : List Int) : LSound Try.prog 0 (spec_OrderRows_LO v31 v32 v33 v34) 0 (bodyOf Try.f41 0) := by
  intro e L out h
  exact lo_ok (E := spec_OrderRows_l0_E v31 v32 v33 v34) (gT := spec_OrderRows_l0_T v32 v33 v34) (X := spec_OrderRows_l0_X v31 v32 v33 v34) (s0 := ((gI (vAt e 7)), (gRF L (cAt L (vAt e 6) 2)))) tok spec_OrderRows_hO mixed (LoopsOk_eq (l := []) (by kernel_rfl) trivial) (spec_OrderRows_l0_be v31 v32 v33 v34) rfl (by intro x; rfl) h
noncomputable def spec_OrderRows_T (v31 : Int) (v32 : Int) (v33 : List Nat) (v34 : List Int) : Tree ((Unit) ⊕ (Int × Int × (List Nat))) :=
  (.call (spec_l02Is_g v31 v32 v33) fun v52 =>
  (.br (!v52) (
   .leaf (.inl ())
  ) (
   (.call (spec_l02Order_g v34) fun v62 =>
   (.br (!v62) (
    .leaf (.inl ())
   ) (
    (.br (!decide (((v34.length : Nat) : Int) = v31)) (
     .leaf (.inl ())
    ) (
     (.need (some (spec_OrderRows_l0_E v31 v32 v33 v34 ((0 : Int), ([] : List Nat))) = some (spec_OrderRows_l0_E v31 v32 v33 v34 ((0 : Int), ([] : List Nat)))) <|
     (.call (spec_OrderRows_l0_g v32 v33 v34 ((0 : Int), ([] : List Nat))) fun v70 =>
     .leaf (.inr ((spec_l02Blank_v v31 v32).1, (spec_l02Blank_v v31 v32).2, v70))))
    ))
   )))
  )))

noncomputable def spec_OrderRows_g (v31 : Int) (v32 : Int) (v33 : List Nat) (v34 : List Int) : Option ((Unit) ⊕ (Int × Int × (List Nat))) := (spec_OrderRows_T v31 v32 v33 v34).run
def spec_OrderRows_enc (v31 : Int) (v32 : Int) (v33 : List Nat) (v34 : List Int) (y : (Unit) ⊕ (Int × Int × (List Nat))) : Rs := (match y with | .inl y => (.tup [.agg [.int .i64 (0 : Int), .int .i64 (0 : Int), .nilslc], .lit false], []) | .inr y => (.tup [.agg [.int .i64 y.1, .int .i64 y.2.1, .own 0 0 ((y.2.2).length)], .lit true], [.row (.f32 y.2.2) 0]))
theorem spec_OrderRows_den (v31 : Int) (v32 : Int) (v33 : List Nat) (v34 : List Int) : (den TT (tabD spec_OrderRows_tab) (tabM spec_OrderRows_tab) (spec_OrderRows_LO v31 v32 v33 v34) (codeOf Try.f41) ([.agg [.int .i64 v31, .int .i64 v32, .bslc (BR.root 0) (.f32 v33)], .bslc (BR.root 1) (.i64 v34)] ++ List.replicate (Try.f41.ntmps - ([.agg [.int .i64 v31, .int .i64 v32, .bslc (BR.root 0) (.f32 v33)], .bslc (BR.root 1) (.i64 v34)] : List DV).length) .undef) []).bind (retD TT Try.f41.results.toList 0) = (spec_OrderRows_T v31 v32 v33 v34).bind fun y => .leaf (spec_OrderRows_enc v31 v32 v33 v34 y) := by kernel_rfl
theorem spec_OrderRows_fn (v31 : Int) (v32 : Int) (v33 : List Nat) (v34 : List Int) (F : Fr) (hm : F.ids.length = 0) (h0 : St F [] F.H0) (hA : DVs.Ok F [] [.agg [.int .i64 v31, .int .i64 v32, .bslc (BR.root 0) (.f32 v33)], .bslc (BR.root 1) (.i64 v34)]) {y : (Unit) ⊕ (Int × Int × (List Nat))} (hy : spec_OrderRows_g v31 v32 v33 v34 = some y) : ∃ H', FnOk Try.prog 41 (DVs.av F [.agg [.int .i64 v31, .int .i64 v32, .bslc (BR.root 0) (.f32 v33)], .bslc (BR.root 1) (.i64 v34)]) F.H0 ((spec_OrderRows_enc v31 v32 v33 v34 y).1.av F) H' ∧ St F (spec_OrderRows_enc v31 v32 v33 v34 y).2 H' ∧ (spec_OrderRows_enc v31 v32 v33 v34 y).1.Ok F (spec_OrderRows_enc v31 v32 v33 v34 y).2 :=
  fn_fin tok spec_OrderRows_hO mixed Try.func41 Try.call41 (by kernel_rfl) (LoopsOk_eq (l := [(0, bodyOf Try.f41 0)]) (by kernel_rfl) ⟨spec_OrderRows_l0_ok v31 v32 v33 v34, trivial⟩) (spec_OrderRows_den v31 v32 v33 v34) hy hm h0 hA
noncomputable def spec_OrderRows_F : DFn := fun args L =>
  match args with
  | [.agg [.int .i64 v31, .int .i64 v32, a1], a2] =>
    optT (rowF32 L a1) fun v33 =>
    optT (rowI64 L a2) fun v34 =>
    .call (spec_OrderRows_g v31 v32 v33 v34) fun y => .sum y (fun y0 => .leaf (.tup [.agg [.int .i64 (0 : Int), .int .i64 (0 : Int), .nilslc], .lit false], L)) (fun z0 => .leaf (.tup [.agg [.int .i64 z0.1, .int .i64 z0.2.1, .own (L.length + 0) 0 ((z0.2.2).length)], .lit true], L ++ [.row (.f32 z0.2.2) 0]))
  | _ => .fail
theorem spec_OrderRows_Fok : COk Try.prog 41 spec_OrderRows_F true := by
  intro F L H args r L' hs ha hr
  unfold spec_OrderRows_F at hr
  split at hr
  · rename_i v31 v32 a1 a2
    obtain ⟨v33, hv33, hr⟩ := optT_run hr
    obtain ⟨v34, hv34, hr⟩ := optT_run hr
    simp only [Tree.run] at hr
    obtain ⟨y, hy, hr⟩ := Option.bind_eq_some_iff.1 hr
    cases y with
    | inl y =>
      simp only [Tree.run, Option.some.injEq, Prod.mk.injEq] at hr
      obtain ⟨rfl, rfl⟩ := hr
      exact call_ok0 hs (fun k => (([a1.av F, a2.av F] : List AV)[k]?).getD .top) [.agg [.int .i64 v31, .int .i64 v32, a1], a2] [.agg [.int .i64 v31, .int .i64 v32, .bslc (BR.root 0) (.f32 v33)], .bslc (BR.root 1) (.i64 v34)] (fun F' h0 hi hρ => ⟨by simp [DVs.av, DV.av, BR.av, hρ], spec_OrderRows_fn v31 v32 v33 v34 F' (by rw [hi]; rfl) (st_nil hi) ⟨⟨trivial, trivial, bslc_ok hi (by rw [h0, hρ]; exact rowF32_ok hs (DVs.okAt (DVs.okAt ha 0 rfl) 2 rfl) hv33), trivial⟩, bslc_ok hi (by rw [h0, hρ]; exact rowI64_ok hs (DVs.okAt ha 1 rfl) hv34), trivial⟩ hy⟩) rfl
    | inr y =>
      simp only [Tree.run, Option.some.injEq, Prod.mk.injEq] at hr
      obtain ⟨rfl, rfl⟩ := hr
      exact call_ok1 hs (fun k => (([a1.av F, a2.av F] : List AV)[k]?).getD .top) [.agg [.int .i64 v31, .int .i64 v32, a1], a2] [.agg [.int .i64 v31, .int .i64 v32, .bslc (BR.root 0) (.f32 v33)], .bslc (BR.root 1) (.i64 v34)] (fun F' h0 hi hρ => ⟨by simp [DVs.av, DV.av, BR.av, hρ], spec_OrderRows_fn v31 v32 v33 v34 F' (by rw [hi]; rfl) (st_nil hi) ⟨⟨trivial, trivial, bslc_ok hi (by rw [h0, hρ]; exact rowF32_ok hs (DVs.okAt (DVs.okAt ha 0 rfl) 2 rfl) hv33), trivial⟩, bslc_ok hi (by rw [h0, hρ]; exact rowI64_ok hs (DVs.okAt ha 1 rfl) hv34), trivial⟩ hy⟩) rfl rfl
  · cases hr
/-! impl.inRange -/
noncomputable def impl_inRange_LO (v84 : Int) (v85 : Int) (v86 : Int) : LOr := fun id e L =>
  match id with
  | _ => .fail
noncomputable def impl_inRange_tab : List (FuncId × DFn × Bool) := []
theorem impl_inRange_hO : OrcOk Try.prog (tabD impl_inRange_tab) (tabM impl_inRange_tab) := tabD_nil _
noncomputable def impl_inRange_T (v84 : Int) (v85 : Int) (v86 : Int) : Tree (Bool) :=
  (.br (decide (v85 ≤ v84)) (
   .leaf (decide (v84 ≤ v86))
  ) (
   .leaf false
  ))

noncomputable def impl_inRange_g (v84 : Int) (v85 : Int) (v86 : Int) : Option (Bool) := (impl_inRange_T v84 v85 v86).run
def impl_inRange_enc (v84 : Int) (v85 : Int) (v86 : Int) (y : Bool) : Rs := (.bool y, [])
theorem impl_inRange_den (v84 : Int) (v85 : Int) (v86 : Int) : (den TT (tabD impl_inRange_tab) (tabM impl_inRange_tab) (impl_inRange_LO v84 v85 v86) (codeOf Try.f72) ([.int .i64 v84, .int .i64 v85, .int .i64 v86] ++ List.replicate (Try.f72.ntmps - ([.int .i64 v84, .int .i64 v85, .int .i64 v86] : List DV).length) .undef) []).bind (retD TT Try.f72.results.toList 0) = (impl_inRange_T v84 v85 v86).bind fun y => .leaf (impl_inRange_enc v84 v85 v86 y) := by kernel_rfl
theorem impl_inRange_fn (v84 : Int) (v85 : Int) (v86 : Int) (F : Fr) (hm : F.ids.length = 0) (h0 : St F [] F.H0) (hA : DVs.Ok F [] [.int .i64 v84, .int .i64 v85, .int .i64 v86]) {y : Bool} (hy : impl_inRange_g v84 v85 v86 = some y) : ∃ H', FnOk Try.prog 72 (DVs.av F [.int .i64 v84, .int .i64 v85, .int .i64 v86]) F.H0 ((impl_inRange_enc v84 v85 v86 y).1.av F) H' ∧ St F (impl_inRange_enc v84 v85 v86 y).2 H' ∧ (impl_inRange_enc v84 v85 v86 y).1.Ok F (impl_inRange_enc v84 v85 v86 y).2 :=
  fn_fin tok impl_inRange_hO mixed Try.func72 Try.call72 (by kernel_rfl) (LoopsOk_eq (l := []) (by kernel_rfl) trivial) (impl_inRange_den v84 v85 v86) hy hm h0 hA
def impl_inRange_v (v84 : Int) (v85 : Int) (v86 : Int) : Bool :=
  if (decide (v85 ≤ v84)) = true then (
   decide (v84 ≤ v86)
  ) else (
   false
  )
theorem impl_inRange_tot (v84 : Int) (v85 : Int) (v86 : Int) : impl_inRange_g v84 v85 v86 = some (impl_inRange_v v84 v85 v86) := by
  unfold impl_inRange_g impl_inRange_T impl_inRange_v
  simp only [Tree.run]
  repeat' (first | rfl | split)
noncomputable def impl_inRange_F : DFn := fun args L =>
  match args with
  | [.int .i64 v84, .int .i64 v85, .int .i64 v86] =>
    .leaf (.bool (impl_inRange_v v84 v85 v86), L)
  | _ => .fail
theorem impl_inRange_Fok : COk Try.prog 72 impl_inRange_F true := by
  intro F L H args r L' hs ha hr
  unfold impl_inRange_F at hr
  split at hr
  · rename_i v84 v85 v86
    have hy := impl_inRange_tot v84 v85 v86
    generalize impl_inRange_v v84 v85 v86 = y at hy hr
    simp only [Tree.run, Option.some.injEq, Prod.mk.injEq] at hr
    obtain ⟨rfl, rfl⟩ := hr
    exact call_ok0 hs (fun k => (([] : List AV)[k]?).getD .top) [.int .i64 v84, .int .i64 v85, .int .i64 v86] [.int .i64 v84, .int .i64 v85, .int .i64 v86] (fun F' h0 hi hρ => ⟨by simp [DVs.av, DV.av, BR.av, hρ], impl_inRange_fn v84 v85 v86 F' (by rw [hi]; rfl) (st_nil hi) ⟨trivial, trivial, trivial, trivial⟩ hy⟩) rfl
  · cases hr
/-! impl.isSide -/
noncomputable def impl_isSide_LO (v83 : Int) : LOr := fun id e L =>
  match id with
  | _ => .fail
noncomputable def impl_isSide_tab : List (FuncId × DFn × Bool) := [(72, impl_inRange_F, true)]
theorem impl_isSide_hO : OrcOk Try.prog (tabD impl_isSide_tab) (tabM impl_isSide_tab) := tabD_cons impl_inRange_Fok (tabD_nil _)
noncomputable def impl_isSide_T (v83 : Int) : Tree (Bool) :=
  .leaf (impl_inRange_v v83 (1 : Int) (12 : Int))

noncomputable def impl_isSide_g (v83 : Int) : Option (Bool) := (impl_isSide_T v83).run
def impl_isSide_enc (v83 : Int) (y : Bool) : Rs := (.bool y, [])
theorem impl_isSide_den (v83 : Int) : (den TT (tabD impl_isSide_tab) (tabM impl_isSide_tab) (impl_isSide_LO v83) (codeOf Try.f146) ([.int .i64 v83] ++ List.replicate (Try.f146.ntmps - ([.int .i64 v83] : List DV).length) .undef) []).bind (retD TT Try.f146.results.toList 0) = (impl_isSide_T v83).bind fun y => .leaf (impl_isSide_enc v83 y) := by kernel_rfl
theorem impl_isSide_fn (v83 : Int) (F : Fr) (hm : F.ids.length = 0) (h0 : St F [] F.H0) (hA : DVs.Ok F [] [.int .i64 v83]) {y : Bool} (hy : impl_isSide_g v83 = some y) : ∃ H', FnOk Try.prog 146 (DVs.av F [.int .i64 v83]) F.H0 ((impl_isSide_enc v83 y).1.av F) H' ∧ St F (impl_isSide_enc v83 y).2 H' ∧ (impl_isSide_enc v83 y).1.Ok F (impl_isSide_enc v83 y).2 :=
  fn_fin tok impl_isSide_hO mixed Try.func146 Try.call146 (by kernel_rfl) (LoopsOk_eq (l := []) (by kernel_rfl) trivial) (impl_isSide_den v83) hy hm h0 hA
def impl_isSide_v (v83 : Int) : Bool :=
  (impl_inRange_v v83 (1 : Int) (12 : Int))
theorem impl_isSide_tot (v83 : Int) : impl_isSide_g v83 = some (impl_isSide_v v83) := by
  unfold impl_isSide_g impl_isSide_T impl_isSide_v
  simp only [Tree.run]
  repeat' (first | rfl | split)
noncomputable def impl_isSide_F : DFn := fun args L =>
  match args with
  | [.int .i64 v83] =>
    .leaf (.bool (impl_isSide_v v83), L)
  | _ => .fail
theorem impl_isSide_Fok : COk Try.prog 146 impl_isSide_F true := by
  intro F L H args r L' hs ha hr
  unfold impl_isSide_F at hr
  split at hr
  · rename_i v83
    have hy := impl_isSide_tot v83
    generalize impl_isSide_v v83 = y at hy hr
    simp only [Tree.run, Option.some.injEq, Prod.mk.injEq] at hr
    obtain ⟨rfl, rfl⟩ := hr
    exact call_ok0 hs (fun k => (([] : List AV)[k]?).getD .top) [.int .i64 v83] [.int .i64 v83] (fun F' h0 hi hρ => ⟨by simp [DVs.av, DV.av, BR.av, hρ], impl_isSide_fn v83 F' (by rw [hi]; rfl) (st_nil hi) ⟨trivial, trivial⟩ hy⟩) rfl
  · cases hr
/-! impl.length[float32] -/
noncomputable def impl_lengthF_LO (v87 : List Nat) : LOr := fun id e L =>
  match id with
  | _ => .fail
noncomputable def impl_lengthF_tab : List (FuncId × DFn × Bool) := []
theorem impl_lengthF_hO : OrcOk Try.prog (tabD impl_lengthF_tab) (tabM impl_lengthF_tab) := tabD_nil _
noncomputable def impl_lengthF_T (v87 : List Nat) : Tree (Int) :=
  .leaf ((v87.length : Nat) : Int)

noncomputable def impl_lengthF_g (v87 : List Nat) : Option (Int) := (impl_lengthF_T v87).run
def impl_lengthF_enc (v87 : List Nat) (y : Int) : Rs := (.int .i64 y, [])
theorem impl_lengthF_den (v87 : List Nat) : (den TT (tabD impl_lengthF_tab) (tabM impl_lengthF_tab) (impl_lengthF_LO v87) (codeOf Try.f134) ([.bslc (BR.root 0) (.f32 v87)] ++ List.replicate (Try.f134.ntmps - ([.bslc (BR.root 0) (.f32 v87)] : List DV).length) .undef) []).bind (retD TT Try.f134.results.toList 0) = (impl_lengthF_T v87).bind fun y => .leaf (impl_lengthF_enc v87 y) := by kernel_rfl
theorem impl_lengthF_fn (v87 : List Nat) (F : Fr) (hm : F.ids.length = 0) (h0 : St F [] F.H0) (hA : DVs.Ok F [] [.bslc (BR.root 0) (.f32 v87)]) {y : Int} (hy : impl_lengthF_g v87 = some y) : ∃ H', FnOk Try.prog 134 (DVs.av F [.bslc (BR.root 0) (.f32 v87)]) F.H0 ((impl_lengthF_enc v87 y).1.av F) H' ∧ St F (impl_lengthF_enc v87 y).2 H' ∧ (impl_lengthF_enc v87 y).1.Ok F (impl_lengthF_enc v87 y).2 :=
  fn_fin tok impl_lengthF_hO mixed Try.func134 Try.call134 (by kernel_rfl) (LoopsOk_eq (l := []) (by kernel_rfl) trivial) (impl_lengthF_den v87) hy hm h0 hA
def impl_lengthF_v (v87 : List Nat) : Int :=
  ((v87.length : Nat) : Int)
theorem impl_lengthF_tot (v87 : List Nat) : impl_lengthF_g v87 = some (impl_lengthF_v v87) := by
  unfold impl_lengthF_g impl_lengthF_T impl_lengthF_v
  simp only [Tree.run]
  repeat' (first | rfl | split)
noncomputable def impl_lengthF_F : DFn := fun args L =>
  match args with
  | [a1] =>
    optT (rowF32 L a1) fun v87 =>
    .leaf (.int .i64 (impl_lengthF_v v87), L)
  | _ => .fail
theorem impl_lengthF_Fok : COk Try.prog 134 impl_lengthF_F true := by
  intro F L H args r L' hs ha hr
  unfold impl_lengthF_F at hr
  split at hr
  · rename_i a1
    obtain ⟨v87, hv87, hr⟩ := optT_run hr
    have hy := impl_lengthF_tot v87
    generalize impl_lengthF_v v87 = y at hy hr
    simp only [Tree.run, Option.some.injEq, Prod.mk.injEq] at hr
    obtain ⟨rfl, rfl⟩ := hr
    exact call_ok0 hs (fun k => (([a1.av F] : List AV)[k]?).getD .top) [a1] [.bslc (BR.root 0) (.f32 v87)] (fun F' h0 hi hρ => ⟨by simp [DVs.av, DV.av, BR.av, hρ], impl_lengthF_fn v87 F' (by rw [hi]; rfl) (st_nil hi) ⟨bslc_ok hi (by rw [h0, hρ]; exact rowF32_ok hs (DVs.okAt ha 0 rfl) hv87), trivial⟩ hy⟩) rfl
  · cases hr
/-! math.IsNaN -/
noncomputable def math_IsNaN_LO (v95 : Nat) : LOr := fun id e L =>
  match id with
  | _ => .fail
noncomputable def math_IsNaN_tab : List (FuncId × DFn × Bool) := []
theorem math_IsNaN_hO : OrcOk Try.prog (tabD math_IsNaN_tab) (tabM math_IsNaN_tab) := tabD_nil _
noncomputable def math_IsNaN_T (v95 : Nat) : Tree (Bool) :=
  .leaf (!feq .f64 v95 v95)

noncomputable def math_IsNaN_g (v95 : Nat) : Option (Bool) := (math_IsNaN_T v95).run
def math_IsNaN_enc (v95 : Nat) (y : Bool) : Rs := (.bool y, [])
theorem math_IsNaN_den (v95 : Nat) : (den TT (tabD math_IsNaN_tab) (tabM math_IsNaN_tab) (math_IsNaN_LO v95) (codeOf Try.f169) ([.flt .f64 v95] ++ List.replicate (Try.f169.ntmps - ([.flt .f64 v95] : List DV).length) .undef) []).bind (retD TT Try.f169.results.toList 0) = (math_IsNaN_T v95).bind fun y => .leaf (math_IsNaN_enc v95 y) := by kernel_rfl
theorem math_IsNaN_fn (v95 : Nat) (F : Fr) (hm : F.ids.length = 0) (h0 : St F [] F.H0) (hA : DVs.Ok F [] [.flt .f64 v95]) {y : Bool} (hy : math_IsNaN_g v95 = some y) : ∃ H', FnOk Try.prog 169 (DVs.av F [.flt .f64 v95]) F.H0 ((math_IsNaN_enc v95 y).1.av F) H' ∧ St F (math_IsNaN_enc v95 y).2 H' ∧ (math_IsNaN_enc v95 y).1.Ok F (math_IsNaN_enc v95 y).2 :=
  fn_fin tok math_IsNaN_hO mixed Try.func169 Try.call169 (by kernel_rfl) (LoopsOk_eq (l := []) (by kernel_rfl) trivial) (math_IsNaN_den v95) hy hm h0 hA
def math_IsNaN_v (v95 : Nat) : Bool :=
  !feq .f64 v95 v95
theorem math_IsNaN_tot (v95 : Nat) : math_IsNaN_g v95 = some (math_IsNaN_v v95) := by
  unfold math_IsNaN_g math_IsNaN_T math_IsNaN_v
  simp only [Tree.run]
  repeat' (first | rfl | split)
noncomputable def math_IsNaN_F : DFn := fun args L =>
  match args with
  | [.flt .f64 v95] =>
    .leaf (.bool (math_IsNaN_v v95), L)
  | _ => .fail
theorem math_IsNaN_Fok : COk Try.prog 169 math_IsNaN_F true := by
  intro F L H args r L' hs ha hr
  unfold math_IsNaN_F at hr
  split at hr
  · rename_i v95
    have hy := math_IsNaN_tot v95
    generalize math_IsNaN_v v95 = y at hy hr
    simp only [Tree.run, Option.some.injEq, Prod.mk.injEq] at hr
    obtain ⟨rfl, rfl⟩ := hr
    exact call_ok0 hs (fun k => (([] : List AV)[k]?).getD .top) [.flt .f64 v95] [.flt .f64 v95] (fun F' h0 hi hρ => ⟨by simp [DVs.av, DV.av, BR.av, hρ], math_IsNaN_fn v95 F' (by rw [hi]; rfl) (st_nil hi) ⟨trivial, trivial⟩ hy⟩) rfl
  · cases hr
/-! math.IsInf -/
noncomputable def math_IsInf_LO (v96 : Nat) (v97 : Int) : LOr := fun id e L =>
  match id with
  | _ => .fail
noncomputable def math_IsInf_tab : List (FuncId × DFn × Bool) := [(104, Abs_F, true)]
theorem math_IsInf_hO : OrcOk Try.prog (tabD math_IsInf_tab) (tabM math_IsInf_tab) := tabD_cons Abs_Fok (tabD_nil _)
noncomputable def math_IsInf_T (v96 : Nat) (v97 : Int) : Tree (Bool) :=
  (.br (decide (v97 = (0 : Int))) (
   .leaf (fgrt .f64 (fabs v96) (9218868437227405311 : Nat))
  ) (
   (.br (decide (v97 < (0 : Int))) (
    .leaf (fgrt .f64 (fneg .f64 v96) (9218868437227405311 : Nat))
   ) (
    .leaf (fgrt .f64 v96 (9218868437227405311 : Nat))
   ))
  ))

noncomputable def math_IsInf_g (v96 : Nat) (v97 : Int) : Option (Bool) := (math_IsInf_T v96 v97).run
def math_IsInf_enc (v96 : Nat) (v97 : Int) (y : Bool) : Rs := (.bool y, [])
theorem math_IsInf_den (v96 : Nat) (v97 : Int) : (den TT (tabD math_IsInf_tab) (tabM math_IsInf_tab) (math_IsInf_LO v96 v97) (codeOf Try.f170) ([.flt .f64 v96, .int .i64 v97] ++ List.replicate (Try.f170.ntmps - ([.flt .f64 v96, .int .i64 v97] : List DV).length) .undef) []).bind (retD TT Try.f170.results.toList 0) = (math_IsInf_T v96 v97).bind fun y => .leaf (math_IsInf_enc v96 v97 y) := by kernel_rfl
theorem math_IsInf_fn (v96 : Nat) (v97 : Int) (F : Fr) (hm : F.ids.length = 0) (h0 : St F [] F.H0) (hA : DVs.Ok F [] [.flt .f64 v96, .int .i64 v97]) {y : Bool} (hy : math_IsInf_g v96 v97 = some y) : ∃ H', FnOk Try.prog 170 (DVs.av F [.flt .f64 v96, .int .i64 v97]) F.H0 ((math_IsInf_enc v96 v97 y).1.av F) H' ∧ St F (math_IsInf_enc v96 v97 y).2 H' ∧ (math_IsInf_enc v96 v97 y).1.Ok F (math_IsInf_enc v96 v97 y).2 :=
  fn_fin tok math_IsInf_hO mixed Try.func170 Try.call170 (by kernel_rfl) (LoopsOk_eq (l := []) (by kernel_rfl) trivial) (math_IsInf_den v96 v97) hy hm h0 hA
def math_IsInf_v (v96 : Nat) (v97 : Int) : Bool :=
  if (decide (v97 = (0 : Int))) = true then (
   fgrt .f64 (fabs v96) (9218868437227405311 : Nat)
  ) else (
   if (decide (v97 < (0 : Int))) = true then (
    fgrt .f64 (fneg .f64 v96) (9218868437227405311 : Nat)
   ) else (
    fgrt .f64 v96 (9218868437227405311 : Nat)
   )
  )
theorem math_IsInf_tot (v96 : Nat) (v97 : Int) : math_IsInf_g v96 v97 = some (math_IsInf_v v96 v97) := by
  unfold math_IsInf_g math_IsInf_T math_IsInf_v
  simp only [Tree.run]
  repeat' (first | rfl | split)
noncomputable def math_IsInf_F : DFn := fun args L =>
  match args with
  | [.flt .f64 v96, .int .i64 v97] =>
    .leaf (.bool (math_IsInf_v v96 v97), L)
  | _ => .fail
theorem math_IsInf_Fok : COk Try.prog 170 math_IsInf_F true := by
  intro F L H args r L' hs ha hr
  unfold math_IsInf_F at hr
  split at hr
  · rename_i v96 v97
    have hy := math_IsInf_tot v96 v97
    generalize math_IsInf_v v96 v97 = y at hy hr
    simp only [Tree.run, Option.some.injEq, Prod.mk.injEq] at hr
    obtain ⟨rfl, rfl⟩ := hr
    exact call_ok0 hs (fun k => (([] : List AV)[k]?).getD .top) [.flt .f64 v96, .int .i64 v97] [.flt .f64 v96, .int .i64 v97] (fun F' h0 hi hρ => ⟨by simp [DVs.av, DV.av, BR.av, hρ], math_IsInf_fn v96 v97 F' (by rw [hi]; rfl) (st_nil hi) ⟨trivial, trivial, trivial⟩ hy⟩) rfl
  · cases hr
/-! impl.isFinite64 -/
noncomputable def impl_isFinite64_LO (v94 : Nat) : LOr := fun id e L =>
  match id with
  | _ => .fail
noncomputable def impl_isFinite64_tab : List (FuncId × DFn × Bool) := [(169, math_IsNaN_F, true), (170, math_IsInf_F, true)]
theorem impl_isFinite64_hO : OrcOk Try.prog (tabD impl_isFinite64_tab) (tabM impl_isFinite64_tab) := tabD_cons math_IsNaN_Fok (tabD_cons math_IsInf_Fok (tabD_nil _))
noncomputable def impl_isFinite64_T (v94 : Nat) : Tree (Bool) :=
  (.br (!(math_IsNaN_v v94)) (
   .leaf (!(math_IsInf_v v94 (0 : Int)))
  ) (
   .leaf false
  ))

noncomputable def impl_isFinite64_g (v94 : Nat) : Option (Bool) := (impl_isFinite64_T v94).run
def impl_isFinite64_enc (v94 : Nat) (y : Bool) : Rs := (.bool y, [])
theorem impl_isFinite64_den (v94 : Nat) : (den TT (tabD impl_isFinite64_tab) (tabM impl_isFinite64_tab) (impl_isFinite64_LO v94) (codeOf Try.f151) ([.flt .f64 v94] ++ List.replicate (Try.f151.ntmps - ([.flt .f64 v94] : List DV).length) .undef) []).bind (retD TT Try.f151.results.toList 0) = (impl_isFinite64_T v94).bind fun y => .leaf (impl_isFinite64_enc v94 y) := by kernel_rfl
theorem impl_isFinite64_fn (v94 : Nat) (F : Fr) (hm : F.ids.length = 0) (h0 : St F [] F.H0) (hA : DVs.Ok F [] [.flt .f64 v94]) {y : Bool} (hy : impl_isFinite64_g v94 = some y) : ∃ H', FnOk Try.prog 151 (DVs.av F [.flt .f64 v94]) F.H0 ((impl_isFinite64_enc v94 y).1.av F) H' ∧ St F (impl_isFinite64_enc v94 y).2 H' ∧ (impl_isFinite64_enc v94 y).1.Ok F (impl_isFinite64_enc v94 y).2 :=
  fn_fin tok impl_isFinite64_hO mixed Try.func151 Try.call151 (by kernel_rfl) (LoopsOk_eq (l := []) (by kernel_rfl) trivial) (impl_isFinite64_den v94) hy hm h0 hA
def impl_isFinite64_v (v94 : Nat) : Bool :=
  if (!(math_IsNaN_v v94)) = true then (
   !(math_IsInf_v v94 (0 : Int))
  ) else (
   false
  )
theorem impl_isFinite64_tot (v94 : Nat) : impl_isFinite64_g v94 = some (impl_isFinite64_v v94) := by
  unfold impl_isFinite64_g impl_isFinite64_T impl_isFinite64_v
  simp only [Tree.run]
  repeat' (first | rfl | split)
noncomputable def impl_isFinite64_F : DFn := fun args L =>
  match args with
  | [.flt .f64 v94] =>
    .leaf (.bool (impl_isFinite64_v v94), L)
  | _ => .fail
theorem impl_isFinite64_Fok : COk Try.prog 151 impl_isFinite64_F true := by
  intro F L H args r L' hs ha hr
  unfold impl_isFinite64_F at hr
  split at hr
  · rename_i v94
    have hy := impl_isFinite64_tot v94
    generalize impl_isFinite64_v v94 = y at hy hr
    simp only [Tree.run, Option.some.injEq, Prod.mk.injEq] at hr
    obtain ⟨rfl, rfl⟩ := hr
    exact call_ok0 hs (fun k => (([] : List AV)[k]?).getD .top) [.flt .f64 v94] [.flt .f64 v94] (fun F' h0 hi hρ => ⟨by simp [DVs.av, DV.av, BR.av, hρ], impl_isFinite64_fn v94 F' (by rw [hi]; rfl) (st_nil hi) ⟨trivial, trivial⟩ hy⟩) rfl
  · cases hr
/-! impl.IsFinite -/
noncomputable def impl_IsFinite_LO (v93 : Nat) : LOr := fun id e L =>
  match id with
  | _ => .fail
noncomputable def impl_IsFinite_tab : List (FuncId × DFn × Bool) := [(151, impl_isFinite64_F, true)]
theorem impl_IsFinite_hO : OrcOk Try.prog (tabD impl_IsFinite_tab) (tabM impl_IsFinite_tab) := tabD_cons impl_isFinite64_Fok (tabD_nil _)
noncomputable def impl_IsFinite_T (v93 : Nat) : Tree (Bool) :=
  .leaf (impl_isFinite64_v (wid v93))

noncomputable def impl_IsFinite_g (v93 : Nat) : Option (Bool) := (impl_IsFinite_T v93).run
def impl_IsFinite_enc (v93 : Nat) (y : Bool) : Rs := (.bool y, [])
theorem impl_IsFinite_den (v93 : Nat) : (den TT (tabD impl_IsFinite_tab) (tabM impl_IsFinite_tab) (impl_IsFinite_LO v93) (codeOf Try.f103) ([.flt .f32 v93] ++ List.replicate (Try.f103.ntmps - ([.flt .f32 v93] : List DV).length) .undef) []).bind (retD TT Try.f103.results.toList 0) = (impl_IsFinite_T v93).bind fun y => .leaf (impl_IsFinite_enc v93 y) := by kernel_rfl
theorem impl_IsFinite_fn (v93 : Nat) (F : Fr) (hm : F.ids.length = 0) (h0 : St F [] F.H0) (hA : DVs.Ok F [] [.flt .f32 v93]) {y : Bool} (hy : impl_IsFinite_g v93 = some y) : ∃ H', FnOk Try.prog 103 (DVs.av F [.flt .f32 v93]) F.H0 ((impl_IsFinite_enc v93 y).1.av F) H' ∧ St F (impl_IsFinite_enc v93 y).2 H' ∧ (impl_IsFinite_enc v93 y).1.Ok F (impl_IsFinite_enc v93 y).2 :=
  fn_fin tok impl_IsFinite_hO mixed Try.func103 Try.call103 (by kernel_rfl) (LoopsOk_eq (l := []) (by kernel_rfl) trivial) (impl_IsFinite_den v93) hy hm h0 hA
def impl_IsFinite_v (v93 : Nat) : Bool :=
  (impl_isFinite64_v (wid v93))
theorem impl_IsFinite_tot (v93 : Nat) : impl_IsFinite_g v93 = some (impl_IsFinite_v v93) := by
  unfold impl_IsFinite_g impl_IsFinite_T impl_IsFinite_v
  simp only [Tree.run]
  repeat' (first | rfl | split)
noncomputable def impl_IsFinite_F : DFn := fun args L =>
  match args with
  | [.flt .f32 v93] =>
    .leaf (.bool (impl_IsFinite_v v93), L)
  | _ => .fail
theorem impl_IsFinite_Fok : COk Try.prog 103 impl_IsFinite_F true := by
  intro F L H args r L' hs ha hr
  unfold impl_IsFinite_F at hr
  split at hr
  · rename_i v93
    have hy := impl_IsFinite_tot v93
    generalize impl_IsFinite_v v93 = y at hy hr
    simp only [Tree.run, Option.some.injEq, Prod.mk.injEq] at hr
    obtain ⟨rfl, rfl⟩ := hr
    exact call_ok0 hs (fun k => (([] : List AV)[k]?).getD .top) [.flt .f32 v93] [.flt .f32 v93] (fun F' h0 hi hρ => ⟨by simp [DVs.av, DV.av, BR.av, hρ], impl_IsFinite_fn v93 F' (by rw [hi]; rfl) (st_nil hi) ⟨trivial, trivial⟩ hy⟩) rfl
  · cases hr
/-! impl.areFinite$1 -/
noncomputable def impl_areFinite_1_LO (v92 : Nat) : LOr := fun id e L =>
  match id with
  | _ => .fail
noncomputable def impl_areFinite_1_tab : List (FuncId × DFn × Bool) := [(103, impl_IsFinite_F, true)]
theorem impl_areFinite_1_hO : OrcOk Try.prog (tabD impl_areFinite_1_tab) (tabM impl_areFinite_1_tab) := tabD_cons impl_IsFinite_Fok (tabD_nil _)
noncomputable def impl_areFinite_1_T (v92 : Nat) : Tree (Bool) :=
  .leaf (!(impl_IsFinite_v v92))

noncomputable def impl_areFinite_1_g (v92 : Nat) : Option (Bool) := (impl_areFinite_1_T v92).run
def impl_areFinite_1_enc (v92 : Nat) (y : Bool) : Rs := (.bool y, [])
theorem impl_areFinite_1_den (v92 : Nat) : (den TT (tabD impl_areFinite_1_tab) (tabM impl_areFinite_1_tab) (impl_areFinite_1_LO v92) (codeOf Try.f165) ([.flt .f32 v92] ++ List.replicate (Try.f165.ntmps - ([.flt .f32 v92] : List DV).length) .undef) []).bind (retD TT Try.f165.results.toList 0) = (impl_areFinite_1_T v92).bind fun y => .leaf (impl_areFinite_1_enc v92 y) := by kernel_rfl
theorem impl_areFinite_1_fn (v92 : Nat) (F : Fr) (hm : F.ids.length = 0) (h0 : St F [] F.H0) (hA : DVs.Ok F [] [.flt .f32 v92]) {y : Bool} (hy : impl_areFinite_1_g v92 = some y) : ∃ H', FnOk Try.prog 165 (DVs.av F [.flt .f32 v92]) F.H0 ((impl_areFinite_1_enc v92 y).1.av F) H' ∧ St F (impl_areFinite_1_enc v92 y).2 H' ∧ (impl_areFinite_1_enc v92 y).1.Ok F (impl_areFinite_1_enc v92 y).2 :=
  fn_fin tok impl_areFinite_1_hO mixed Try.func165 Try.call165 (by kernel_rfl) (LoopsOk_eq (l := []) (by kernel_rfl) trivial) (impl_areFinite_1_den v92) hy hm h0 hA
def impl_areFinite_1_v (v92 : Nat) : Bool :=
  !(impl_IsFinite_v v92)
theorem impl_areFinite_1_tot (v92 : Nat) : impl_areFinite_1_g v92 = some (impl_areFinite_1_v v92) := by
  unfold impl_areFinite_1_g impl_areFinite_1_T impl_areFinite_1_v
  simp only [Tree.run]
  repeat' (first | rfl | split)
noncomputable def impl_areFinite_1_F : DFn := fun args L =>
  match args with
  | [.flt .f32 v92] =>
    .leaf (.bool (impl_areFinite_1_v v92), L)
  | _ => .fail
theorem impl_areFinite_1_Fok : COk Try.prog 165 impl_areFinite_1_F true := by
  intro F L H args r L' hs ha hr
  unfold impl_areFinite_1_F at hr
  split at hr
  · rename_i v92
    have hy := impl_areFinite_1_tot v92
    generalize impl_areFinite_1_v v92 = y at hy hr
    simp only [Tree.run, Option.some.injEq, Prod.mk.injEq] at hr
    obtain ⟨rfl, rfl⟩ := hr
    exact call_ok0 hs (fun k => (([] : List AV)[k]?).getD .top) [.flt .f32 v92] [.flt .f32 v92] (fun F' h0 hi hρ => ⟨by simp [DVs.av, DV.av, BR.av, hρ], impl_areFinite_1_fn v92 F' (by rw [hi]; rfl) (st_nil hi) ⟨trivial, trivial⟩ hy⟩) rfl
  · cases hr
/-! slices.IndexFunc[list of float32,float32] -/
noncomputable def slices_IndexFuncF_l0_T (v90 : List Nat) (s : Int) : Tree ((Int) ⊕ ((Int) ⊕ (Unit))) :=
  (.br (decide (s < ((v90.length : Nat) : Int))) (
   (.grd (inb s v90.length) <|
   (.br (impl_areFinite_1_v (nth v90 (Int.toNat s))) (
    .leaf (.inr (.inl s))
   ) (
    .leaf (.inl (IntKind.i64.wrap (s + (1 : Int))))
   )))
  ) (
   .leaf (.inr (.inr ()))
  ))

noncomputable def slices_IndexFuncF_l0_g (v90 : List Nat) (s0 : Int) : Option ((Int) ⊕ (Unit)) := whileM (fun s => (slices_IndexFuncF_l0_T v90 s).run) s0
def slices_IndexFuncF_l0_E (v90 : List Nat) (s : Int) : Sd := ([.bslc (BR.root 0) (.f32 v90), .fn 165 [], .top, .top, .top, .top, .top, .int .i64 ((v90.length : Nat) : Int), .int .i64 s, .top, .top, .top, .top, .top, .top, .top, .top, .top, .top], [])
def slices_IndexFuncF_l0_X (v90 : List Nat) (x : (Int) ⊕ (Unit)) : Out := (match x with | .inl x => (.ret, [.top, .top, .top, .top, .int .i64 x, .top, .top, .top, .top, .top, .top, .top, .top, .top, .top, .top, .top, .top, .top], []) | .inr x => (.normal, [.top, .top, .top, .top, .top, .top, .top, .top, .top, .top, .top, .top, .top, .top, .top, .top, .top, .top, .top], []))
def slices_IndexFuncF_l0_kill : List Nat := [0, 0, 1, 1, 1, 1, 1, 0, 0, 1, 1, 1, 1, 1, 1, 1, 1, 1, 1]
def slices_IndexFuncF_l0_nx : Exit → List Nat
  | .exit 0 => [1, 1, 1, 1, 1, 1, 1, 1, 1, 1, 1, 1, 1, 1, 1, 1, 1, 1, 1]
  | .ret => [1, 1, 1, 1, 0, 1, 1, 1, 1, 1, 1, 1, 1, 1, 1, 1, 1, 1, 1]
  | _ => []
noncomputable def slices_IndexFuncF_LO (v90 : List Nat) : LOr := fun id e L =>
  match id with
  | 0 => .need (normA 0 slices_IndexFuncF_l0_kill e L = some (slices_IndexFuncF_l0_E v90 (gI (vAt e 8)))) (.call (slices_IndexFuncF_l0_g v90 (gI (vAt e 8))) fun x => .sum x (fun b0 => .leaf (slices_IndexFuncF_l0_X v90 (.inl b0))) (fun c0 => .leaf (slices_IndexFuncF_l0_X v90 (.inr c0))))
  | _ => .fail
noncomputable def slices_IndexFuncF_tab : List (FuncId × DFn × Bool) := [(165, impl_areFinite_1_F, true)]
theorem slices_IndexFuncF_hO : OrcOk Try.prog (tabD slices_IndexFuncF_tab) (tabM slices_IndexFuncF_tab) := tabD_cons impl_areFinite_1_Fok (tabD_nil _)
theorem slices_IndexFuncF_l0_be (v90 : List Nat) (s : Int) : bodyT TT (tabD slices_IndexFuncF_tab) (tabM slices_IndexFuncF_tab) (slices_IndexFuncF_LO v90) 0 slices_IndexFuncF_l0_kill slices_IndexFuncF_l0_nx (bodyOf Try.f178 0) 0 (slices_IndexFuncF_l0_E v90 s) = (slices_IndexFuncF_l0_T v90 s).bind fun y => .leaf (outS (slices_IndexFuncF_l0_E v90) (slices_IndexFuncF_l0_X v90) y) := by kernel_rfl
theorem slices_IndexFuncF_l0_ok (v90 : List Nat) : LSound Try.prog 0 (slices_IndexFuncF_LO v90) 0 (bodyOf Try.f178 0) := by
  intro e L out h
  exact lo_ok (E := slices_IndexFuncF_l0_E v90) (gT := slices_IndexFuncF_l0_T v90) (X := slices_IndexFuncF_l0_X v90) (s0 := (gI (vAt e 8))) tok slices_IndexFuncF_hO mixed (LoopsOk_eq (l := []) (by kernel_rfl) trivial) (slices_IndexFuncF_l0_be v90) rfl (by intro x; (cases x with | inl b => rfl | inr x => exact rfl)) h
noncomputable def slices_IndexFuncF_T (v90 : List Nat) : Tree (Int) :=
  (.need (some (slices_IndexFuncF_l0_E v90 (0 : Int)) = some (slices_IndexFuncF_l0_E v90 (0 : Int))) <|
  (.call (slices_IndexFuncF_l0_g v90 (0 : Int)) fun v100 =>
  (.sum v100 (fun v101 =>
   .leaf v101
  ) (fun v102 =>
   .leaf (-1 : Int)
  ))))

noncomputable def slices_IndexFuncF_g (v90 : List Nat) : Option (Int) := (slices_IndexFuncF_T v90).run
def slices_IndexFuncF_enc (v90 : List Nat) (y : Int) : Rs := (.int .i64 y, [])
theorem slices_IndexFuncF_den (v90 : List Nat) : (den TT (tabD slices_IndexFuncF_tab) (tabM slices_IndexFuncF_tab) (slices_IndexFuncF_LO v90) (codeOf Try.f178) ([.bslc (BR.root 0) (.f32 v90), .fn 165 []] ++ List.replicate (Try.f178.ntmps - ([.bslc (BR.root 0) (.f32 v90), .fn 165 []] : List DV).length) .undef) []).bind (retD TT Try.f178.results.toList 0) = (slices_IndexFuncF_T v90).bind fun y => .leaf (slices_IndexFuncF_enc v90 y) := by kernel_rfl
theorem slices_IndexFuncF_fn (v90 : List Nat) (F : Fr) (hm : F.ids.length = 0) (h0 : St F [] F.H0) (hA : DVs.Ok F [] [.bslc (BR.root 0) (.f32 v90), .fn 165 []]) {y : Int} (hy : slices_IndexFuncF_g v90 = some y) : ∃ H', FnOk Try.prog 178 (DVs.av F [.bslc (BR.root 0) (.f32 v90), .fn 165 []]) F.H0 ((slices_IndexFuncF_enc v90 y).1.av F) H' ∧ St F (slices_IndexFuncF_enc v90 y).2 H' ∧ (slices_IndexFuncF_enc v90 y).1.Ok F (slices_IndexFuncF_enc v90 y).2 :=
  fn_fin tok slices_IndexFuncF_hO mixed Try.func178 Try.call178 (by kernel_rfl) (LoopsOk_eq (l := [(0, bodyOf Try.f178 0)]) (by kernel_rfl) ⟨slices_IndexFuncF_l0_ok v90, trivial⟩) (slices_IndexFuncF_den v90) hy hm h0 hA
noncomputable def slices_IndexFuncF_F : DFn := fun args L =>
  match args with
  | [a1, .fn 165 []] =>
    optT (rowF32 L a1) fun v90 =>
    .call (slices_IndexFuncF_g v90) fun y => .leaf (.int .i64 y, L)
  | _ => .fail
theorem slices_IndexFuncF_Fok : COk Try.prog 178 slices_IndexFuncF_F true := by
  intro F L H args r L' hs ha hr
  unfold slices_IndexFuncF_F at hr
  split at hr
  · rename_i a1
    obtain ⟨v90, hv90, hr⟩ := optT_run hr
    simp only [Tree.run] at hr
    obtain ⟨y, hy, hr⟩ := Option.bind_eq_some_iff.1 hr
    simp only [Tree.run, Option.some.injEq, Prod.mk.injEq] at hr
    obtain ⟨rfl, rfl⟩ := hr
    exact call_ok0 hs (fun k => (([a1.av F] : List AV)[k]?).getD .top) [a1, .fn 165 []] [.bslc (BR.root 0) (.f32 v90), .fn 165 []] (fun F' h0 hi hρ => ⟨by simp [DVs.av, DV.av, BR.av, hρ], slices_IndexFuncF_fn v90 F' (by rw [hi]; rfl) (st_nil hi) ⟨bslc_ok hi (by rw [h0, hρ]; exact rowF32_ok hs (DVs.okAt ha 0 rfl) hv90), trivial, trivial⟩ hy⟩) rfl
  · cases hr
/-! slices.ContainsFunc[list of float32,float32] -/
noncomputable def slices_ContainsFuncF_LO (v89 : List Nat) : LOr := fun id e L =>
  match id with
  | _ => .fail
noncomputable def slices_ContainsFuncF_tab : List (FuncId × DFn × Bool) := [(178, slices_IndexFuncF_F, true)]
theorem slices_ContainsFuncF_hO : OrcOk Try.prog (tabD slices_ContainsFuncF_tab) (tabM slices_ContainsFuncF_tab) := tabD_cons slices_IndexFuncF_Fok (tabD_nil _)
noncomputable def slices_ContainsFuncF_T (v89 : List Nat) : Tree (Bool) :=
  (.call (slices_IndexFuncF_g v89) fun v103 =>
  .leaf (decide ((0 : Int) ≤ v103)))

noncomputable def slices_ContainsFuncF_g (v89 : List Nat) : Option (Bool) := (slices_ContainsFuncF_T v89).run
def slices_ContainsFuncF_enc (v89 : List Nat) (y : Bool) : Rs := (.bool y, [])
theorem slices_ContainsFuncF_den (v89 : List Nat) : (den TT (tabD slices_ContainsFuncF_tab) (tabM slices_ContainsFuncF_tab) (slices_ContainsFuncF_LO v89) (codeOf Try.f164) ([.bslc (BR.root 0) (.f32 v89), .fn 165 []] ++ List.replicate (Try.f164.ntmps - ([.bslc (BR.root 0) (.f32 v89), .fn 165 []] : List DV).length) .undef) []).bind (retD TT Try.f164.results.toList 0) = (slices_ContainsFuncF_T v89).bind fun y => .leaf (slices_ContainsFuncF_enc v89 y) := by kernel_rfl
theorem slices_ContainsFuncF_fn (v89 : List Nat) (F : Fr) (hm : F.ids.length = 0) (h0 : St F [] F.H0) (hA : DVs.Ok F [] [.bslc (BR.root 0) (.f32 v89), .fn 165 []]) {y : Bool} (hy : slices_ContainsFuncF_g v89 = some y) : ∃ H', FnOk Try.prog 164 (DVs.av F [.bslc (BR.root 0) (.f32 v89), .fn 165 []]) F.H0 ((slices_ContainsFuncF_enc v89 y).1.av F) H' ∧ St F (slices_ContainsFuncF_enc v89 y).2 H' ∧ (slices_ContainsFuncF_enc v89 y).1.Ok F (slices_ContainsFuncF_enc v89 y).2 :=
  fn_fin tok slices_ContainsFuncF_hO mixed Try.func164 Try.call164 (by kernel_rfl) (LoopsOk_eq (l := []) (by kernel_rfl) trivial) (slices_ContainsFuncF_den v89) hy hm h0 hA
noncomputable def slices_ContainsFuncF_F : DFn := fun args L =>
  match args with
  | [a1, .fn 165 []] =>
    optT (rowF32 L a1) fun v89 =>
    .call (slices_ContainsFuncF_g v89) fun y => .leaf (.bool y, L)
  | _ => .fail
theorem slices_ContainsFuncF_Fok : COk Try.prog 164 slices_ContainsFuncF_F true := by
  intro F L H args r L' hs ha hr
  unfold slices_ContainsFuncF_F at hr
  split at hr
  · rename_i a1
    obtain ⟨v89, hv89, hr⟩ := optT_run hr
    simp only [Tree.run] at hr
    obtain ⟨y, hy, hr⟩ := Option.bind_eq_some_iff.1 hr
    simp only [Tree.run, Option.some.injEq, Prod.mk.injEq] at hr
    obtain ⟨rfl, rfl⟩ := hr
    exact call_ok0 hs (fun k => (([a1.av F] : List AV)[k]?).getD .top) [a1, .fn 165 []] [.bslc (BR.root 0) (.f32 v89), .fn 165 []] (fun F' h0 hi hρ => ⟨by simp [DVs.av, DV.av, BR.av, hρ], slices_ContainsFuncF_fn v89 F' (by rw [hi]; rfl) (st_nil hi) ⟨bslc_ok hi (by rw [h0, hρ]; exact rowF32_ok hs (DVs.okAt ha 0 rfl) hv89), trivial, trivial⟩ hy⟩) rfl
  · cases hr
/-! impl.areFinite -/
noncomputable def impl_areFinite_LO (v88 : List Nat) : LOr := fun id e L =>
  match id with
  | _ => .fail
noncomputable def impl_areFinite_tab : List (FuncId × DFn × Bool) := [(164, slices_ContainsFuncF_F, true)]
theorem impl_areFinite_hO : OrcOk Try.prog (tabD impl_areFinite_tab) (tabM impl_areFinite_tab) := tabD_cons slices_ContainsFuncF_Fok (tabD_nil _)
noncomputable def impl_areFinite_T (v88 : List Nat) : Tree (Bool) :=
  (.call (slices_ContainsFuncF_g v88) fun v104 =>
  .leaf (!v104))

noncomputable def impl_areFinite_g (v88 : List Nat) : Option (Bool) := (impl_areFinite_T v88).run
def impl_areFinite_enc (v88 : List Nat) (y : Bool) : Rs := (.bool y, [])
theorem impl_areFinite_den (v88 : List Nat) : (den TT (tabD impl_areFinite_tab) (tabM impl_areFinite_tab) (impl_areFinite_LO v88) (codeOf Try.f135) ([.bslc (BR.root 0) (.f32 v88)] ++ List.replicate (Try.f135.ntmps - ([.bslc (BR.root 0) (.f32 v88)] : List DV).length) .undef) []).bind (retD TT Try.f135.results.toList 0) = (impl_areFinite_T v88).bind fun y => .leaf (impl_areFinite_enc v88 y) := by kernel_rfl
theorem impl_areFinite_fn (v88 : List Nat) (F : Fr) (hm : F.ids.length = 0) (h0 : St F [] F.H0) (hA : DVs.Ok F [] [.bslc (BR.root 0) (.f32 v88)]) {y : Bool} (hy : impl_areFinite_g v88 = some y) : ∃ H', FnOk Try.prog 135 (DVs.av F [.bslc (BR.root 0) (.f32 v88)]) F.H0 ((impl_areFinite_enc v88 y).1.av F) H' ∧ St F (impl_areFinite_enc v88 y).2 H' ∧ (impl_areFinite_enc v88 y).1.Ok F (impl_areFinite_enc v88 y).2 :=
  fn_fin tok impl_areFinite_hO mixed Try.func135 Try.call135 (by kernel_rfl) (LoopsOk_eq (l := []) (by kernel_rfl) trivial) (impl_areFinite_den v88) hy hm h0 hA
noncomputable def impl_areFinite_F : DFn := fun args L =>
  match args with
  | [a1] =>
    optT (rowF32 L a1) fun v88 =>
    .call (impl_areFinite_g v88) fun y => .leaf (.bool y, L)
  | _ => .fail
theorem impl_areFinite_Fok : COk Try.prog 135 impl_areFinite_F true := by
  intro F L H args r L' hs ha hr
  unfold impl_areFinite_F at hr
  split at hr
  · rename_i a1
    obtain ⟨v88, hv88, hr⟩ := optT_run hr
    simp only [Tree.run] at hr
    obtain ⟨y, hy, hr⟩ := Option.bind_eq_some_iff.1 hr
    simp only [Tree.run, Option.some.injEq, Prod.mk.injEq] at hr
    obtain ⟨rfl, rfl⟩ := hr
    exact call_ok0 hs (fun k => (([a1.av F] : List AV)[k]?).getD .top) [a1] [.bslc (BR.root 0) (.f32 v88)] (fun F' h0 hi hρ => ⟨by simp [DVs.av, DV.av, BR.av, hρ], impl_areFinite_fn v88 F' (by rw [hi]; rfl) (st_nil hi) ⟨bslc_ok hi (by rw [h0, hρ]; exact rowF32_ok hs (DVs.okAt ha 0 rfl) hv88), trivial⟩ hy⟩) rfl
  · cases hr
/-! impl.ValidMatrix -/
noncomputable def impl_ValidMatrix_LO (v80 : Int) (v81 : Int) (v82 : List Nat) : LOr := fun id e L =>
  match id with
  | _ => .fail
noncomputable def impl_ValidMatrix_tab : List (FuncId × DFn × Bool) := [(146, impl_isSide_F, true), (134, impl_lengthF_F, true), (135, impl_areFinite_F, true)]
theorem impl_ValidMatrix_hO : OrcOk Try.prog (tabD impl_ValidMatrix_tab) (tabM impl_ValidMatrix_tab) := tabD_cons impl_isSide_Fok (tabD_cons impl_lengthF_Fok (tabD_cons impl_areFinite_Fok (tabD_nil _)))
noncomputable def impl_ValidMatrix_T (v80 : Int) (v81 : Int) (v82 : List Nat) : Tree (Bool) :=
  (.br (impl_isSide_v v80) (
   (.br (impl_isSide_v v81) (
    (.br (decide ((impl_lengthF_v v82) = IntKind.i64.wrap (v80 * v81))) (
     (.call (impl_areFinite_g v82) fun v105 =>
     .leaf v105)
    ) (
     .leaf false
    ))
   ) (
    .leaf false
   ))
  ) (
   .leaf false
  ))

noncomputable def impl_ValidMatrix_g (v80 : Int) (v81 : Int) (v82 : List Nat) : Option (Bool) := (impl_ValidMatrix_T v80 v81 v82).run
def impl_ValidMatrix_enc (v80 : Int) (v81 : Int) (v82 : List Nat) (y : Bool) : Rs := (.bool y, [])
theorem impl_ValidMatrix_den (v80 : Int) (v81 : Int) (v82 : List Nat) : (den TT (tabD impl_ValidMatrix_tab) (tabM impl_ValidMatrix_tab) (impl_ValidMatrix_LO v80 v81 v82) (codeOf Try.f98) ([.agg [.int .i64 v80, .int .i64 v81, .bslc (BR.root 0) (.f32 v82)]] ++ List.replicate (Try.f98.ntmps - ([.agg [.int .i64 v80, .int .i64 v81, .bslc (BR.root 0) (.f32 v82)]] : List DV).length) .undef) []).bind (retD TT Try.f98.results.toList 0) = (impl_ValidMatrix_T v80 v81 v82).bind fun y => .leaf (impl_ValidMatrix_enc v80 v81 v82 y) := by kernel_rfl
theorem impl_ValidMatrix_fn (v80 : Int) (v81 : Int) (v82 : List Nat) (F : Fr) (hm : F.ids.length = 0) (h0 : St F [] F.H0) (hA : DVs.Ok F [] [.agg [.int .i64 v80, .int .i64 v81, .bslc (BR.root 0) (.f32 v82)]]) {y : Bool} (hy : impl_ValidMatrix_g v80 v81 v82 = some y) : ∃ H', FnOk Try.prog 98 (DVs.av F [.agg [.int .i64 v80, .int .i64 v81, .bslc (BR.root 0) (.f32 v82)]]) F.H0 ((impl_ValidMatrix_enc v80 v81 v82 y).1.av F) H' ∧ St F (impl_ValidMatrix_enc v80 v81 v82 y).2 H' ∧ (impl_ValidMatrix_enc v80 v81 v82 y).1.Ok F (impl_ValidMatrix_enc v80 v81 v82 y).2 :=
  fn_fin tok impl_ValidMatrix_hO mixed Try.func98 Try.call98 (by kernel_rfl) (LoopsOk_eq (l := []) (by kernel_rfl) trivial) (impl_ValidMatrix_den v80 v81 v82) hy hm h0 hA
noncomputable def impl_ValidMatrix_F : DFn := fun args L =>
  match args with
  | [.agg [.int .i64 v80, .int .i64 v81, a1]] =>
    optT (rowF32 L a1) fun v82 =>
    .call (impl_ValidMatrix_g v80 v81 v82) fun y => .leaf (.bool y, L)
  | _ => .fail
theorem impl_ValidMatrix_Fok : COk Try.prog 98 impl_ValidMatrix_F true := by
  intro F L H args r L' hs ha hr
  unfold impl_ValidMatrix_F at hr
  split at hr
  · rename_i v80 v81 a1
    obtain ⟨v82, hv82, hr⟩ := optT_run hr
    simp only [Tree.run] at hr
    obtain ⟨y, hy, hr⟩ := Option.bind_eq_some_iff.1 hr
    simp only [Tree.run, Option.some.injEq, Prod.mk.injEq] at hr
    obtain ⟨rfl, rfl⟩ := hr
    exact call_ok0 hs (fun k => (([a1.av F] : List AV)[k]?).getD .top) [.agg [.int .i64 v80, .int .i64 v81, a1]] [.agg [.int .i64 v80, .int .i64 v81, .bslc (BR.root 0) (.f32 v82)]] (fun F' h0 hi hρ => ⟨by simp [DVs.av, DV.av, BR.av, hρ], impl_ValidMatrix_fn v80 v81 v82 F' (by rw [hi]; rfl) (st_nil hi) ⟨⟨trivial, trivial, bslc_ok hi (by rw [h0, hρ]; exact rowF32_ok hs (DVs.okAt (DVs.okAt ha 0 rfl) 2 rfl) hv82), trivial⟩, trivial⟩ hy⟩) rfl
  · cases hr
/-! impl.length[int64] -/
noncomputable def impl_lengthI_LO (v108 : List Int) : LOr := fun id e L =>
  match id with
  | _ => .fail
noncomputable def impl_lengthI_tab : List (FuncId × DFn × Bool) := []
theorem impl_lengthI_hO : OrcOk Try.prog (tabD impl_lengthI_tab) (tabM impl_lengthI_tab) := tabD_nil _
noncomputable def impl_lengthI_T (v108 : List Int) : Tree (Int) :=
  .leaf ((v108.length : Nat) : Int)

noncomputable def impl_lengthI_g (v108 : List Int) : Option (Int) := (impl_lengthI_T v108).run
def impl_lengthI_enc (v108 : List Int) (y : Int) : Rs := (.int .i64 y, [])
theorem impl_lengthI_den (v108 : List Int) : (den TT (tabD impl_lengthI_tab) (tabM impl_lengthI_tab) (impl_lengthI_LO v108) (codeOf Try.f109) ([.bslc (BR.root 0) (.i64 v108)] ++ List.replicate (Try.f109.ntmps - ([.bslc (BR.root 0) (.i64 v108)] : List DV).length) .undef) []).bind (retD TT Try.f109.results.toList 0) = (impl_lengthI_T v108).bind fun y => .leaf (impl_lengthI_enc v108 y) := by kernel_rfl
theorem impl_lengthI_fn (v108 : List Int) (F : Fr) (hm : F.ids.length = 0) (h0 : St F [] F.H0) (hA : DVs.Ok F [] [.bslc (BR.root 0) (.i64 v108)]) {y : Int} (hy : impl_lengthI_g v108 = some y) : ∃ H', FnOk Try.prog 109 (DVs.av F [.bslc (BR.root 0) (.i64 v108)]) F.H0 ((impl_lengthI_enc v108 y).1.av F) H' ∧ St F (impl_lengthI_enc v108 y).2 H' ∧ (impl_lengthI_enc v108 y).1.Ok F (impl_lengthI_enc v108 y).2 :=
  fn_fin tok impl_lengthI_hO mixed Try.func109 Try.call109 (by kernel_rfl) (LoopsOk_eq (l := []) (by kernel_rfl) trivial) (impl_lengthI_den v108) hy hm h0 hA
def impl_lengthI_v (v108 : List Int) : Int :=
  ((v108.length : Nat) : Int)
theorem impl_lengthI_tot (v108 : List Int) : impl_lengthI_g v108 = some (impl_lengthI_v v108) := by
  unfold impl_lengthI_g impl_lengthI_T impl_lengthI_v
  simp only [Tree.run]
  repeat' (first | rfl | split)
noncomputable def impl_lengthI_F : DFn := fun args L =>
  match args with
  | [a1] =>
    optT (rowI64 L a1) fun v108 =>
    .leaf (.int .i64 (impl_lengthI_v v108), L)
  | _ => .fail
theorem impl_lengthI_Fok : COk Try.prog 109 impl_lengthI_F true := by
  intro F L H args r L' hs ha hr
  unfold impl_lengthI_F at hr
  split at hr
  · rename_i a1
    obtain ⟨v108, hv108, hr⟩ := optT_run hr
    have hy := impl_lengthI_tot v108
    generalize impl_lengthI_v v108 = y at hy hr
    simp only [Tree.run, Option.some.injEq, Prod.mk.injEq] at hr
    obtain ⟨rfl, rfl⟩ := hr
    exact call_ok0 hs (fun k => (([a1.av F] : List AV)[k]?).getD .top) [a1] [.bslc (BR.root 0) (.i64 v108)] (fun F' h0 hi hρ => ⟨by simp [DVs.av, DV.av, BR.av, hρ], impl_lengthI_fn v108 F' (by rw [hi]; rfl) (st_nil hi) ⟨bslc_ok hi (by rw [h0, hρ]; exact rowI64_ok hs (DVs.okAt ha 0 rfl) hv108), trivial⟩ hy⟩) rfl
  · cases hr
/-! impl.IsOrder -/
noncomputable def impl_IsOrder_LO (v107 : List Int) : LOr := fun id e L =>
  match id with
  | _ => .fail
noncomputable def impl_IsOrder_tab : List (FuncId × DFn × Bool) := [(109, impl_lengthI_F, true), (146, impl_isSide_F, true), (154, Perm_F, true)]
theorem impl_IsOrder_hO : OrcOk Try.prog (tabD impl_IsOrder_tab) (tabM impl_IsOrder_tab) := tabD_cons impl_lengthI_Fok (tabD_cons impl_isSide_Fok (tabD_cons Perm_Fok (tabD_nil _)))
noncomputable def impl_IsOrder_T (v107 : List Int) : Tree (Bool) :=
  (.br (impl_isSide_v (impl_lengthI_v v107)) (
   (.grd (decide (0 < v107.length) && decide (v107.length ≤ 4096)) <|
   .leaf (PM.permB v107))
  ) (
   .leaf false
  ))

noncomputable def impl_IsOrder_g (v107 : List Int) : Option (Bool) := (impl_IsOrder_T v107).run
def impl_IsOrder_enc (v107 : List Int) (y : Bool) : Rs := (.bool y, [])
theorem impl_IsOrder_den (v107 : List Int) : (den TT (tabD impl_IsOrder_tab) (tabM impl_IsOrder_tab) (impl_IsOrder_LO v107) (codeOf Try.f108) ([.bslc (BR.root 0) (.i64 v107)] ++ List.replicate (Try.f108.ntmps - ([.bslc (BR.root 0) (.i64 v107)] : List DV).length) .undef) []).bind (retD TT Try.f108.results.toList 0) = (impl_IsOrder_T v107).bind fun y => .leaf (impl_IsOrder_enc v107 y) := by kernel_rfl
theorem impl_IsOrder_fn (v107 : List Int) (F : Fr) (hm : F.ids.length = 0) (h0 : St F [] F.H0) (hA : DVs.Ok F [] [.bslc (BR.root 0) (.i64 v107)]) {y : Bool} (hy : impl_IsOrder_g v107 = some y) : ∃ H', FnOk Try.prog 108 (DVs.av F [.bslc (BR.root 0) (.i64 v107)]) F.H0 ((impl_IsOrder_enc v107 y).1.av F) H' ∧ St F (impl_IsOrder_enc v107 y).2 H' ∧ (impl_IsOrder_enc v107 y).1.Ok F (impl_IsOrder_enc v107 y).2 :=
  fn_fin tok impl_IsOrder_hO mixed Try.func108 Try.call108 (by kernel_rfl) (LoopsOk_eq (l := []) (by kernel_rfl) trivial) (impl_IsOrder_den v107) hy hm h0 hA
noncomputable def impl_IsOrder_F : DFn := fun args L =>
  match args with
  | [a1] =>
    optT (rowI64 L a1) fun v107 =>
    .call (impl_IsOrder_g v107) fun y => .leaf (.bool y, L)
  | _ => .fail
theorem impl_IsOrder_Fok : COk Try.prog 108 impl_IsOrder_F true := by
  intro F L H args r L' hs ha hr
  unfold impl_IsOrder_F at hr
  split at hr
  · rename_i a1
    obtain ⟨v107, hv107, hr⟩ := optT_run hr
    simp only [Tree.run] at hr
    obtain ⟨y, hy, hr⟩ := Option.bind_eq_some_iff.1 hr
    simp only [Tree.run, Option.some.injEq, Prod.mk.injEq] at hr
    obtain ⟨rfl, rfl⟩ := hr
    exact call_ok0 hs (fun k => (([a1.av F] : List AV)[k]?).getD .top) [a1] [.bslc (BR.root 0) (.i64 v107)] (fun F' h0 hi hρ => ⟨by simp [DVs.av, DV.av, BR.av, hρ], impl_IsOrder_fn v107 F' (by rw [hi]; rfl) (st_nil hi) ⟨bslc_ok hi (by rw [h0, hρ]; exact rowI64_ok hs (DVs.okAt ha 0 rfl) hv107), trivial⟩ hy⟩) rfl
  · cases hr
/-! impl.newMatrix -/
noncomputable def impl_newMatrix_LO (v116 : Int) (v117 : Int) : LOr := fun id e L =>
  match id with
  | _ => .fail
noncomputable def impl_newMatrix_tab : List (FuncId × DFn × Bool) := []
theorem impl_newMatrix_hO : OrcOk Try.prog (tabD impl_newMatrix_tab) (tabM impl_newMatrix_tab) := tabD_nil _
noncomputable def impl_newMatrix_T (v116 : Int) (v117 : Int) : Tree (Int × Int) :=
  (.need (IntKind.i64.wrap (v116 * v117) = IntKind.i64.wrap (v116 * v117)) <|
  (.grd (inb (IntKind.i64.wrap (v116 * v117)) (maxN + 1)) <|
  .leaf (v116, v117)))

noncomputable def impl_newMatrix_g (v116 : Int) (v117 : Int) : Option (Int × Int) := (impl_newMatrix_T v116 v117).run
def impl_newMatrix_enc (v116 : Int) (v117 : Int) (y : Int × Int) : Rs := (.agg [.int .i64 y.1, .int .i64 y.2, .own 0 0 ((List.replicate (Int.toNat (IntKind.i64.wrap (v116 * v117))) (0 : Nat)).length)], [.row (.f32 (List.replicate (Int.toNat (IntKind.i64.wrap (v116 * v117))) (0 : Nat))) 0])
theorem impl_newMatrix_den (v116 : Int) (v117 : Int) : (den TT (tabD impl_newMatrix_tab) (tabM impl_newMatrix_tab) (impl_newMatrix_LO v116 v117) (codeOf Try.f125) ([.int .i64 v116, .int .i64 v117] ++ List.replicate (Try.f125.ntmps - ([.int .i64 v116, .int .i64 v117] : List DV).length) .undef) []).bind (retD TT Try.f125.results.toList 0) = (impl_newMatrix_T v116 v117).bind fun y => .leaf (impl_newMatrix_enc v116 v117 y) := by kernel_rfl
theorem impl_newMatrix_fn (v116 : Int) (v117 : Int) (F : Fr) (hm : F.ids.length = 0) (h0 : St F [] F.H0) (hA : DVs.Ok F [] [.int .i64 v116, .int .i64 v117]) {y : Int × Int} (hy : impl_newMatrix_g v116 v117 = some y) : ∃ H', FnOk Try.prog 125 (DVs.av F [.int .i64 v116, .int .i64 v117]) F.H0 ((impl_newMatrix_enc v116 v117 y).1.av F) H' ∧ St F (impl_newMatrix_enc v116 v117 y).2 H' ∧ (impl_newMatrix_enc v116 v117 y).1.Ok F (impl_newMatrix_enc v116 v117 y).2 :=
  fn_fin tok impl_newMatrix_hO mixed Try.func125 Try.call125 (by kernel_rfl) (LoopsOk_eq (l := []) (by kernel_rfl) trivial) (impl_newMatrix_den v116 v117) hy hm h0 hA
noncomputable def impl_newMatrix_F : DFn := fun args L =>
  match args with
  | [.int .i64 v116, .int .i64 v117] =>
    .call (impl_newMatrix_g v116 v117) fun y => .leaf (.agg [.int .i64 y.1, .int .i64 y.2, .own (L.length + 0) 0 ((List.replicate (Int.toNat (IntKind.i64.wrap (v116 * v117))) (0 : Nat)).length)], L ++ [.row (.f32 (List.replicate (Int.toNat (IntKind.i64.wrap (v116 * v117))) (0 : Nat))) 0])
  | _ => .fail
theorem impl_newMatrix_Fok : COk Try.prog 125 impl_newMatrix_F true := by
  intro F L H args r L' hs ha hr
  unfold impl_newMatrix_F at hr
  split at hr
  · rename_i v116 v117
    simp only [Tree.run] at hr
    obtain ⟨y, hy, hr⟩ := Option.bind_eq_some_iff.1 hr
    simp only [Tree.run, Option.some.injEq, Prod.mk.injEq] at hr
    obtain ⟨rfl, rfl⟩ := hr
    exact call_ok1 hs (fun k => (([] : List AV)[k]?).getD .top) [.int .i64 v116, .int .i64 v117] [.int .i64 v116, .int .i64 v117] (fun F' h0 hi hρ => ⟨by simp [DVs.av, DV.av, BR.av, hρ], impl_newMatrix_fn v116 v117 F' (by rw [hi]; rfl) (st_nil hi) ⟨trivial, trivial, trivial⟩ hy⟩) rfl rfl
  · cases hr
/-! (impl.Matrix).at -/
noncomputable def impl_Matrix_at_LO (v132 : Int) (v133 : Int) (v134 : List Nat) (v135 : Int) (v136 : Int) : LOr := fun id e L =>
  match id with
  | _ => .fail
noncomputable def impl_Matrix_at_tab : List (FuncId × DFn × Bool) := []
theorem impl_Matrix_at_hO : OrcOk Try.prog (tabD impl_Matrix_at_tab) (tabM impl_Matrix_at_tab) := tabD_nil _
noncomputable def impl_Matrix_at_T (v133 : Int) (v134 : List Nat) (v135 : Int) (v136 : Int) : Tree (Nat) :=
  (.grd (inb (IntKind.i64.wrap ((IntKind.i64.wrap (v135 * v133)) + v136)) v134.length) <|
  .leaf (nth v134 (Int.toNat (IntKind.i64.wrap ((IntKind.i64.wrap (v135 * v133)) + v136)))))

noncomputable def impl_Matrix_at_g (v133 : Int) (v134 : List Nat) (v135 : Int) (v136 : Int) : Option (Nat) := (impl_Matrix_at_T v133 v134 v135 v136).run
def impl_Matrix_at_enc (v132 : Int) (v133 : Int) (v134 : List Nat) (v135 : Int) (v136 : Int) (y : Nat) : Rs := (.flt .f32 y, [])
theorem impl_Matrix_at_den (v132 : Int) (v133 : Int) (v134 : List Nat) (v135 : Int) (v136 : Int) : (den TT (tabD impl_Matrix_at_tab) (tabM impl_Matrix_at_tab) (impl_Matrix_at_LO v132 v133 v134 v135 v136) (codeOf Try.f93) ([.agg [.int .i64 v132, .int .i64 v133, .bslc (BR.root 0) (.f32 v134)], .int .i64 v135, .int .i64 v136] ++ List.replicate (Try.f93.ntmps - ([.agg [.int .i64 v132, .int .i64 v133, .bslc (BR.root 0) (.f32 v134)], .int .i64 v135, .int .i64 v136] : List DV).length) .undef) []).bind (retD TT Try.f93.results.toList 0) = (impl_Matrix_at_T v133 v134 v135 v136).bind fun y => .leaf (impl_Matrix_at_enc v132 v133 v134 v135 v136 y) := by kernel_rfl
theorem impl_Matrix_at_fn (v132 : Int) (v133 : Int) (v134 : List Nat) (v135 : Int) (v136 : Int) (F : Fr) (hm : F.ids.length = 0) (h0 : St F [] F.H0) (hA : DVs.Ok F [] [.agg [.int .i64 v132, .int .i64 v133, .bslc (BR.root 0) (.f32 v134)], .int .i64 v135, .int .i64 v136]) {y : Nat} (hy : impl_Matrix_at_g v133 v134 v135 v136 = some y) : ∃ H', FnOk Try.prog 93 (DVs.av F [.agg [.int .i64 v132, .int .i64 v133, .bslc (BR.root 0) (.f32 v134)], .int .i64 v135, .int .i64 v136]) F.H0 ((impl_Matrix_at_enc v132 v133 v134 v135 v136 y).1.av F) H' ∧ St F (impl_Matrix_at_enc v132 v133 v134 v135 v136 y).2 H' ∧ (impl_Matrix_at_enc v132 v133 v134 v135 v136 y).1.Ok F (impl_Matrix_at_enc v132 v133 v134 v135 v136 y).2 :=
  fn_fin tok impl_Matrix_at_hO mixed Try.func93 Try.call93 (by kernel_rfl) (LoopsOk_eq (l := []) (by kernel_rfl) trivial) (impl_Matrix_at_den v132 v133 v134 v135 v136) hy hm h0 hA
noncomputable def impl_Matrix_at_F : DFn := fun args L =>
  match args with
  | [.agg [.int .i64 v132, .int .i64 v133, a1], .int .i64 v135, .int .i64 v136] =>
    optT (rowF32 L a1) fun v134 =>
    .call (impl_Matrix_at_g v133 v134 v135 v136) fun y => .leaf (.flt .f32 y, L)
  | _ => .fail
theorem impl_Matrix_at_Fok : COk Try.prog 93 impl_Matrix_at_F true := by
  intro F L H args r L' hs ha hr
  unfold impl_Matrix_at_F at hr
  split at hr
  · rename_i v132 v133 a1 v135 v136
    obtain ⟨v134, hv134, hr⟩ := optT_run hr
    simp only [Tree.run] at hr
    obtain ⟨y, hy, hr⟩ := Option.bind_eq_some_iff.1 hr
    simp only [Tree.run, Option.some.injEq, Prod.mk.injEq] at hr
    obtain ⟨rfl, rfl⟩ := hr
    exact call_ok0 hs (fun k => (([a1.av F] : List AV)[k]?).getD .top) [.agg [.int .i64 v132, .int .i64 v133, a1], .int .i64 v135, .int .i64 v136] [.agg [.int .i64 v132, .int .i64 v133, .bslc (BR.root 0) (.f32 v134)], .int .i64 v135, .int .i64 v136] (fun F' h0 hi hρ => ⟨by simp [DVs.av, DV.av, BR.av, hρ], impl_Matrix_at_fn v132 v133 v134 v135 v136 F' (by rw [hi]; rfl) (st_nil hi) ⟨⟨trivial, trivial, bslc_ok hi (by rw [h0, hρ]; exact rowF32_ok hs (DVs.okAt (DVs.okAt ha 0 rfl) 2 rfl) hv134), trivial⟩, trivial, trivial, trivial⟩ hy⟩) rfl
  · cases hr
/-! impl.OrderRows$1 -/
noncomputable def impl_OrderRows_1_LO (v126 : Int) (v127 : Int) (v128 : Int) (v129 : Int) (v130 : List Nat) (v131 : List Int) : LOr := fun id e L =>
  match id with
  | _ => .fail
noncomputable def impl_OrderRows_1_tab : List (FuncId × DFn × Bool) := [(93, impl_Matrix_at_F, true)]
theorem impl_OrderRows_1_hO : OrcOk Try.prog (tabD impl_OrderRows_1_tab) (tabM impl_OrderRows_1_tab) := tabD_cons impl_Matrix_at_Fok (tabD_nil _)
noncomputable def impl_OrderRows_1_T (v126 : Int) (v127 : Int) (v129 : Int) (v130 : List Nat) (v131 : List Int) : Tree (Nat) :=
  (.grd (inb v126 v131.length) <|
  (.call (impl_Matrix_at_g v129 v130 (nth v131 (Int.toNat v126)) v127) fun v137 =>
  .leaf v137))

noncomputable def impl_OrderRows_1_g (v126 : Int) (v127 : Int) (v129 : Int) (v130 : List Nat) (v131 : List Int) : Option (Nat) := (impl_OrderRows_1_T v126 v127 v129 v130 v131).run
def impl_OrderRows_1_enc (v126 : Int) (v127 : Int) (v128 : Int) (v129 : Int) (v130 : List Nat) (v131 : List Int) (y : Nat) : Rs := (.flt .f32 y, [])
theorem impl_OrderRows_1_den (v126 : Int) (v127 : Int) (v128 : Int) (v129 : Int) (v130 : List Nat) (v131 : List Int) : (den TT (tabD impl_OrderRows_1_tab) (tabM impl_OrderRows_1_tab) (impl_OrderRows_1_LO v126 v127 v128 v129 v130 v131) (codeOf Try.f110) ([.int .i64 v126, .int .i64 v127, .bptr (BR.root 0) [.int .i64 v128, .int .i64 v129, .bslc (BR.root 1) (.f32 v130)], .bptr (BR.root 2) [.bslc (BR.root 3) (.i64 v131)]] ++ List.replicate (Try.f110.ntmps - ([.int .i64 v126, .int .i64 v127, .bptr (BR.root 0) [.int .i64 v128, .int .i64 v129, .bslc (BR.root 1) (.f32 v130)], .bptr (BR.root 2) [.bslc (BR.root 3) (.i64 v131)]] : List DV).length) .undef) []).bind (retD TT Try.f110.results.toList 0) = (impl_OrderRows_1_T v126 v127 v129 v130 v131).bind fun y => .leaf (impl_OrderRows_1_enc v126 v127 v128 v129 v130 v131 y) := by kernel_rfl
theorem impl_OrderRows_1_fn (v126 : Int) (v127 : Int) (v128 : Int) (v129 : Int) (v130 : List Nat) (v131 : List Int) (F : Fr) (hm : F.ids.length = 0) (h0 : St F [] F.H0) (hA : DVs.Ok F [] [.int .i64 v126, .int .i64 v127, .bptr (BR.root 0) [.int .i64 v128, .int .i64 v129, .bslc (BR.root 1) (.f32 v130)], .bptr (BR.root 2) [.bslc (BR.root 3) (.i64 v131)]]) {y : Nat} (hy : impl_OrderRows_1_g v126 v127 v129 v130 v131 = some y) : ∃ H', FnOk Try.prog 110 (DVs.av F [.int .i64 v126, .int .i64 v127, .bptr (BR.root 0) [.int .i64 v128, .int .i64 v129, .bslc (BR.root 1) (.f32 v130)], .bptr (BR.root 2) [.bslc (BR.root 3) (.i64 v131)]]) F.H0 ((impl_OrderRows_1_enc v126 v127 v128 v129 v130 v131 y).1.av F) H' ∧ St F (impl_OrderRows_1_enc v126 v127 v128 v129 v130 v131 y).2 H' ∧ (impl_OrderRows_1_enc v126 v127 v128 v129 v130 v131 y).1.Ok F (impl_OrderRows_1_enc v126 v127 v128 v129 v130 v131 y).2 :=
  fn_fin tok impl_OrderRows_1_hO mixed Try.func110 Try.call110 (by kernel_rfl) (LoopsOk_eq (l := []) (by kernel_rfl) trivial) (impl_OrderRows_1_den v126 v127 v128 v129 v130 v131) hy hm h0 hA
noncomputable def impl_OrderRows_1_F : DFn := fun args L =>
  match args with
  | [.int .i64 v126, .int .i64 v127, a1, a3] =>
    optT (cellsOf L 3 a1) fun cs0 =>
    (match cs0 with
    | [.int .i64 v128, .int .i64 v129, a2] =>
    optT (rowF32 L a2) fun v130 =>
    optT (cellsOf L 1 a3) fun cs2 =>
    (match cs2 with
    | [a4] =>
    optT (rowI64 L a4) fun v131 =>
    .call (impl_OrderRows_1_g v126 v127 v129 v130 v131) fun y => .leaf (.flt .f32 y, L)
    | _ => .fail)
    | _ => .fail)
  | _ => .fail
theorem impl_OrderRows_1_Fok : COk Try.prog 110 impl_OrderRows_1_F true := by
  intro F L H args r L' hs ha hr
  unfold impl_OrderRows_1_F at hr
  split at hr
  · rename_i v126 v127 a1 a3
    obtain ⟨cs0, hcp0, hr⟩ := optT_run hr
    split at hr
    · rename_i v128 v129 a2
      obtain ⟨v130, hv130, hr⟩ := optT_run hr
      obtain ⟨cs2, hcp2, hr⟩ := optT_run hr
      split at hr
      · rename_i a4
        obtain ⟨v131, hv131, hr⟩ := optT_run hr
        simp only [Tree.run] at hr
        obtain ⟨y, hy, hr⟩ := Option.bind_eq_some_iff.1 hr
        simp only [Tree.run, Option.some.injEq, Prod.mk.injEq] at hr
        obtain ⟨rfl, rfl⟩ := hr
        exact call_ok0 hs (fun k => (([a1.av F, a2.av F, a3.av F, a4.av F] : List AV)[k]?).getD .top) [.int .i64 v126, .int .i64 v127, a1, a3] [.int .i64 v126, .int .i64 v127, .bptr (BR.root 0) [.int .i64 v128, .int .i64 v129, .bslc (BR.root 1) (.f32 v130)], .bptr (BR.root 2) [.bslc (BR.root 3) (.i64 v131)]] (fun F' h0 hi hρ => ⟨by simp [DVs.av, DV.av, BR.av, hρ], impl_OrderRows_1_fn v126 v127 v128 v129 v130 v131 F' (by rw [hi]; rfl) (st_nil hi) ⟨trivial, trivial, bptr_ok hi (by rw [h0]; simpa [DVs.av, DV.av, BR.av, hρ] using (cellsOf_ok hs (DVs.okAt ha 2 rfl) hcp0).1) ⟨trivial, trivial, bslc_ok hi (by rw [h0, hρ]; exact rowF32_ok hs (DVs.okAt (cellsOf_ok hs (DVs.okAt ha 2 rfl) hcp0).2 2 rfl) hv130), trivial⟩, bptr_ok hi (by rw [h0]; simpa [DVs.av, DV.av, BR.av, hρ] using (cellsOf_ok hs (DVs.okAt ha 3 rfl) hcp2).1) ⟨bslc_ok hi (by rw [h0, hρ]; exact rowI64_ok hs (DVs.okAt (cellsOf_ok hs (DVs.okAt ha 3 rfl) hcp2).2 0 rfl) hv131), trivial⟩, trivial⟩ hy⟩) rfl
      · cases hr
    · cases hr
  · cases hr
/-! (impl.Matrix).set -/
noncomputable def impl_Matrix_set_LO (v145 : Int) (v146 : Int) (v147 : List Nat) (v148 : Int) (v149 : Int) (v150 : Nat) : LOr := fun id e L =>
  match id with
  | _ => .fail
noncomputable def impl_Matrix_set_tab : List (FuncId × DFn × Bool) := []
theorem impl_Matrix_set_hO : OrcOk Try.prog (tabD impl_Matrix_set_tab) (tabM impl_Matrix_set_tab) := tabD_nil _
noncomputable def impl_Matrix_set_T (v146 : Int) (v147 : List Nat) (v148 : Int) (v149 : Int) : Tree (Unit) :=
  (.grd (inb (IntKind.i64.wrap ((IntKind.i64.wrap (v148 * v146)) + v149)) v147.length) <|
  .leaf ())

noncomputable def impl_Matrix_set_g (v146 : Int) (v147 : List Nat) (v148 : Int) (v149 : Int) : Option (Unit) := (impl_Matrix_set_T v146 v147 v148 v149).run
def impl_Matrix_set_enc (v145 : Int) (v146 : Int) (v147 : List Nat) (v148 : Int) (v149 : Int) (v150 : Nat) (y : Unit) : Rs := (.tup [], [.row (.f32 (List.set v147 (Int.toNat (IntKind.i64.wrap ((IntKind.i64.wrap (v148 * v146)) + v149))) v150)) 0])
theorem impl_Matrix_set_den (v145 : Int) (v146 : Int) (v147 : List Nat) (v148 : Int) (v149 : Int) (v150 : Nat) : (den TT (tabD impl_Matrix_set_tab) (tabM impl_Matrix_set_tab) (impl_Matrix_set_LO v145 v146 v147 v148 v149 v150) (codeOf Try.f142) ([.agg [.int .i64 v145, .int .i64 v146, .own 0 0 v147.length], .int .i64 v148, .int .i64 v149, .flt .f32 v150] ++ List.replicate (Try.f142.ntmps - ([.agg [.int .i64 v145, .int .i64 v146, .own 0 0 v147.length], .int .i64 v148, .int .i64 v149, .flt .f32 v150] : List DV).length) .undef) [.row (.f32 v147) 0]).bind (retD TT Try.f142.results.toList 1) = (impl_Matrix_set_T v146 v147 v148 v149).bind fun y => .leaf (impl_Matrix_set_enc v145 v146 v147 v148 v149 v150 y) := by kernel_rfl
theorem impl_Matrix_set_fn (v145 : Int) (v146 : Int) (v147 : List Nat) (v148 : Int) (v149 : Int) (v150 : Nat) (F : Fr) (hm : F.ids.length = 1) (h0 : St F [.row (.f32 v147) 0] F.H0) (hA : DVs.Ok F [.row (.f32 v147) 0] [.agg [.int .i64 v145, .int .i64 v146, .own 0 0 v147.length], .int .i64 v148, .int .i64 v149, .flt .f32 v150]) {y : Unit} (hy : impl_Matrix_set_g v146 v147 v148 v149 = some y) : ∃ H', FnOk Try.prog 142 (DVs.av F [.agg [.int .i64 v145, .int .i64 v146, .own 0 0 v147.length], .int .i64 v148, .int .i64 v149, .flt .f32 v150]) F.H0 ((impl_Matrix_set_enc v145 v146 v147 v148 v149 v150 y).1.av F) H' ∧ St F (impl_Matrix_set_enc v145 v146 v147 v148 v149 v150 y).2 H' ∧ (impl_Matrix_set_enc v145 v146 v147 v148 v149 v150 y).1.Ok F (impl_Matrix_set_enc v145 v146 v147 v148 v149 v150 y).2 :=
  fn_fin tok impl_Matrix_set_hO mixed Try.func142 Try.call142 (by kernel_rfl) (LoopsOk_eq (l := []) (by kernel_rfl) trivial) (impl_Matrix_set_den v145 v146 v147 v148 v149 v150) hy hm h0 hA
noncomputable def impl_Matrix_set_F : DFn := fun args L =>
  match args with
  | [.agg [.int .i64 v145, .int .i64 v146, a1], .int .i64 v148, .int .i64 v149, .flt .f32 v150] =>
    optT (ownF32 L a1) fun qv147 =>
    (match sepB [qv147.1] [] with
    | true =>
    .call (impl_Matrix_set_g v146 qv147.2 v148 v149) fun y => .grd (decide ((List.set qv147.2 (Int.toNat (IntKind.i64.wrap ((IntKind.i64.wrap (v148 * v146)) + v149))) v150).length = qv147.2.length)) (.leaf (.tup [], setRows L ([qv147.1].zip [.f32 (List.set qv147.2 (Int.toNat (IntKind.i64.wrap ((IntKind.i64.wrap (v148 * v146)) + v149))) v150)])))
    | false => .fail)
  | _ => .fail
theorem impl_Matrix_set_Fok : COk Try.prog 142 impl_Matrix_set_F false := by
  intro F L H args r L' hs ha hr
  unfold impl_Matrix_set_F at hr
  split at hr
  · rename_i v145 v146 a1 v148 v149 v150
    obtain ⟨⟨jv147, v147⟩, hqv147, hr⟩ := optT_run hr
    simp only at hr
    split at hr
    · rename_i hsep
      obtain ⟨hnd, hsepv⟩ := sepB_spec hsep
      simp only [Tree.run] at hr
      obtain ⟨y, hy, hr⟩ := Option.bind_eq_some_iff.1 hr
      try simp only [Tree.run] at hr
      obtain ⟨hl0, hr⟩ := ite_run hr
      simp only [Option.some.injEq, Prod.mk.injEq] at hr
      obtain ⟨rfl, rfl⟩ := hr
      obtain ⟨hr0, hu0, ha0, hb0⟩ := (ownR_spec (DVs.okAt (DVs.okAt ha 0 rfl) 2 rfl) (ownF32_or hqv147))
      exact mut_ok hs (fun k => (([a1.av F] : List AV)[k]?).getD .top) [.agg [.int .i64 v145, .int .i64 v146, a1], .int .i64 v148, .int .i64 v149, .flt .f32 v150] [.agg [.int .i64 v145, .int .i64 v146, .own 0 0 v147.length], .int .i64 v148, .int .i64 v149, .flt .f32 v150] [jv147] [.f32 v147] [.f32 (List.set v147 (Int.toNat (IntKind.i64.wrap ((IntKind.i64.wrap (v148 * v146)) + v149))) v150)] hnd rfl rfl (fun i j q h1 h2 => by
          rcases i with _ | i
          · simp at h1 h2; subst h1; subst h2; exact hr0
          · simp at h1) (fun i q q' h1 h2 => by
          rcases i with _ | i
          · simp at h1 h2; subst h1; subst h2; exact of_decide_eq_true hl0
          · simp at h1) (fun j hj => by simp at hj; subst hj; simp [DVs.refs, DV.refs, hu0]) (fun F' h0 hi hρ hst hS => ⟨by (have ab0 : F'.abs 0 = F.abs jv147 := (by simp [Fr.abs, hi]); simp [DVs.av, DV.av, BR.av, hρ, Row.len, ha0, ab0]), by
          obtain ⟨H1, k1, k2, _⟩ := impl_Matrix_set_fn v145 v146 v147 v148 v149 v150 F' (by rw [hi]; rfl) hst ⟨⟨trivial, trivial, ⟨_, rfl, Nat.le_refl _, Nat.le_refl _, fun _ => rfl, (ownR_spec (DVs.okAt (DVs.okAt ha 0 rfl) 2 rfl) (ownF32_or hqv147)).2.2.2⟩, trivial⟩, trivial, trivial, trivial, trivial⟩ hy
          exact ⟨H1, k1, k2⟩⟩) (fun F' => rfl) (fun L' => trivial)
    · cases hr
  · cases hr
/-! impl.made -/
noncomputable def impl_made_l2_T (v111 : Int) (v113 : Int) (v114 : List Nat) (v115 : List Int) (v211 : Int) (v213 : Int) (v214 : Int) (s : Int × (List Nat)) : Tree ((Int × (List Nat)) ⊕ ((List Nat))) :=
  (.br (decide (s.1 < v111)) (
   (.call (impl_OrderRows_1_g v211 s.1 v113 v114 v115) fun v216 =>
   (.call (impl_Matrix_set_g v214 s.2 v211 s.1) fun v217 =>
   (.grd (decide ((List.set s.2 (Int.toNat (IntKind.i64.wrap ((IntKind.i64.wrap (v211 * v214)) + s.1))) v216).length = s.2.length)) <|
   .leaf (.inl (IntKind.i64.wrap (s.1 + (1 : Int)), List.set s.2 (Int.toNat (IntKind.i64.wrap ((IntKind.i64.wrap (v211 * v214)) + s.1))) v216)))))
  ) (
   .leaf (.inr s.2)
  ))

noncomputable def impl_made_l2_g (v111 : Int) (v113 : Int) (v114 : List Nat) (v115 : List Int) (v211 : Int) (v213 : Int) (v214 : Int) (s0 : Int × (List Nat)) : Option ((List Nat)) := whileM (fun s => (impl_made_l2_T v111 v113 v114 v115 v211 v213 v214 s).run) s0
def impl_made_l2_E (v110 : Int) (v111 : Int) (v112 : Int) (v113 : Int) (v114 : List Nat) (v115 : List Int) (v211 : Int) (v213 : Int) (v214 : Int) (s : Int × (List Nat)) : Sd := ([.top, .int .i64 v111, .fn 110 [.bptr (BR.root 0) [.int .i64 v112, .int .i64 v113, .bslc (BR.root 1) (.f32 v114)], .bptr (BR.root 2) [.bslc (BR.root 3) (.i64 v115)]], .top, .top, .top, .ptr 0 (0 : Nat) 0 (3 : Nat), .ptr 1 (0 : Nat) 0 (3 : Nat), .int .i64 v211, .top, .top, .top, .top, .int .i64 v110, .int .i64 v211, .top, .top, .int .i64 v111, .int .i64 s.1, .top, .top, .top, .top, .top, .top, .top, .top, .top, .top, .top, .top, .top], [.gen [.int .i64 (0 : Int), .int .i64 (0 : Int), .nilslc] false 0, .gen [.int .i64 v213, .int .i64 v214, .own 2 0 ((s.2).length)] false 0, .row (.f32 s.2) 0])
def impl_made_l2_X (v110 : Int) (v111 : Int) (v112 : Int) (v113 : Int) (v114 : List Nat) (v115 : List Int) (v211 : Int) (v213 : Int) (v214 : Int) (x : (List Nat)) : Out := (.normal, [.top, .int .i64 v111, .fn 110 [.bptr (BR.root 0) [.int .i64 v112, .int .i64 v113, .bslc (BR.root 1) (.f32 v114)], .bptr (BR.root 2) [.bslc (BR.root 3) (.i64 v115)]], .top, .top, .top, .ptr 0 (0 : Nat) 0 (3 : Nat), .ptr 1 (0 : Nat) 0 (3 : Nat), .top, .top, .top, .top, .top, .int .i64 v110, .int .i64 v211, .top, .top, .top, .top, .top, .top, .top, .top, .top, .top, .top, .top, .top, .top, .top, .top, .top], [.gen [.int .i64 (0 : Int), .int .i64 (0 : Int), .nilslc] false 0, .gen [.int .i64 v213, .int .i64 v214, .own 2 0 ((x).length)] false 0, .row (.f32 x) 0])
def impl_made_l2_kill : List Nat := [1, 0, 0, 1, 1, 1, 0, 0, 0, 1, 1, 1, 1, 0, 0, 1, 1, 0, 0, 1, 1, 1, 1, 1, 1, 1, 1, 1, 1, 1, 1, 1]
def impl_made_l2_nx : Exit → List Nat
  | .exit 0 => [1, 1, 1, 1, 1, 1, 0, 0, 1, 1, 1, 1, 1, 1, 1, 1, 1, 1, 1, 1, 1, 1, 1, 1, 1, 1, 1, 1, 1, 1, 1, 1]
  | .exit 1 => [1, 0, 0, 1, 1, 1, 0, 0, 1, 1, 1, 1, 1, 0, 0, 1, 1, 1, 1, 1, 1, 1, 1, 1, 1, 1, 1, 1, 1, 1, 1, 1]
  | .exit 2 => [1, 0, 0, 1, 1, 1, 0, 0, 1, 1, 1, 1, 1, 0, 0, 1, 1, 1, 1, 1, 1, 1, 1, 1, 1, 1, 1, 1, 1, 1, 1, 1]
  | .ret => [1, 1, 1, 1, 1, 1, 0, 1, 1, 1, 1, 1, 1, 1, 1, 1, 1, 1, 1, 1, 1, 1, 1, 1, 1, 1, 1, 1, 1, 1, 1, 1]
  | _ => []
noncomputable def impl_made_l0_T (v110 : Int) (v111 : Int) (v112 : Int) (v113 : Int) (v114 : List Nat) (v115 : List Int) (v194 : Int) (v195 : Int) (s : Int × (List Nat)) : Tree ((Int × (List Nat)) ⊕ ((List Nat))) :=
  (.br (decide (s.1 < v110)) (
   (.need (some (impl_made_l2_E v110 v111 v112 v113 v114 v115 s.1 v194 v195 ((0 : Int), s.2)) = some (impl_made_l2_E v110 v111 v112 v113 v114 v115 s.1 v194 v195 ((0 : Int), s.2))) <|
   (.call (impl_made_l2_g v111 v113 v114 v115 s.1 v194 v195 ((0 : Int), s.2)) fun v218 =>
   .leaf (.inl (IntKind.i64.wrap (s.1 + (1 : Int)), v218))))
  ) (
   .leaf (.inr s.2)
  ))

noncomputable def impl_made_l0_g (v110 : Int) (v111 : Int) (v112 : Int) (v113 : Int) (v114 : List Nat) (v115 : List Int) (v194 : Int) (v195 : Int) (s0 : Int × (List Nat)) : Option ((List Nat)) := whileM (fun s => (impl_made_l0_T v110 v111 v112 v113 v114 v115 v194 v195 s).run) s0
def impl_made_l0_E (v110 : Int) (v111 : Int) (v112 : Int) (v113 : Int) (v114 : List Nat) (v115 : List Int) (v194 : Int) (v195 : Int) (s : Int × (List Nat)) : Sd := ([.top, .int .i64 v111, .fn 110 [.bptr (BR.root 0) [.int .i64 v112, .int .i64 v113, .bslc (BR.root 1) (.f32 v114)], .bptr (BR.root 2) [.bslc (BR.root 3) (.i64 v115)]], .top, .top, .top, .ptr 0 (0 : Nat) 0 (3 : Nat), .ptr 1 (0 : Nat) 0 (3 : Nat), .top, .top, .top, .top, .top, .int .i64 v110, .int .i64 s.1, .top, .top, .top, .top, .top, .top, .top, .top, .top, .top, .top, .top, .top, .top, .top, .top, .top], [.gen [.int .i64 (0 : Int), .int .i64 (0 : Int), .nilslc] false 0, .gen [.int .i64 v194, .int .i64 v195, .own 2 0 ((s.2).length)] false 0, .row (.f32 s.2) 0])
def impl_made_l0_X (v110 : Int) (v111 : Int) (v112 : Int) (v113 : Int) (v114 : List Nat) (v115 : List Int) (v194 : Int) (v195 : Int) (x : (List Nat)) : Out := (.normal, [.top, .top, .top, .top, .top, .top, .ptr 0 (0 : Nat) 0 (3 : Nat), .ptr 1 (0 : Nat) 0 (3 : Nat), .top, .top, .top, .top, .top, .top, .top, .top, .top, .top, .top, .top, .top, .top, .top, .top, .top, .top, .top, .top, .top, .top, .top, .top], [.gen [.int .i64 (0 : Int), .int .i64 (0 : Int), .nilslc] false 0, .gen [.int .i64 v194, .int .i64 v195, .own 2 0 ((x).length)] false 0, .row (.f32 x) 0])
def impl_made_l0_kill : List Nat := [1, 0, 0, 1, 1, 1, 0, 0, 1, 1, 1, 1, 1, 0, 0, 1, 1, 1, 1, 1, 1, 1, 1, 1, 1, 1, 1, 1, 1, 1, 1, 1]
def impl_made_l0_nx : Exit → List Nat
  | .exit 0 => [1, 1, 1, 1, 1, 1, 0, 0, 1, 1, 1, 1, 1, 1, 1, 1, 1, 1, 1, 1, 1, 1, 1, 1, 1, 1, 1, 1, 1, 1, 1, 1]
  | .ret => [1, 1, 1, 1, 1, 1, 0, 1, 1, 1, 1, 1, 1, 1, 1, 1, 1, 1, 1, 1, 1, 1, 1, 1, 1, 1, 1, 1, 1, 1, 1, 1]
  | _ => []
noncomputable def impl_made_LO (v110 : Int) (v111 : Int) (v112 : Int) (v113 : Int) (v114 : List Nat) (v115 : List Int) : LOr := fun id e L =>
  match id with
  | 2 => .need (normA 0 impl_made_l2_kill e L = some (impl_made_l2_E v110 v111 v112 v113 v114 v115 (gI (vAt e 8)) (gI (cAt L (vAt e 7) 0)) (gI (cAt L (vAt e 7) 1)) ((gI (vAt e 18)), (gRF L (cAt L (vAt e 7) 2))))) (.call (impl_made_l2_g v111 v113 v114 v115 (gI (vAt e 8)) (gI (cAt L (vAt e 7) 0)) (gI (cAt L (vAt e 7) 1)) ((gI (vAt e 18)), (gRF L (cAt L (vAt e 7) 2)))) fun x => .leaf (impl_made_l2_X v110 v111 v112 v113 v114 v115 (gI (vAt e 8)) (gI (cAt L (vAt e 7) 0)) (gI (cAt L (vAt e 7) 1)) x))
  | 0 => .need (normA 0 impl_made_l0_kill e L = some (impl_made_l0_E v110 v111 v112 v113 v114 v115 (gI (cAt L (vAt e 7) 0)) (gI (cAt L (vAt e 7) 1)) ((gI (vAt e 14)), (gRF L (cAt L (vAt e 7) 2))))) (.call (impl_made_l0_g v110 v111 v112 v113 v114 v115 (gI (cAt L (vAt e 7) 0)) (gI (cAt L (vAt e 7) 1)) ((gI (vAt e 14)), (gRF L (cAt L (vAt e 7) 2)))) fun x => .leaf (impl_made_l0_X v110 v111 v112 v113 v114 v115 (gI (cAt L (vAt e 7) 0)) (gI (cAt L (vAt e 7) 1)) x))
  | _ => .fail
noncomputable def impl_made_tab : List (FuncId × DFn × Bool) := [(125, impl_newMatrix_F, true), (110, impl_OrderRows_1_F, true), (142, impl_Matrix_set_F, false)]
theorem impl_made_hO : OrcOk Try.prog (tabD impl_made_tab) (tabM impl_made_tab) := tabD_cons impl_newMatrix_Fok (tabD_cons impl_OrderRows_1_Fok (tabD_cons impl_Matrix_set_Fok (tabD_nil _)))
theorem impl_made_l2_be (v110 : Int) (v111 : Int) (v112 : Int) (v113 : Int) (v114 : List Nat) (v115 : List Int) (v211 : Int) (v213 : Int) (v214 : Int) (s : Int × (List Nat)) : bodyT TT (tabD impl_made_tab) (tabM impl_made_tab) (impl_made_LO v110 v111 v112 v113 v114 v115) 0 impl_made_l2_kill impl_made_l2_nx (bodyOf Try.f91 2) 2 (impl_made_l2_E v110 v111 v112 v113 v114 v115 v211 v213 v214 s) = (impl_made_l2_T v111 v113 v114 v115 v211 v213 v214 s).bind fun y => .leaf (outS (impl_made_l2_E v110 v111 v112 v113 v114 v115 v211 v213 v214) (impl_made_l2_X v110 v111 v112 v113 v114 v115 v211 v213 v214) y) := by kernel_rfl
theorem impl_made_l2_ok (v110 : Int) (v111 : Int) (v112 : Int) (v113 : Int) (v114 : List Nat) (v115 : List Int) : LSound Try.prog 0 (impl_made_LO v110 v111 v112 v113 v114 v115) 2 (bodyOf Try.f91 2) := by
  intro e L out h
  exact lo_ok (E := impl_made_l2_E v110 v111 v112 v113 v114 v115 (gI (vAt e 8)) (gI (cAt L (vAt e 7) 0)) (gI (cAt L (vAt e 7) 1))) (gT := impl_made_l2_T v111 v113 v114 v115 (gI (vAt e 8)) (gI (cAt L (vAt e 7) 0)) (gI (cAt L (vAt e 7) 1))) (X := impl_made_l2_X v110 v111 v112 v113 v114 v115 (gI (vAt e 8)) (gI (cAt L (vAt e 7) 0)) (gI (cAt L (vAt e 7) 1))) (s0 := ((gI (vAt e 18)), (gRF L (cAt L (vAt e 7) 2)))) tok impl_made_hO mixed (LoopsOk_eq (l := []) (by kernel_rfl) trivial) (impl_made_l2_be v110 v111 v112 v113 v114 v115 (gI (vAt e 8)) (gI (cAt L (vAt e 7) 0)) (gI (cAt L (vAt e 7) 1))) rfl (by intro x; rfl) h
theorem impl_made_l0_be (v110 : Int) (v111 : Int) (v112 : Int) (v113 : Int) (v114 : List Nat) (v115 : List Int) (v194 : Int) (v195 : Int) (s : Int × (List Nat)) : bodyT TT (tabD impl_made_tab) (tabM impl_made_tab) (impl_made_LO v110 v111 v112 v113 v114 v115) 0 impl_made_l0_kill impl_made_l0_nx (bodyOf Try.f91 0) 0 (impl_made_l0_E v110 v111 v112 v113 v114 v115 v194 v195 s) = (impl_made_l0_T v110 v111 v112 v113 v114 v115 v194 v195 s).bind fun y => .leaf (outS (impl_made_l0_E v110 v111 v112 v113 v114 v115 v194 v195) (impl_made_l0_X v110 v111 v112 v113 v114 v115 v194 v195) y) := by kernel_rfl
theorem impl_made_l0_ok (v110 : Int) (v111 : Int) (v112 : Int) (v113 : Int) (v114 : List Nat) (v115 : List Int) : LSound Try.prog 0 (impl_made_LO v110 v111 v112 v113 v114 v115) 0 (bodyOf Try.f91 0) := by
  intro e L out h
  exact lo_ok (E := impl_made_l0_E v110 v111 v112 v113 v114 v115 (gI (cAt L (vAt e 7) 0)) (gI (cAt L (vAt e 7) 1))) (gT := impl_made_l0_T v110 v111 v112 v113 v114 v115 (gI (cAt L (vAt e 7) 0)) (gI (cAt L (vAt e 7) 1))) (X := impl_made_l0_X v110 v111 v112 v113 v114 v115 (gI (cAt L (vAt e 7) 0)) (gI (cAt L (vAt e 7) 1))) (s0 := ((gI (vAt e 14)), (gRF L (cAt L (vAt e 7) 2)))) tok impl_made_hO mixed (LoopsOk_eq (l := [(2, bodyOf Try.f91 2)]) (by kernel_rfl) ⟨impl_made_l2_ok v110 v111 v112 v113 v114 v115, trivial⟩) (impl_made_l0_be v110 v111 v112 v113 v114 v115 (gI (cAt L (vAt e 7) 0)) (gI (cAt L (vAt e 7) 1))) rfl (by intro x; rfl) h
noncomputable def impl_made_T (v110 : Int) (v111 : Int) (v112 : Int) (v113 : Int) (v114 : List Nat) (v115 : List Int) : Tree (Int × Int × (List Nat)) :=
  (.call (impl_newMatrix_g v110 v111) fun v118 =>
  (.need (some (impl_made_l0_E v110 v111 v112 v113 v114 v115 v118.1 v118.2 ((0 : Int), List.replicate (Int.toNat (IntKind.i64.wrap (v110 * v111))) (0 : Nat))) = some (impl_made_l0_E v110 v111 v112 v113 v114 v115 v118.1 v118.2 ((0 : Int), List.replicate (Int.toNat (IntKind.i64.wrap (v110 * v111))) (0 : Nat)))) <|
  (.call (impl_made_l0_g v110 v111 v112 v113 v114 v115 v118.1 v118.2 ((0 : Int), List.replicate (Int.toNat (IntKind.i64.wrap (v110 * v111))) (0 : Nat))) fun v219 =>
  .leaf (v118.1, v118.2, v219))))

noncomputable def impl_made_g (v110 : Int) (v111 : Int) (v112 : Int) (v113 : Int) (v114 : List Nat) (v115 : List Int) : Option (Int × Int × (List Nat)) := (impl_made_T v110 v111 v112 v113 v114 v115).run
def impl_made_enc (v110 : Int) (v111 : Int) (v112 : Int) (v113 : Int) (v114 : List Nat) (v115 : List Int) (y : Int × Int × (List Nat)) : Rs := (.agg [.int .i64 y.1, .int .i64 y.2.1, .own 0 0 ((y.2.2).length)], [.row (.f32 y.2.2) 0])
theorem impl_made_den (v110 : Int) (v111 : Int) (v112 : Int) (v113 : Int) (v114 : List Nat) (v115 : List Int) : (den TT (tabD impl_made_tab) (tabM impl_made_tab) (impl_made_LO v110 v111 v112 v113 v114 v115) (codeOf Try.f91) ([.int .i64 v110, .int .i64 v111, .fn 110 [.bptr (BR.root 0) [.int .i64 v112, .int .i64 v113, .bslc (BR.root 1) (.f32 v114)], .bptr (BR.root 2) [.bslc (BR.root 3) (.i64 v115)]]] ++ List.replicate (Try.f91.ntmps - ([.int .i64 v110, .int .i64 v111, .fn 110 [.bptr (BR.root 0) [.int .i64 v112, .int .i64 v113, .bslc (BR.root 1) (.f32 v114)], .bptr (BR.root 2) [.bslc (BR.root 3) (.i64 v115)]]] : List DV).length) .undef) []).bind (retD TT Try.f91.results.toList 0) = (impl_made_T v110 v111 v112 v113 v114 v115).bind fun y => .leaf (impl_made_enc v110 v111 v112 v113 v114 v115 y) := by kernel_rfl
theorem impl_made_fn (v110 : Int) (v111 : Int) (v112 : Int) (v113 : Int) (v114 : List Nat) (v115 : List Int) (F : Fr) (hm : F.ids.length = 0) (h0 : St F [] F.H0) (hA : DVs.Ok F [] [.int .i64 v110, .int .i64 v111, .fn 110 [.bptr (BR.root 0) [.int .i64 v112, .int .i64 v113, .bslc (BR.root 1) (.f32 v114)], .bptr (BR.root 2) [.bslc (BR.root 3) (.i64 v115)]]]) {y : Int × Int × (List Nat)} (hy : impl_made_g v110 v111 v112 v113 v114 v115 = some y) : ∃ H', FnOk Try.prog 91 (DVs.av F [.int .i64 v110, .int .i64 v111, .fn 110 [.bptr (BR.root 0) [.int .i64 v112, .int .i64 v113, .bslc (BR.root 1) (.f32 v114)], .bptr (BR.root 2) [.bslc (BR.root 3) (.i64 v115)]]]) F.H0 ((impl_made_enc v110 v111 v112 v113 v114 v115 y).1.av F) H' ∧ St F (impl_made_enc v110 v111 v112 v113 v114 v115 y).2 H' ∧ (impl_made_enc v110 v111 v112 v113 v114 v115 y).1.Ok F (impl_made_enc v110 v111 v112 v113 v114 v115 y).2 :=
  fn_fin tok impl_made_hO mixed Try.func91 Try.call91 (by kernel_rfl) (LoopsOk_eq (l := [(0, bodyOf Try.f91 0)]) (by kernel_rfl) ⟨impl_made_l0_ok v110 v111 v112 v113 v114 v115, trivial⟩) (impl_made_den v110 v111 v112 v113 v114 v115) hy hm h0 hA
noncomputable def impl_made_F : DFn := fun args L =>
  match args with
  | [.int .i64 v110, .int .i64 v111, .fn 110 [a1, a3]] =>
    optT (cellsOf L 3 a1) fun cs0 =>
    (match cs0 with
    | [.int .i64 v112, .int .i64 v113, a2] =>
    optT (rowF32 L a2) fun v114 =>
    optT (cellsOf L 1 a3) fun cs2 =>
    (match cs2 with
    | [a4] =>
    optT (rowI64 L a4) fun v115 =>
    .call (impl_made_g v110 v111 v112 v113 v114 v115) fun y => .leaf (.agg [.int .i64 y.1, .int .i64 y.2.1, .own (L.length + 0) 0 ((y.2.2).length)], L ++ [.row (.f32 y.2.2) 0])
    | _ => .fail)
    | _ => .fail)
  | _ => .fail
theorem impl_made_Fok : COk Try.prog 91 impl_made_F true := by
  intro F L H args r L' hs ha hr
  unfold impl_made_F at hr
  split at hr
  · rename_i v110 v111 a1 a3
    obtain ⟨cs0, hcp0, hr⟩ := optT_run hr
    split at hr
    · rename_i v112 v113 a2
      obtain ⟨v114, hv114, hr⟩ := optT_run hr
      obtain ⟨cs2, hcp2, hr⟩ := optT_run hr
      split at hr
      · rename_i a4
        obtain ⟨v115, hv115, hr⟩ := optT_run hr
        simp only [Tree.run] at hr
        obtain ⟨y, hy, hr⟩ := Option.bind_eq_some_iff.1 hr
        simp only [Tree.run, Option.some.injEq, Prod.mk.injEq] at hr
        obtain ⟨rfl, rfl⟩ := hr
        exact call_ok1 hs (fun k => (([a1.av F, a2.av F, a3.av F, a4.av F] : List AV)[k]?).getD .top) [.int .i64 v110, .int .i64 v111, .fn 110 [a1, a3]] [.int .i64 v110, .int .i64 v111, .fn 110 [.bptr (BR.root 0) [.int .i64 v112, .int .i64 v113, .bslc (BR.root 1) (.f32 v114)], .bptr (BR.root 2) [.bslc (BR.root 3) (.i64 v115)]]] (fun F' h0 hi hρ => ⟨by simp [DVs.av, DV.av, BR.av, hρ], impl_made_fn v110 v111 v112 v113 v114 v115 F' (by rw [hi]; rfl) (st_nil hi) ⟨trivial, trivial, ⟨bptr_ok hi (by rw [h0]; simpa [DVs.av, DV.av, BR.av, hρ] using (cellsOf_ok hs (DVs.okAt (DVs.okAt ha 2 rfl) 0 rfl) hcp0).1) ⟨trivial, trivial, bslc_ok hi (by rw [h0, hρ]; exact rowF32_ok hs (DVs.okAt (cellsOf_ok hs (DVs.okAt (DVs.okAt ha 2 rfl) 0 rfl) hcp0).2 2 rfl) hv114), trivial⟩, bptr_ok hi (by rw [h0]; simpa [DVs.av, DV.av, BR.av, hρ] using (cellsOf_ok hs (DVs.okAt (DVs.okAt ha 2 rfl) 1 rfl) hcp2).1) ⟨bslc_ok hi (by rw [h0, hρ]; exact rowI64_ok hs (DVs.okAt (cellsOf_ok hs (DVs.okAt (DVs.okAt ha 2 rfl) 1 rfl) hcp2).2 0 rfl) hv115), trivial⟩, trivial⟩, trivial⟩ hy⟩) rfl rfl
      · cases hr
    · cases hr
  · cases hr
/-! impl.OrderRows -/
noncomputable def impl_OrderRows_LO (v76 : Int) (v77 : Int) (v78 : List Nat) (v79 : List Int) : LOr := fun id e L =>
  match id with
  | _ => .fail
noncomputable def impl_OrderRows_tab : List (FuncId × DFn × Bool) := [(98, impl_ValidMatrix_F, true), (108, impl_IsOrder_F, true), (109, impl_lengthI_F, true), (91, impl_made_F, true)]
theorem impl_OrderRows_hO : OrcOk Try.prog (tabD impl_OrderRows_tab) (tabM impl_OrderRows_tab) := tabD_cons impl_ValidMatrix_Fok (tabD_cons impl_IsOrder_Fok (tabD_cons impl_lengthI_Fok (tabD_cons impl_made_Fok (tabD_nil _))))
noncomputable def impl_OrderRows_T (v76 : Int) (v77 : Int) (v78 : List Nat) (v79 : List Int) : Tree ((Unit) ⊕ (Int × Int × (List Nat))) :=
  (.call (impl_ValidMatrix_g v76 v77 v78) fun v106 =>
  (.br (!v106) (
   .leaf (.inl ())
  ) (
   (.call (impl_IsOrder_g v79) fun v109 =>
   (.br (!v109) (
    .leaf (.inl ())
   ) (
    (.br (!decide ((impl_lengthI_v v79) = v76)) (
     .leaf (.inl ())
    ) (
     (.call (impl_made_g v76 v77 v76 v77 v78 v79) fun v220 =>
     .leaf (.inr (v220.1, v220.2.1, v220.2.2)))
    ))
   )))
  )))

noncomputable def impl_OrderRows_g (v76 : Int) (v77 : Int) (v78 : List Nat) (v79 : List Int) : Option ((Unit) ⊕ (Int × Int × (List Nat))) := (impl_OrderRows_T v76 v77 v78 v79).run
def impl_OrderRows_enc (v76 : Int) (v77 : Int) (v78 : List Nat) (v79 : List Int) (y : (Unit) ⊕ (Int × Int × (List Nat))) : Rs := (match y with | .inl y => (.tup [.agg [.int .i64 (0 : Int), .int .i64 (0 : Int), .nilslc], .lit false], []) | .inr y => (.tup [.agg [.int .i64 y.1, .int .i64 y.2.1, .own 0 0 ((y.2.2).length)], .lit true], [.row (.f32 y.2.2) 0]))
theorem impl_OrderRows_den (v76 : Int) (v77 : Int) (v78 : List Nat) (v79 : List Int) : (den TT (tabD impl_OrderRows_tab) (tabM impl_OrderRows_tab) (impl_OrderRows_LO v76 v77 v78 v79) (codeOf Try.f43) ([.agg [.int .i64 v76, .int .i64 v77, .bslc (BR.root 0) (.f32 v78)], .bslc (BR.root 1) (.i64 v79)] ++ List.replicate (Try.f43.ntmps - ([.agg [.int .i64 v76, .int .i64 v77, .bslc (BR.root 0) (.f32 v78)], .bslc (BR.root 1) (.i64 v79)] : List DV).length) .undef) []).bind (retD TT Try.f43.results.toList 0) = (impl_OrderRows_T v76 v77 v78 v79).bind fun y => .leaf (impl_OrderRows_enc v76 v77 v78 v79 y) := by kernel_rfl
theorem impl_OrderRows_fn (v76 : Int) (v77 : Int) (v78 : List Nat) (v79 : List Int) (F : Fr) (hm : F.ids.length = 0) (h0 : St F [] F.H0) (hA : DVs.Ok F [] [.agg [.int .i64 v76, .int .i64 v77, .bslc (BR.root 0) (.f32 v78)], .bslc (BR.root 1) (.i64 v79)]) {y : (Unit) ⊕ (Int × Int × (List Nat))} (hy : impl_OrderRows_g v76 v77 v78 v79 = some y) : ∃ H', FnOk Try.prog 43 (DVs.av F [.agg [.int .i64 v76, .int .i64 v77, .bslc (BR.root 0) (.f32 v78)], .bslc (BR.root 1) (.i64 v79)]) F.H0 ((impl_OrderRows_enc v76 v77 v78 v79 y).1.av F) H' ∧ St F (impl_OrderRows_enc v76 v77 v78 v79 y).2 H' ∧ (impl_OrderRows_enc v76 v77 v78 v79 y).1.Ok F (impl_OrderRows_enc v76 v77 v78 v79 y).2 :=
  fn_fin tok impl_OrderRows_hO mixed Try.func43 Try.call43 (by kernel_rfl) (LoopsOk_eq (l := []) (by kernel_rfl) trivial) (impl_OrderRows_den v76 v77 v78 v79) hy hm h0 hA
noncomputable def impl_OrderRows_F : DFn := fun args L =>
  match args with
  | [.agg [.int .i64 v76, .int .i64 v77, a1], a2] =>
    optT (rowF32 L a1) fun v78 =>
    optT (rowI64 L a2) fun v79 =>
    .call (impl_OrderRows_g v76 v77 v78 v79) fun y => .sum y (fun y0 => .leaf (.tup [.agg [.int .i64 (0 : Int), .int .i64 (0 : Int), .nilslc], .lit false], L)) (fun z0 => .leaf (.tup [.agg [.int .i64 z0.1, .int .i64 z0.2.1, .own (L.length + 0) 0 ((z0.2.2).length)], .lit true], L ++ [.row (.f32 z0.2.2) 0]))
  | _ => .fail
theorem impl_OrderRows_Fok : COk Try.prog 43 impl_OrderRows_F true := by
  intro F L H args r L' hs ha hr
  unfold impl_OrderRows_F at hr
  split at hr
  · rename_i v76 v77 a1 a2
    obtain ⟨v78, hv78, hr⟩ := optT_run hr
    obtain ⟨v79, hv79, hr⟩ := optT_run hr
    simp only [Tree.run] at hr
    obtain ⟨y, hy, hr⟩ := Option.bind_eq_some_iff.1 hr
    cases y with
    | inl y =>
      simp only [Tree.run, Option.some.injEq, Prod.mk.injEq] at hr
      obtain ⟨rfl, rfl⟩ := hr
      exact call_ok0 hs (fun k => (([a1.av F, a2.av F] : List AV)[k]?).getD .top) [.agg [.int .i64 v76, .int .i64 v77, a1], a2] [.agg [.int .i64 v76, .int .i64 v77, .bslc (BR.root 0) (.f32 v78)], .bslc (BR.root 1) (.i64 v79)] (fun F' h0 hi hρ => ⟨by simp [DVs.av, DV.av, BR.av, hρ], impl_OrderRows_fn v76 v77 v78 v79 F' (by rw [hi]; rfl) (st_nil hi) ⟨⟨trivial, trivial, bslc_ok hi (by rw [h0, hρ]; exact rowF32_ok hs (DVs.okAt (DVs.okAt ha 0 rfl) 2 rfl) hv78), trivial⟩, bslc_ok hi (by rw [h0, hρ]; exact rowI64_ok hs (DVs.okAt ha 1 rfl) hv79), trivial⟩ hy⟩) rfl
    | inr y =>
      simp only [Tree.run, Option.some.injEq, Prod.mk.injEq] at hr
      obtain ⟨rfl, rfl⟩ := hr
      exact call_ok1 hs (fun k => (([a1.av F, a2.av F] : List AV)[k]?).getD .top) [.agg [.int .i64 v76, .int .i64 v77, a1], a2] [.agg [.int .i64 v76, .int .i64 v77, .bslc (BR.root 0) (.f32 v78)], .bslc (BR.root 1) (.i64 v79)] (fun F' h0 hi hρ => ⟨by simp [DVs.av, DV.av, BR.av, hρ], impl_OrderRows_fn v76 v77 v78 v79 F' (by rw [hi]; rfl) (st_nil hi) ⟨⟨trivial, trivial, bslc_ok hi (by rw [h0, hρ]; exact rowF32_ok hs (DVs.okAt (DVs.okAt ha 0 rfl) 2 rfl) hv78), trivial⟩, bslc_ok hi (by rw [h0, hρ]; exact rowI64_ok hs (DVs.okAt ha 1 rfl) hv79), trivial⟩ hy⟩) rfl rfl
  · cases hr
/-! laws.sameFloat -/
noncomputable def laws_sameFloat_LO (v233 : Nat) (v234 : Nat) : LOr := fun id e L =>
  match id with
  | _ => .fail
noncomputable def laws_sameFloat_tab : List (FuncId × DFn × Bool) := []
theorem laws_sameFloat_hO : OrcOk Try.prog (tabD laws_sameFloat_tab) (tabM laws_sameFloat_tab) := tabD_nil _
noncomputable def laws_sameFloat_T (v233 : Nat) (v234 : Nat) : Tree (Bool) :=
  (.br (!feq .f64 v233 v233) (
   (.br (!feq .f64 v233 v233) (
    .leaf (!feq .f64 v234 v234)
   ) (
    .leaf false
   ))
  ) (
   (.br (!feq .f64 v234 v234) (
    (.br (!feq .f64 v233 v233) (
     .leaf (!feq .f64 v234 v234)
    ) (
     .leaf false
    ))
   ) (
    (.br (feq .f64 v233 (0 : Nat)) (
     (.br (feq .f64 v234 (0 : Nat)) (
      .leaf ((fgrt .f64 (fdiv .f64 (4607182418800017408 : Nat) v233) (0 : Nat)) == (fgrt .f64 (fdiv .f64 (4607182418800017408 : Nat) v234) (0 : Nat)))
     ) (
      .leaf (feq .f64 v233 v234)
     ))
    ) (
     .leaf (feq .f64 v233 v234)
    ))
   ))
  ))

noncomputable def laws_sameFloat_g (v233 : Nat) (v234 : Nat) : Option (Bool) := (laws_sameFloat_T v233 v234).run
def laws_sameFloat_enc (v233 : Nat) (v234 : Nat) (y : Bool) : Rs := (.bool y, [])
theorem laws_sameFloat_den (v233 : Nat) (v234 : Nat) : (den TT (tabD laws_sameFloat_tab) (tabM laws_sameFloat_tab) (laws_sameFloat_LO v233 v234) (codeOf Try.f53) ([.flt .f64 v233, .flt .f64 v234] ++ List.replicate (Try.f53.ntmps - ([.flt .f64 v233, .flt .f64 v234] : List DV).length) .undef) []).bind (retD TT Try.f53.results.toList 0) = (laws_sameFloat_T v233 v234).bind fun y => .leaf (laws_sameFloat_enc v233 v234 y) := by kernel_rfl
theorem laws_sameFloat_fn (v233 : Nat) (v234 : Nat) (F : Fr) (hm : F.ids.length = 0) (h0 : St F [] F.H0) (hA : DVs.Ok F [] [.flt .f64 v233, .flt .f64 v234]) {y : Bool} (hy : laws_sameFloat_g v233 v234 = some y) : ∃ H', FnOk Try.prog 53 (DVs.av F [.flt .f64 v233, .flt .f64 v234]) F.H0 ((laws_sameFloat_enc v233 v234 y).1.av F) H' ∧ St F (laws_sameFloat_enc v233 v234 y).2 H' ∧ (laws_sameFloat_enc v233 v234 y).1.Ok F (laws_sameFloat_enc v233 v234 y).2 :=
  fn_fin tok laws_sameFloat_hO mixed Try.func53 Try.call53 (by kernel_rfl) (LoopsOk_eq (l := []) (by kernel_rfl) trivial) (laws_sameFloat_den v233 v234) hy hm h0 hA
def laws_sameFloat_v (v233 : Nat) (v234 : Nat) : Bool :=
  if (!feq .f64 v233 v233) = true then (
   if (!feq .f64 v233 v233) = true then (
    !feq .f64 v234 v234
   ) else (
    false
   )
  ) else (
   if (!feq .f64 v234 v234) = true then (
    if (!feq .f64 v233 v233) = true then (
     !feq .f64 v234 v234
    ) else (
     false
    )
   ) else (
    if (feq .f64 v233 (0 : Nat)) = true then (
     if (feq .f64 v234 (0 : Nat)) = true then (
      (fgrt .f64 (fdiv .f64 (4607182418800017408 : Nat) v233) (0 : Nat)) == (fgrt .f64 (fdiv .f64 (4607182418800017408 : Nat) v234) (0 : Nat))
     ) else (
      feq .f64 v233 v234
     )
    ) else (
     feq .f64 v233 v234
    )
   )
  )
theorem laws_sameFloat_tot (v233 : Nat) (v234 : Nat) : laws_sameFloat_g v233 v234 = some (laws_sameFloat_v v233 v234) := by
  unfold laws_sameFloat_g laws_sameFloat_T laws_sameFloat_v
  simp only [Tree.run]
  repeat' (first | rfl | split)
noncomputable def laws_sameFloat_F : DFn := fun args L =>
  match args with
  | [.flt .f64 v233, .flt .f64 v234] =>
    .leaf (.bool (laws_sameFloat_v v233 v234), L)
  | _ => .fail
theorem laws_sameFloat_Fok : COk Try.prog 53 laws_sameFloat_F true := by
  intro F L H args r L' hs ha hr
  unfold laws_sameFloat_F at hr
  split at hr
  · rename_i v233 v234
    have hy := laws_sameFloat_tot v233 v234
    generalize laws_sameFloat_v v233 v234 = y at hy hr
    simp only [Tree.run, Option.some.injEq, Prod.mk.injEq] at hr
    obtain ⟨rfl, rfl⟩ := hr
    exact call_ok0 hs (fun k => (([] : List AV)[k]?).getD .top) [.flt .f64 v233, .flt .f64 v234] [.flt .f64 v233, .flt .f64 v234] (fun F' h0 hi hρ => ⟨by simp [DVs.av, DV.av, BR.av, hρ], laws_sameFloat_fn v233 v234 F' (by rw [hi]; rfl) (st_nil hi) ⟨trivial, trivial, trivial⟩ hy⟩) rfl
  · cases hr
/-! laws.eqFloat32S -/
noncomputable def laws_eqFloat32S_l0_T (v230 : List Nat) (v231 : List Nat) (s : Int) : Tree ((Int) ⊕ ((Unit) ⊕ (Unit))) :=
  (.br (decide (s < ((v230.length : Nat) : Int))) (
   (.grd (inb s v230.length) <|
   (.grd (inb s v231.length) <|
   (.br (!(laws_sameFloat_v (wid (nth v230 (Int.toNat s))) (wid (nth v231 (Int.toNat s))))) (
    .leaf (.inr (.inl ()))
   ) (
    .leaf (.inl (IntKind.i64.wrap (s + (1 : Int))))
   ))))
  ) (
   .leaf (.inr (.inr ()))
  ))

noncomputable def laws_eqFloat32S_l0_g (v230 : List Nat) (v231 : List Nat) (s0 : Int) : Option ((Unit) ⊕ (Unit)) := whileM (fun s => (laws_eqFloat32S_l0_T v230 v231 s).run) s0
def laws_eqFloat32S_l0_E (v230 : List Nat) (v231 : List Nat) (s : Int) : Sd := ([.bslc (BR.root 0) (.f32 v230), .bslc (BR.root 1) (.f32 v231), .top, .top, .top, .int .i64 s, .top, .top, .top, .top, .top, .top, .top, .top, .top, .top, .top, .top, .top, .top, .top, .top, .top, .top, .top, .top, .top, .top, .top], [])
def laws_eqFloat32S_l0_X (v230 : List Nat) (v231 : List Nat) (x : (Unit) ⊕ (Unit)) : Out := (match x with | .inl x => (.ret, [.top, .top, .top, .top, .lit false, .top, .top, .top, .top, .top, .top, .top, .top, .top, .top, .top, .top, .top, .top, .top, .top, .top, .top, .top, .top, .top, .top, .top, .top], []) | .inr x => (.normal, [.top, .top, .top, .top, .top, .top, .top, .top, .top, .top, .top, .top, .top, .top, .top, .top, .top, .top, .top, .top, .top, .top, .top, .top, .top, .top, .top, .top, .top], []))
def laws_eqFloat32S_l0_kill : List Nat := [0, 0, 1, 1, 1, 0, 1, 1, 1, 1, 1, 1, 1, 1, 1, 1, 1, 1, 1, 1, 1, 1, 1, 1, 1, 1, 1, 1, 1]
def laws_eqFloat32S_l0_nx : Exit → List Nat
  | .exit 0 => [1, 1, 1, 1, 1, 1, 1, 1, 1, 1, 1, 1, 1, 1, 1, 1, 1, 1, 1, 1, 1, 1, 1, 1, 1, 1, 1, 1, 1]
  | .ret => [1, 1, 1, 1, 0, 1, 1, 1, 1, 1, 1, 1, 1, 1, 1, 1, 1, 1, 1, 1, 1, 1, 1, 1, 1, 1, 1, 1, 1]
  | _ => []
noncomputable def laws_eqFloat32S_LO (v230 : List Nat) (v231 : List Nat) : LOr := fun id e L =>
  match id with
  | 0 => .need (normA 0 laws_eqFloat32S_l0_kill e L = some (laws_eqFloat32S_l0_E v230 v231 (gI (vAt e 5)))) (.call (laws_eqFloat32S_l0_g v230 v231 (gI (vAt e 5))) fun x => .sum x (fun b0 => .leaf (laws_eqFloat32S_l0_X v230 v231 (.inl b0))) (fun c0 => .leaf (laws_eqFloat32S_l0_X v230 v231 (.inr c0))))
  | _ => .fail
noncomputable def laws_eqFloat32S_tab : List (FuncId × DFn × Bool) := [(53, laws_sameFloat_F, true)]
theorem laws_eqFloat32S_hO : OrcOk Try.prog (tabD laws_eqFloat32S_tab) (tabM laws_eqFloat32S_tab) := tabD_cons laws_sameFloat_Fok (tabD_nil _)
theorem laws_eqFloat32S_l0_be (v230 : List Nat) (v231 : List Nat) (s : Int) : bodyT TT (tabD laws_eqFloat32S_tab) (tabM laws_eqFloat32S_tab) (laws_eqFloat32S_LO v230 v231) 0 laws_eqFloat32S_l0_kill laws_eqFloat32S_l0_nx (bodyOf Try.f20 0) 0 (laws_eqFloat32S_l0_E v230 v231 s) = (laws_eqFloat32S_l0_T v230 v231 s).bind fun y => .leaf (outS (laws_eqFloat32S_l0_E v230 v231) (laws_eqFloat32S_l0_X v230 v231) y) := by kernel_rfl
theorem laws_eqFloat32S_l0_ok (v230 : List Nat) (v231 : List Nat) : LSound Try.prog 0 (laws_eqFloat32S_LO v230 v231) 0 (bodyOf Try.f20 0) := by
  intro e L out h
  exact lo_ok (E := laws_eqFloat32S_l0_E v230 v231) (gT := laws_eqFloat32S_l0_T v230 v231) (X := laws_eqFloat32S_l0_X v230 v231) (s0 := (gI (vAt e 5))) tok laws_eqFloat32S_hO mixed (LoopsOk_eq (l := []) (by kernel_rfl) trivial) (laws_eqFloat32S_l0_be v230 v231) rfl (by intro x; (cases x with | inl b => rfl | inr x => exact rfl)) h
noncomputable def laws_eqFloat32S_T (v230 : List Nat) (v231 : List Nat) : Tree (Bool) :=
  (.br (!decide (((v230.length : Nat) : Int) = ((v231.length : Nat) : Int))) (
   .leaf false
  ) (
   (.need (some (laws_eqFloat32S_l0_E v230 v231 (0 : Int)) = some (laws_eqFloat32S_l0_E v230 v231 (0 : Int))) <|
   (.call (laws_eqFloat32S_l0_g v230 v231 (0 : Int)) fun v237 =>
   (.sum v237 (fun v238 =>
    .leaf false
   ) (fun v239 =>
    .leaf true
   ))))
  ))

noncomputable def laws_eqFloat32S_g (v230 : List Nat) (v231 : List Nat) : Option (Bool) := (laws_eqFloat32S_T v230 v231).run
def laws_eqFloat32S_enc (v230 : List Nat) (v231 : List Nat) (y : Bool) : Rs := (.bool y, [])
theorem laws_eqFloat32S_den (v230 : List Nat) (v231 : List Nat) : (den TT (tabD laws_eqFloat32S_tab) (tabM laws_eqFloat32S_tab) (laws_eqFloat32S_LO v230 v231) (codeOf Try.f20) ([.bslc (BR.root 0) (.f32 v230), .bslc (BR.root 1) (.f32 v231)] ++ List.replicate (Try.f20.ntmps - ([.bslc (BR.root 0) (.f32 v230), .bslc (BR.root 1) (.f32 v231)] : List DV).length) .undef) []).bind (retD TT Try.f20.results.toList 0) = (laws_eqFloat32S_T v230 v231).bind fun y => .leaf (laws_eqFloat32S_enc v230 v231 y) := by kernel_rfl
theorem laws_eqFloat32S_fn (v230 : List Nat) (v231 : List Nat) (F : Fr) (hm : F.ids.length = 0) (h0 : St F [] F.H0) (hA : DVs.Ok F [] [.bslc (BR.root 0) (.f32 v230), .bslc (BR.root 1) (.f32 v231)]) {y : Bool} (hy : laws_eqFloat32S_g v230 v231 = some y) : ∃ H', FnOk Try.prog 20 (DVs.av F [.bslc (BR.root 0) (.f32 v230), .bslc (BR.root 1) (.f32 v231)]) F.H0 ((laws_eqFloat32S_enc v230 v231 y).1.av F) H' ∧ St F (laws_eqFloat32S_enc v230 v231 y).2 H' ∧ (laws_eqFloat32S_enc v230 v231 y).1.Ok F (laws_eqFloat32S_enc v230 v231 y).2 :=
  fn_fin tok laws_eqFloat32S_hO mixed Try.func20 Try.call20 (by kernel_rfl) (LoopsOk_eq (l := [(0, bodyOf Try.f20 0)]) (by kernel_rfl) ⟨laws_eqFloat32S_l0_ok v230 v231, trivial⟩) (laws_eqFloat32S_den v230 v231) hy hm h0 hA
noncomputable def laws_eqFloat32S_F : DFn := fun args L =>
  match args with
  | [a1, a2] =>
    optT (rowF32 L a1) fun v230 =>
    optT (rowF32 L a2) fun v231 =>
    .call (laws_eqFloat32S_g v230 v231) fun y => .leaf (.bool y, L)
  | _ => .fail
theorem laws_eqFloat32S_Fok : COk Try.prog 20 laws_eqFloat32S_F true := by
  intro F L H args r L' hs ha hr
  unfold laws_eqFloat32S_F at hr
  split at hr
  · rename_i a1 a2
    obtain ⟨v230, hv230, hr⟩ := optT_run hr
    obtain ⟨v231, hv231, hr⟩ := optT_run hr
    simp only [Tree.run] at hr
    obtain ⟨y, hy, hr⟩ := Option.bind_eq_some_iff.1 hr
    simp only [Tree.run, Option.some.injEq, Prod.mk.injEq] at hr
    obtain ⟨rfl, rfl⟩ := hr
    exact call_ok0 hs (fun k => (([a1.av F, a2.av F] : List AV)[k]?).getD .top) [a1, a2] [.bslc (BR.root 0) (.f32 v230), .bslc (BR.root 1) (.f32 v231)] (fun F' h0 hi hρ => ⟨by simp [DVs.av, DV.av, BR.av, hρ], laws_eqFloat32S_fn v230 v231 F' (by rw [hi]; rfl) (st_nil hi) ⟨bslc_ok hi (by rw [h0, hρ]; exact rowF32_ok hs (DVs.okAt ha 0 rfl) hv230), bslc_ok hi (by rw [h0, hρ]; exact rowF32_ok hs (DVs.okAt ha 1 rfl) hv231), trivial⟩ hy⟩) rfl
  · cases hr
/-! laws.eqMatrix -/
noncomputable def laws_eqMatrix_LO (v224 : Int) (v225 : Int) (v226 : List Nat) (v227 : Int) (v228 : Int) (v229 : List Nat) : LOr := fun id e L =>
  match id with
  | _ => .fail
noncomputable def laws_eqMatrix_tab : List (FuncId × DFn × Bool) := [(20, laws_eqFloat32S_F, true)]
theorem laws_eqMatrix_hO : OrcOk Try.prog (tabD laws_eqMatrix_tab) (tabM laws_eqMatrix_tab) := tabD_cons laws_eqFloat32S_Fok (tabD_nil _)
noncomputable def laws_eqMatrix_T (v224 : Int) (v225 : Int) (v226 : List Nat) (v227 : Int) (v228 : Int) (v229 : List Nat) : Tree (Bool) :=
  (.br (!decide (v224 = v227)) (
   .leaf false
  ) (
   (.br (!decide (v225 = v228)) (
    .leaf false
   ) (
    (.call (laws_eqFloat32S_g v226 v229) fun v240 =>
    (.br (!v240) (
     .leaf false
    ) (
     .leaf true
    )))
   ))
  ))

noncomputable def laws_eqMatrix_g (v224 : Int) (v225 : Int) (v226 : List Nat) (v227 : Int) (v228 : Int) (v229 : List Nat) : Option (Bool) := (laws_eqMatrix_T v224 v225 v226 v227 v228 v229).run
def laws_eqMatrix_enc (v224 : Int) (v225 : Int) (v226 : List Nat) (v227 : Int) (v228 : Int) (v229 : List Nat) (y : Bool) : Rs := (.bool y, [])
theorem laws_eqMatrix_den (v224 : Int) (v225 : Int) (v226 : List Nat) (v227 : Int) (v228 : Int) (v229 : List Nat) : (den TT (tabD laws_eqMatrix_tab) (tabM laws_eqMatrix_tab) (laws_eqMatrix_LO v224 v225 v226 v227 v228 v229) (codeOf Try.f33) ([.agg [.int .i64 v224, .int .i64 v225, .bslc (BR.root 0) (.f32 v226)], .agg [.int .i64 v227, .int .i64 v228, .bslc (BR.root 1) (.f32 v229)]] ++ List.replicate (Try.f33.ntmps - ([.agg [.int .i64 v224, .int .i64 v225, .bslc (BR.root 0) (.f32 v226)], .agg [.int .i64 v227, .int .i64 v228, .bslc (BR.root 1) (.f32 v229)]] : List DV).length) .undef) []).bind (retD TT Try.f33.results.toList 0) = (laws_eqMatrix_T v224 v225 v226 v227 v228 v229).bind fun y => .leaf (laws_eqMatrix_enc v224 v225 v226 v227 v228 v229 y) := by kernel_rfl
theorem laws_eqMatrix_fn (v224 : Int) (v225 : Int) (v226 : List Nat) (v227 : Int) (v228 : Int) (v229 : List Nat) (F : Fr) (hm : F.ids.length = 0) (h0 : St F [] F.H0) (hA : DVs.Ok F [] [.agg [.int .i64 v224, .int .i64 v225, .bslc (BR.root 0) (.f32 v226)], .agg [.int .i64 v227, .int .i64 v228, .bslc (BR.root 1) (.f32 v229)]]) {y : Bool} (hy : laws_eqMatrix_g v224 v225 v226 v227 v228 v229 = some y) : ∃ H', FnOk Try.prog 33 (DVs.av F [.agg [.int .i64 v224, .int .i64 v225, .bslc (BR.root 0) (.f32 v226)], .agg [.int .i64 v227, .int .i64 v228, .bslc (BR.root 1) (.f32 v229)]]) F.H0 ((laws_eqMatrix_enc v224 v225 v226 v227 v228 v229 y).1.av F) H' ∧ St F (laws_eqMatrix_enc v224 v225 v226 v227 v228 v229 y).2 H' ∧ (laws_eqMatrix_enc v224 v225 v226 v227 v228 v229 y).1.Ok F (laws_eqMatrix_enc v224 v225 v226 v227 v228 v229 y).2 :=
  fn_fin tok laws_eqMatrix_hO mixed Try.func33 Try.call33 (by kernel_rfl) (LoopsOk_eq (l := []) (by kernel_rfl) trivial) (laws_eqMatrix_den v224 v225 v226 v227 v228 v229) hy hm h0 hA
noncomputable def laws_eqMatrix_F : DFn := fun args L =>
  match args with
  | [.agg [.int .i64 v224, .int .i64 v225, a1], .agg [.int .i64 v227, .int .i64 v228, a2]] =>
    optT (rowF32 L a1) fun v226 =>
    optT (rowF32 L a2) fun v229 =>
    .call (laws_eqMatrix_g v224 v225 v226 v227 v228 v229) fun y => .leaf (.bool y, L)
  | _ => .fail
theorem laws_eqMatrix_Fok : COk Try.prog 33 laws_eqMatrix_F true := by
  intro F L H args r L' hs ha hr
  unfold laws_eqMatrix_F at hr
  split at hr
  · rename_i v224 v225 a1 v227 v228 a2
    obtain ⟨v226, hv226, hr⟩ := optT_run hr
    obtain ⟨v229, hv229, hr⟩ := optT_run hr
    simp only [Tree.run] at hr
    obtain ⟨y, hy, hr⟩ := Option.bind_eq_some_iff.1 hr
    simp only [Tree.run, Option.some.injEq, Prod.mk.injEq] at hr
    obtain ⟨rfl, rfl⟩ := hr
    exact call_ok0 hs (fun k => (([a1.av F, a2.av F] : List AV)[k]?).getD .top) [.agg [.int .i64 v224, .int .i64 v225, a1], .agg [.int .i64 v227, .int .i64 v228, a2]] [.agg [.int .i64 v224, .int .i64 v225, .bslc (BR.root 0) (.f32 v226)], .agg [.int .i64 v227, .int .i64 v228, .bslc (BR.root 1) (.f32 v229)]] (fun F' h0 hi hρ => ⟨by simp [DVs.av, DV.av, BR.av, hρ], laws_eqMatrix_fn v224 v225 v226 v227 v228 v229 F' (by rw [hi]; rfl) (st_nil hi) ⟨⟨trivial, trivial, bslc_ok hi (by rw [h0, hρ]; exact rowF32_ok hs (DVs.okAt (DVs.okAt ha 0 rfl) 2 rfl) hv226), trivial⟩, ⟨trivial, trivial, bslc_ok hi (by rw [h0, hρ]; exact rowF32_ok hs (DVs.okAt (DVs.okAt ha 1 rfl) 2 rfl) hv229), trivial⟩, trivial⟩ hy⟩) rfl
  · cases hr
/-! laws.eqInt64S -/
noncomputable def laws_eqInt64S_l0_T (v245 : List Int) (v246 : List Int) (s : Int) : Tree ((Int) ⊕ ((Unit) ⊕ (Unit))) :=
  (.br (decide (s < ((v245.length : Nat) : Int))) (
   (.grd (inb s v245.length) <|
   (.grd (inb s v246.length) <|
   (.br (!decide (nth v245 (Int.toNat s) = nth v246 (Int.toNat s))) (
    .leaf (.inr (.inl ()))
   ) (
    .leaf (.inl (IntKind.i64.wrap (s + (1 : Int))))
   ))))
  ) (
   .leaf (.inr (.inr ()))
  ))

noncomputable def laws_eqInt64S_l0_g (v245 : List Int) (v246 : List Int) (s0 : Int) : Option ((Unit) ⊕ (Unit)) := whileM (fun s => (laws_eqInt64S_l0_T v245 v246 s).run) s0
def laws_eqInt64S_l0_E (v245 : List Int) (v246 : List Int) (s : Int) : Sd := ([.bslc (BR.root 0) (.i64 v245), .bslc (BR.root 1) (.i64 v246), .top, .top, .top, .int .i64 s, .top, .top, .top, .top, .top, .top, .top, .top, .top, .top, .top, .top, .top, .top, .top, .top, .top, .top, .top, .top], [])
def laws_eqInt64S_l0_X (v245 : List Int) (v246 : List Int) (x : (Unit) ⊕ (Unit)) : Out := (match x with | .inl x => (.ret, [.top, .top, .top, .top, .lit false, .top, .top, .top, .top, .top, .top, .top, .top, .top, .top, .top, .top, .top, .top, .top, .top, .top, .top, .top, .top, .top], []) | .inr x => (.normal, [.top, .top, .top, .top, .top, .top, .top, .top, .top, .top, .top, .top, .top, .top, .top, .top, .top, .top, .top, .top, .top, .top, .top, .top, .top, .top], []))
def laws_eqInt64S_l0_kill : List Nat := [0, 0, 1, 1, 1, 0, 1, 1, 1, 1, 1, 1, 1, 1, 1, 1, 1, 1, 1, 1, 1, 1, 1, 1, 1, 1]
def laws_eqInt64S_l0_nx : Exit → List Nat
  | .exit 0 => [1, 1, 1, 1, 1, 1, 1, 1, 1, 1, 1, 1, 1, 1, 1, 1, 1, 1, 1, 1, 1, 1, 1, 1, 1, 1]
  | .ret => [1, 1, 1, 1, 0, 1, 1, 1, 1, 1, 1, 1, 1, 1, 1, 1, 1, 1, 1, 1, 1, 1, 1, 1, 1, 1]
  | _ => []
noncomputable def laws_eqInt64S_LO (v245 : List Int) (v246 : List Int) : LOr := fun id e L =>
  match id with
  | 0 => .need (normA 0 laws_eqInt64S_l0_kill e L = some (laws_eqInt64S_l0_E v245 v246 (gI (vAt e 5)))) (.call (laws_eqInt64S_l0_g v245 v246 (gI (vAt e 5))) fun x => .sum x (fun b0 => .leaf (laws_eqInt64S_l0_X v245 v246 (.inl b0))) (fun c0 => .leaf (laws_eqInt64S_l0_X v245 v246 (.inr c0))))
  | _ => .fail
noncomputable def laws_eqInt64S_tab : List (FuncId × DFn × Bool) := []
theorem laws_eqInt64S_hO : OrcOk Try.prog (tabD laws_eqInt64S_tab) (tabM laws_eqInt64S_tab) := tabD_nil _
theorem laws_eqInt64S_l0_be (v245 : List Int) (v246 : List Int) (s : Int) : bodyT TT (tabD laws_eqInt64S_tab) (tabM laws_eqInt64S_tab) (laws_eqInt64S_LO v245 v246) 0 laws_eqInt64S_l0_kill laws_eqInt64S_l0_nx (bodyOf Try.f44 0) 0 (laws_eqInt64S_l0_E v245 v246 s) = (laws_eqInt64S_l0_T v245 v246 s).bind fun y => .leaf (outS (laws_eqInt64S_l0_E v245 v246) (laws_eqInt64S_l0_X v245 v246) y) := by kernel_rfl
theorem laws_eqInt64S_l0_ok (v245 : List Int) (v246 : List Int) : LSound Try.prog 0 (laws_eqInt64S_LO v245 v246) 0 (bodyOf Try.f44 0) := by
  intro e L out h
  exact lo_ok (E := laws_eqInt64S_l0_E v245 v246) (gT := laws_eqInt64S_l0_T v245 v246) (X := laws_eqInt64S_l0_X v245 v246) (s0 := (gI (vAt e 5))) tok laws_eqInt64S_hO mixed (LoopsOk_eq (l := []) (by kernel_rfl) trivial) (laws_eqInt64S_l0_be v245 v246) rfl (by intro x; (cases x with | inl b => rfl | inr x => exact rfl)) h
noncomputable def laws_eqInt64S_T (v245 : List Int) (v246 : List Int) : Tree (Bool) :=
  (.br (!decide (((v245.length : Nat) : Int) = ((v246.length : Nat) : Int))) (
   .leaf false
  ) (
   (.need (some (laws_eqInt64S_l0_E v245 v246 (0 : Int)) = some (laws_eqInt64S_l0_E v245 v246 (0 : Int))) <|
   (.call (laws_eqInt64S_l0_g v245 v246 (0 : Int)) fun v250 =>
   (.sum v250 (fun v251 =>
    .leaf false
   ) (fun v252 =>
    .leaf true
   ))))
  ))

noncomputable def laws_eqInt64S_g (v245 : List Int) (v246 : List Int) : Option (Bool) := (laws_eqInt64S_T v245 v246).run
def laws_eqInt64S_enc (v245 : List Int) (v246 : List Int) (y : Bool) : Rs := (.bool y, [])
theorem laws_eqInt64S_den (v245 : List Int) (v246 : List Int) : (den TT (tabD laws_eqInt64S_tab) (tabM laws_eqInt64S_tab) (laws_eqInt64S_LO v245 v246) (codeOf Try.f44) ([.bslc (BR.root 0) (.i64 v245), .bslc (BR.root 1) (.i64 v246)] ++ List.replicate (Try.f44.ntmps - ([.bslc (BR.root 0) (.i64 v245), .bslc (BR.root 1) (.i64 v246)] : List DV).length) .undef) []).bind (retD TT Try.f44.results.toList 0) = (laws_eqInt64S_T v245 v246).bind fun y => .leaf (laws_eqInt64S_enc v245 v246 y) := by kernel_rfl
theorem laws_eqInt64S_fn (v245 : List Int) (v246 : List Int) (F : Fr) (hm : F.ids.length = 0) (h0 : St F [] F.H0) (hA : DVs.Ok F [] [.bslc (BR.root 0) (.i64 v245), .bslc (BR.root 1) (.i64 v246)]) {y : Bool} (hy : laws_eqInt64S_g v245 v246 = some y) : ∃ H', FnOk Try.prog 44 (DVs.av F [.bslc (BR.root 0) (.i64 v245), .bslc (BR.root 1) (.i64 v246)]) F.H0 ((laws_eqInt64S_enc v245 v246 y).1.av F) H' ∧ St F (laws_eqInt64S_enc v245 v246 y).2 H' ∧ (laws_eqInt64S_enc v245 v246 y).1.Ok F (laws_eqInt64S_enc v245 v246 y).2 :=
  fn_fin tok laws_eqInt64S_hO mixed Try.func44 Try.call44 (by kernel_rfl) (LoopsOk_eq (l := [(0, bodyOf Try.f44 0)]) (by kernel_rfl) ⟨laws_eqInt64S_l0_ok v245 v246, trivial⟩) (laws_eqInt64S_den v245 v246) hy hm h0 hA
noncomputable def laws_eqInt64S_F : DFn := fun args L =>
  match args with
  | [a1, a2] =>
    optT (rowI64 L a1) fun v245 =>
    optT (rowI64 L a2) fun v246 =>
    .call (laws_eqInt64S_g v245 v246) fun y => .leaf (.bool y, L)
  | _ => .fail
theorem laws_eqInt64S_Fok : COk Try.prog 44 laws_eqInt64S_F true := by
  intro F L H args r L' hs ha hr
  unfold laws_eqInt64S_F at hr
  split at hr
  · rename_i a1 a2
    obtain ⟨v245, hv245, hr⟩ := optT_run hr
    obtain ⟨v246, hv246, hr⟩ := optT_run hr
    simp only [Tree.run] at hr
    obtain ⟨y, hy, hr⟩ := Option.bind_eq_some_iff.1 hr
    simp only [Tree.run, Option.some.injEq, Prod.mk.injEq] at hr
    obtain ⟨rfl, rfl⟩ := hr
    exact call_ok0 hs (fun k => (([a1.av F, a2.av F] : List AV)[k]?).getD .top) [a1, a2] [.bslc (BR.root 0) (.i64 v245), .bslc (BR.root 1) (.i64 v246)] (fun F' h0 hi hρ => ⟨by simp [DVs.av, DV.av, BR.av, hρ], laws_eqInt64S_fn v245 v246 F' (by rw [hi]; rfl) (st_nil hi) ⟨bslc_ok hi (by rw [h0, hρ]; exact rowI64_ok hs (DVs.okAt ha 0 rfl) hv245), bslc_ok hi (by rw [h0, hρ]; exact rowI64_ok hs (DVs.okAt ha 1 rfl) hv246), trivial⟩ hy⟩) rfl
  · cases hr
/-! laws.markFloat32S -/
noncomputable def laws_markFloat32S_l0_T (s : Int × Int × (List Nat)) : Tree ((Int × Int × (List Nat)) ⊕ (Int × (List Nat))) :=
  (.br (decide (s.2.1 < (((s.2.2).length : Nat) : Int))) (
   (.grd (inb s.2.1 ((s.2.2).length)) <|
   .leaf (.inl (IntKind.i64.wrap (s.1 + (1 : Int)), IntKind.i64.wrap (s.2.1 + (1 : Int)), List.set s.2.2 (Int.toNat s.2.1) (fofint .f32 s.1))))
  ) (
   .leaf (.inr (s.1, s.2.2))
  ))

noncomputable def laws_markFloat32S_l0_g (s0 : Int × Int × (List Nat)) : Option (Int × (List Nat)) := whileM (fun s => (laws_markFloat32S_l0_T s).run) s0
def laws_markFloat32S_l0_E (v262 : List Nat) (v263 : Int) (s : Int × Int × (List Nat)) : Sd := ([.own 0 0 ((s.2.2).length), .int .i64 s.1, .top, .top, .top, .int .i64 s.2.1, .top, .top, .top, .top, .top, .top, .top, .top, .top, .top, .top, .top, .top, .top], [.row (.f32 s.2.2) 0])
def laws_markFloat32S_l0_X (v262 : List Nat) (v263 : Int) (x : Int × (List Nat)) : Out := (.normal, [.top, .int .i64 x.1, .top, .top, .top, .top, .top, .top, .top, .top, .top, .top, .top, .top, .top, .top, .top, .top, .top, .top], [.row (.f32 x.2) 0])
def laws_markFloat32S_l0_kill : List Nat := [0, 0, 1, 1, 1, 0, 1, 1, 1, 1, 1, 1, 1, 1, 1, 1, 1, 1, 1, 1]
def laws_markFloat32S_l0_nx : Exit → List Nat
  | .exit 0 => [1, 0, 1, 1, 1, 1, 1, 1, 1, 1, 1, 1, 1, 1, 1, 1, 1, 1, 1, 1]
  | .ret => [1, 1, 1, 1, 0, 1, 1, 1, 1, 1, 1, 1, 1, 1, 1, 1, 1, 1, 1, 1]
  | _ => []
noncomputable def laws_markFloat32S_LO (v262 : List Nat) (v263 : Int) : LOr := fun id e L =>
  match id with
  | 0 => .need (normA 1 laws_markFloat32S_l0_kill e L = some (laws_markFloat32S_l0_E v262 v263 ((gI (vAt e 1)), (gI (vAt e 5)), (gRF L (vAt e 0))))) (.call (laws_markFloat32S_l0_g ((gI (vAt e 1)), (gI (vAt e 5)), (gRF L (vAt e 0)))) fun x => .leaf (laws_markFloat32S_l0_X v262 v263 x))
  | _ => .fail
noncomputable def laws_markFloat32S_tab : List (FuncId × DFn × Bool) := []
theorem laws_markFloat32S_hO : OrcOk Try.prog (tabD laws_markFloat32S_tab) (tabM laws_markFloat32S_tab) := tabD_nil _
theorem laws_markFloat32S_l0_be (v262 : List Nat) (v263 : Int) (s : Int × Int × (List Nat)) : bodyT TT (tabD laws_markFloat32S_tab) (tabM laws_markFloat32S_tab) (laws_markFloat32S_LO v262 v263) 1 laws_markFloat32S_l0_kill laws_markFloat32S_l0_nx (bodyOf Try.f23 0) 0 (laws_markFloat32S_l0_E v262 v263 s) = (laws_markFloat32S_l0_T s).bind fun y => .leaf (outS (laws_markFloat32S_l0_E v262 v263) (laws_markFloat32S_l0_X v262 v263) y) := by kernel_rfl
theorem laws_markFloat32S_l0_ok (v262 : List Nat) (v263 : Int) : LSound Try.prog 1 (laws_markFloat32S_LO v262 v263) 0 (bodyOf Try.f23 0) := by
  intro e L out h
  exact lo_ok (E := laws_markFloat32S_l0_E v262 v263) (gT := laws_markFloat32S_l0_T) (X := laws_markFloat32S_l0_X v262 v263) (s0 := ((gI (vAt e 1)), (gI (vAt e 5)), (gRF L (vAt e 0)))) tok laws_markFloat32S_hO mixed (LoopsOk_eq (l := []) (by kernel_rfl) trivial) (laws_markFloat32S_l0_be v262 v263) rfl (by intro x; rfl) h
noncomputable def laws_markFloat32S_T (v262 : List Nat) (v263 : Int) : Tree (Int × (List Nat)) :=
  (.need (some (laws_markFloat32S_l0_E v262 v263 (v263, (0 : Int), v262)) = some (laws_markFloat32S_l0_E v262 v263 (v263, (0 : Int), v262))) <|
  (.call (laws_markFloat32S_l0_g (v263, (0 : Int), v262)) fun v272 =>
  .leaf (v272.1, v272.2)))

noncomputable def laws_markFloat32S_g (v262 : List Nat) (v263 : Int) : Option (Int × (List Nat)) := (laws_markFloat32S_T v262 v263).run
def laws_markFloat32S_enc (v262 : List Nat) (v263 : Int) (y : Int × (List Nat)) : Rs := (.int .i64 y.1, [.row (.f32 y.2) 0])
theorem laws_markFloat32S_den (v262 : List Nat) (v263 : Int) : (den TT (tabD laws_markFloat32S_tab) (tabM laws_markFloat32S_tab) (laws_markFloat32S_LO v262 v263) (codeOf Try.f23) ([.own 0 0 v262.length, .int .i64 v263] ++ List.replicate (Try.f23.ntmps - ([.own 0 0 v262.length, .int .i64 v263] : List DV).length) .undef) [.row (.f32 v262) 0]).bind (retD TT Try.f23.results.toList 1) = (laws_markFloat32S_T v262 v263).bind fun y => .leaf (laws_markFloat32S_enc v262 v263 y) := by kernel_rfl
theorem laws_markFloat32S_fn (v262 : List Nat) (v263 : Int) (F : Fr) (hm : F.ids.length = 1) (h0 : St F [.row (.f32 v262) 0] F.H0) (hA : DVs.Ok F [.row (.f32 v262) 0] [.own 0 0 v262.length, .int .i64 v263]) {y : Int × (List Nat)} (hy : laws_markFloat32S_g v262 v263 = some y) : ∃ H', FnOk Try.prog 23 (DVs.av F [.own 0 0 v262.length, .int .i64 v263]) F.H0 ((laws_markFloat32S_enc v262 v263 y).1.av F) H' ∧ St F (laws_markFloat32S_enc v262 v263 y).2 H' ∧ (laws_markFloat32S_enc v262 v263 y).1.Ok F (laws_markFloat32S_enc v262 v263 y).2 :=
  fn_fin tok laws_markFloat32S_hO mixed Try.func23 Try.call23 (by kernel_rfl) (LoopsOk_eq (l := [(0, bodyOf Try.f23 0)]) (by kernel_rfl) ⟨laws_markFloat32S_l0_ok v262 v263, trivial⟩) (laws_markFloat32S_den v262 v263) hy hm h0 hA
noncomputable def laws_markFloat32S_F : DFn := fun args L =>
  match args with
  | [a1, .int .i64 v263] =>
    optT (ownF32 L a1) fun qv262 =>
    (match sepB [qv262.1] [] with
    | true =>
    .call (laws_markFloat32S_g qv262.2 v263) fun y => .grd (decide (y.2.length = qv262.2.length)) (.leaf (.int .i64 y.1, setRows L ([qv262.1].zip [.f32 y.2])))
    | false => .fail)
  | _ => .fail
theorem laws_markFloat32S_Fok : COk Try.prog 23 laws_markFloat32S_F false := by
  intro F L H args r L' hs ha hr
  unfold laws_markFloat32S_F at hr
  split at hr
  · rename_i a1 v263
    obtain ⟨⟨jv262, v262⟩, hqv262, hr⟩ := optT_run hr
    simp only at hr
    split at hr
    · rename_i hsep
      obtain ⟨hnd, hsepv⟩ := sepB_spec hsep
      simp only [Tree.run] at hr
      obtain ⟨y, hy, hr⟩ := Option.bind_eq_some_iff.1 hr
      try simp only [Tree.run] at hr
      obtain ⟨hl0, hr⟩ := ite_run hr
      simp only [Option.some.injEq, Prod.mk.injEq] at hr
      obtain ⟨rfl, rfl⟩ := hr
      obtain ⟨hr0, hu0, ha0, hb0⟩ := (ownR_spec (DVs.okAt ha 0 rfl) (ownF32_or hqv262))
      exact mut_ok hs (fun k => (([a1.av F] : List AV)[k]?).getD .top) [a1, .int .i64 v263] [.own 0 0 v262.length, .int .i64 v263] [jv262] [.f32 v262] [.f32 y.2] hnd rfl rfl (fun i j q h1 h2 => by
          rcases i with _ | i
          · simp at h1 h2; subst h1; subst h2; exact hr0
          · simp at h1) (fun i q q' h1 h2 => by
          rcases i with _ | i
          · simp at h1 h2; subst h1; subst h2; exact of_decide_eq_true hl0
          · simp at h1) (fun j hj => by simp at hj; subst hj; simp [DVs.refs, DV.refs, hu0]) (fun F' h0 hi hρ hst hS => ⟨by (have ab0 : F'.abs 0 = F.abs jv262 := (by simp [Fr.abs, hi]); simp [DVs.av, DV.av, BR.av, hρ, Row.len, ha0, ab0]), by
          obtain ⟨H1, k1, k2, _⟩ := laws_markFloat32S_fn v262 v263 F' (by rw [hi]; rfl) hst ⟨⟨_, rfl, Nat.le_refl _, Nat.le_refl _, fun _ => rfl, (ownR_spec (DVs.okAt ha 0 rfl) (ownF32_or hqv262)).2.2.2⟩, trivial, trivial⟩ hy
          exact ⟨H1, k1, k2⟩⟩) (fun F' => rfl) (fun L' => trivial)
    · cases hr
  · cases hr
/-! laws.markMatrix -/
noncomputable def laws_markMatrix_LO (v273 : Int) (v274 : Int) (v275 : List Nat) (v276 : Int) : LOr := fun id e L =>
  match id with
  | _ => .fail
noncomputable def laws_markMatrix_tab : List (FuncId × DFn × Bool) := [(23, laws_markFloat32S_F, false)]
theorem laws_markMatrix_hO : OrcOk Try.prog (tabD laws_markMatrix_tab) (tabM laws_markMatrix_tab) := tabD_cons laws_markFloat32S_Fok (tabD_nil _)
noncomputable def laws_markMatrix_T (v275 : List Nat) (v276 : Int) : Tree (Int × (List Nat)) :=
  (.call (laws_markFloat32S_g v275 v276) fun v277 =>
  (.grd (decide (v277.2.length = v275.length)) <|
  .leaf (v277.1, v277.2)))

noncomputable def laws_markMatrix_g (v275 : List Nat) (v276 : Int) : Option (Int × (List Nat)) := (laws_markMatrix_T v275 v276).run
def laws_markMatrix_enc (v273 : Int) (v274 : Int) (v275 : List Nat) (v276 : Int) (y : Int × (List Nat)) : Rs := (.int .i64 y.1, [.row (.f32 y.2) 0])
theorem laws_markMatrix_den (v273 : Int) (v274 : Int) (v275 : List Nat) (v276 : Int) : (den TT (tabD laws_markMatrix_tab) (tabM laws_markMatrix_tab) (laws_markMatrix_LO v273 v274 v275 v276) (codeOf Try.f34) ([.agg [.int .i64 v273, .int .i64 v274, .own 0 0 v275.length], .int .i64 v276] ++ List.replicate (Try.f34.ntmps - ([.agg [.int .i64 v273, .int .i64 v274, .own 0 0 v275.length], .int .i64 v276] : List DV).length) .undef) [.row (.f32 v275) 0]).bind (retD TT Try.f34.results.toList 1) = (laws_markMatrix_T v275 v276).bind fun y => .leaf (laws_markMatrix_enc v273 v274 v275 v276 y) := by kernel_rfl
theorem laws_markMatrix_fn (v273 : Int) (v274 : Int) (v275 : List Nat) (v276 : Int) (F : Fr) (hm : F.ids.length = 1) (h0 : St F [.row (.f32 v275) 0] F.H0) (hA : DVs.Ok F [.row (.f32 v275) 0] [.agg [.int .i64 v273, .int .i64 v274, .own 0 0 v275.length], .int .i64 v276]) {y : Int × (List Nat)} (hy : laws_markMatrix_g v275 v276 = some y) : ∃ H', FnOk Try.prog 34 (DVs.av F [.agg [.int .i64 v273, .int .i64 v274, .own 0 0 v275.length], .int .i64 v276]) F.H0 ((laws_markMatrix_enc v273 v274 v275 v276 y).1.av F) H' ∧ St F (laws_markMatrix_enc v273 v274 v275 v276 y).2 H' ∧ (laws_markMatrix_enc v273 v274 v275 v276 y).1.Ok F (laws_markMatrix_enc v273 v274 v275 v276 y).2 :=
  fn_fin tok laws_markMatrix_hO mixed Try.func34 Try.call34 (by kernel_rfl) (LoopsOk_eq (l := []) (by kernel_rfl) trivial) (laws_markMatrix_den v273 v274 v275 v276) hy hm h0 hA
noncomputable def laws_markMatrix_F : DFn := fun args L =>
  match args with
  | [.agg [.int .i64 v273, .int .i64 v274, a1], .int .i64 v276] =>
    optT (ownF32 L a1) fun qv275 =>
    (match sepB [qv275.1] [] with
    | true =>
    .call (laws_markMatrix_g qv275.2 v276) fun y => .grd (decide (y.2.length = qv275.2.length)) (.leaf (.int .i64 y.1, setRows L ([qv275.1].zip [.f32 y.2])))
    | false => .fail)
  | _ => .fail
theorem laws_markMatrix_Fok : COk Try.prog 34 laws_markMatrix_F false := by
  intro F L H args r L' hs ha hr
  unfold laws_markMatrix_F at hr
  split at hr
  · rename_i v273 v274 a1 v276
    obtain ⟨⟨jv275, v275⟩, hqv275, hr⟩ := optT_run hr
    simp only at hr
    split at hr
    · rename_i hsep
      obtain ⟨hnd, hsepv⟩ := sepB_spec hsep
      simp only [Tree.run] at hr
      obtain ⟨y, hy, hr⟩ := Option.bind_eq_some_iff.1 hr
      try simp only [Tree.run] at hr
      obtain ⟨hl0, hr⟩ := ite_run hr
      simp only [Option.some.injEq, Prod.mk.injEq] at hr
      obtain ⟨rfl, rfl⟩ := hr
      obtain ⟨hr0, hu0, ha0, hb0⟩ := (ownR_spec (DVs.okAt (DVs.okAt ha 0 rfl) 2 rfl) (ownF32_or hqv275))
      exact mut_ok hs (fun k => (([a1.av F] : List AV)[k]?).getD .top) [.agg [.int .i64 v273, .int .i64 v274, a1], .int .i64 v276] [.agg [.int .i64 v273, .int .i64 v274, .own 0 0 v275.length], .int .i64 v276] [jv275] [.f32 v275] [.f32 y.2] hnd rfl rfl (fun i j q h1 h2 => by
          rcases i with _ | i
          · simp at h1 h2; subst h1; subst h2; exact hr0
          · simp at h1) (fun i q q' h1 h2 => by
          rcases i with _ | i
          · simp at h1 h2; subst h1; subst h2; exact of_decide_eq_true hl0
          · simp at h1) (fun j hj => by simp at hj; subst hj; simp [DVs.refs, DV.refs, hu0]) (fun F' h0 hi hρ hst hS => ⟨by (have ab0 : F'.abs 0 = F.abs jv275 := (by simp [Fr.abs, hi]); simp [DVs.av, DV.av, BR.av, hρ, Row.len, ha0, ab0]), by
          obtain ⟨H1, k1, k2, _⟩ := laws_markMatrix_fn v273 v274 v275 v276 F' (by rw [hi]; rfl) hst ⟨⟨trivial, trivial, ⟨_, rfl, Nat.le_refl _, Nat.le_refl _, fun _ => rfl, (ownR_spec (DVs.okAt (DVs.okAt ha 0 rfl) 2 rfl) (ownF32_or hqv275)).2.2.2⟩, trivial⟩, trivial, trivial⟩ hy
          exact ⟨H1, k1, k2⟩⟩) (fun F' => rfl) (fun L' => trivial)
    · cases hr
  · cases hr
/-! laws.markInt64S -/
noncomputable def laws_markInt64S_l0_T (s : Int × Int × (List Int)) : Tree ((Int × Int × (List Int)) ⊕ (Int × (List Int))) :=
  (.br (decide (s.2.1 < (((s.2.2).length : Nat) : Int))) (
   (.grd (inb s.2.1 ((s.2.2).length)) <|
   .leaf (.inl (IntKind.i64.wrap (s.1 + (1 : Int)), IntKind.i64.wrap (s.2.1 + (1 : Int)), List.set s.2.2 (Int.toNat s.2.1) s.1)))
  ) (
   .leaf (.inr (s.1, s.2.2))
  ))

noncomputable def laws_markInt64S_l0_g (s0 : Int × Int × (List Int)) : Option (Int × (List Int)) := whileM (fun s => (laws_markInt64S_l0_T s).run) s0
def laws_markInt64S_l0_E (v283 : List Int) (v284 : Int) (s : Int × Int × (List Int)) : Sd := ([.own 0 0 ((s.2.2).length), .int .i64 s.1, .top, .top, .top, .int .i64 s.2.1, .top, .top, .top, .top, .top, .top, .top, .top, .top, .top, .top, .top, .top], [.row (.i64 s.2.2) 0])
def laws_markInt64S_l0_X (v283 : List Int) (v284 : Int) (x : Int × (List Int)) : Out := (.normal, [.top, .int .i64 x.1, .top, .top, .top, .top, .top, .top, .top, .top, .top, .top, .top, .top, .top, .top, .top, .top, .top], [.row (.i64 x.2) 0])
def laws_markInt64S_l0_kill : List Nat := [0, 0, 1, 1, 1, 0, 1, 1, 1, 1, 1, 1, 1, 1, 1, 1, 1, 1, 1]
def laws_markInt64S_l0_nx : Exit → List Nat
  | .exit 0 => [1, 0, 1, 1, 1, 1, 1, 1, 1, 1, 1, 1, 1, 1, 1, 1, 1, 1, 1]
  | .ret => [1, 1, 1, 1, 0, 1, 1, 1, 1, 1, 1, 1, 1, 1, 1, 1, 1, 1, 1]
  | _ => []
noncomputable def laws_markInt64S_LO (v283 : List Int) (v284 : Int) : LOr := fun id e L =>
  match id with
  | 0 => .need (normA 1 laws_markInt64S_l0_kill e L = some (laws_markInt64S_l0_E v283 v284 ((gI (vAt e 1)), (gI (vAt e 5)), (gRI L (vAt e 0))))) (.call (laws_markInt64S_l0_g ((gI (vAt e 1)), (gI (vAt e 5)), (gRI L (vAt e 0)))) fun x => .leaf (laws_markInt64S_l0_X v283 v284 x))
  | _ => .fail
noncomputable def laws_markInt64S_tab : List (FuncId × DFn × Bool) := []
theorem laws_markInt64S_hO : OrcOk Try.prog (tabD laws_markInt64S_tab) (tabM laws_markInt64S_tab) := tabD_nil _
theorem laws_markInt64S_l0_be (v283 : List Int) (v284 : Int) (s : Int × Int × (List Int)) : bodyT TT (tabD laws_markInt64S_tab) (tabM laws_markInt64S_tab) (laws_markInt64S_LO v283 v284) 1 laws_markInt64S_l0_kill laws_markInt64S_l0_nx (bodyOf Try.f45 0) 0 (laws_markInt64S_l0_E v283 v284 s) = (laws_markInt64S_l0_T s).bind fun y => .leaf (outS (laws_markInt64S_l0_E v283 v284) (laws_markInt64S_l0_X v283 v284) y) := by kernel_rfl
theorem laws_markInt64S_l0_ok (v283 : List Int) (v284 : Int) : LSound Try.prog 1 (laws_markInt64S_LO v283 v284) 0 (bodyOf Try.f45 0) := by
  intro e L out h
  exact lo_ok (E := laws_markInt64S_l0_E v283 v284) (gT := laws_markInt64S_l0_T) (X := laws_markInt64S_l0_X v283 v284) (s0 := ((gI (vAt e 1)), (gI (vAt e 5)), (gRI L (vAt e 0)))) tok laws_markInt64S_hO mixed (LoopsOk_eq (l := []) (by kernel_rfl) trivial) (laws_markInt64S_l0_be v283 v284) rfl (by intro x; rfl) h
noncomputable def laws_markInt64S_T (v283 : List Int) (v284 : Int) : Tree (Int × (List Int)) :=
  (.need (some (laws_markInt64S_l0_E v283 v284 (v284, (0 : Int), v283)) = some (laws_markInt64S_l0_E v283 v284 (v284, (0 : Int), v283))) <|
  (.call (laws_markInt64S_l0_g (v284, (0 : Int), v283)) fun v293 =>
  .leaf (v293.1, v293.2)))

noncomputable def laws_markInt64S_g (v283 : List Int) (v284 : Int) : Option (Int × (List Int)) := (laws_markInt64S_T v283 v284).run
def laws_markInt64S_enc (v283 : List Int) (v284 : Int) (y : Int × (List Int)) : Rs := (.int .i64 y.1, [.row (.i64 y.2) 0])
theorem laws_markInt64S_den (v283 : List Int) (v284 : Int) : (den TT (tabD laws_markInt64S_tab) (tabM laws_markInt64S_tab) (laws_markInt64S_LO v283 v284) (codeOf Try.f45) ([.own 0 0 v283.length, .int .i64 v284] ++ List.replicate (Try.f45.ntmps - ([.own 0 0 v283.length, .int .i64 v284] : List DV).length) .undef) [.row (.i64 v283) 0]).bind (retD TT Try.f45.results.toList 1) = (laws_markInt64S_T v283 v284).bind fun y => .leaf (laws_markInt64S_enc v283 v284 y) := by kernel_rfl
theorem laws_markInt64S_fn (v283 : List Int) (v284 : Int) (F : Fr) (hm : F.ids.length = 1) (h0 : St F [.row (.i64 v283) 0] F.H0) (hA : DVs.Ok F [.row (.i64 v283) 0] [.own 0 0 v283.length, .int .i64 v284]) {y : Int × (List Int)} (hy : laws_markInt64S_g v283 v284 = some y) : ∃ H', FnOk Try.prog 45 (DVs.av F [.own 0 0 v283.length, .int .i64 v284]) F.H0 ((laws_markInt64S_enc v283 v284 y).1.av F) H' ∧ St F (laws_markInt64S_enc v283 v284 y).2 H' ∧ (laws_markInt64S_enc v283 v284 y).1.Ok F (laws_markInt64S_enc v283 v284 y).2 :=
  fn_fin tok laws_markInt64S_hO mixed Try.func45 Try.call45 (by kernel_rfl) (LoopsOk_eq (l := [(0, bodyOf Try.f45 0)]) (by kernel_rfl) ⟨laws_markInt64S_l0_ok v283 v284, trivial⟩) (laws_markInt64S_den v283 v284) hy hm h0 hA
noncomputable def laws_markInt64S_F : DFn := fun args L =>
  match args with
  | [a1, .int .i64 v284] =>
    optT (ownI64 L a1) fun qv283 =>
    (match sepB [qv283.1] [] with
    | true =>
    .call (laws_markInt64S_g qv283.2 v284) fun y => .grd (decide (y.2.length = qv283.2.length)) (.leaf (.int .i64 y.1, setRows L ([qv283.1].zip [.i64 y.2])))
    | false => .fail)
  | _ => .fail
theorem laws_markInt64S_Fok : COk Try.prog 45 laws_markInt64S_F false := by
  intro F L H args r L' hs ha hr
  unfold laws_markInt64S_F at hr
  split at hr
  · rename_i a1 v284
    obtain ⟨⟨jv283, v283⟩, hqv283, hr⟩ := optT_run hr
    simp only at hr
    split at hr
    · rename_i hsep
      obtain ⟨hnd, hsepv⟩ := sepB_spec hsep
      simp only [Tree.run] at hr
      obtain ⟨y, hy, hr⟩ := Option.bind_eq_some_iff.1 hr
      try simp only [Tree.run] at hr
      obtain ⟨hl0, hr⟩ := ite_run hr
      simp only [Option.some.injEq, Prod.mk.injEq] at hr
      obtain ⟨rfl, rfl⟩ := hr
      obtain ⟨hr0, hu0, ha0, hb0⟩ := (ownR_spec (DVs.okAt ha 0 rfl) (ownI64_or hqv283))
      exact mut_ok hs (fun k => (([a1.av F] : List AV)[k]?).getD .top) [a1, .int .i64 v284] [.own 0 0 v283.length, .int .i64 v284] [jv283] [.i64 v283] [.i64 y.2] hnd rfl rfl (fun i j q h1 h2 => by
          rcases i with _ | i
          · simp at h1 h2; subst h1; subst h2; exact hr0
          · simp at h1) (fun i q q' h1 h2 => by
          rcases i with _ | i
          · simp at h1 h2; subst h1; subst h2; exact of_decide_eq_true hl0
          · simp at h1) (fun j hj => by simp at hj; subst hj; simp [DVs.refs, DV.refs, hu0]) (fun F' h0 hi hρ hst hS => ⟨by (have ab0 : F'.abs 0 = F.abs jv283 := (by simp [Fr.abs, hi]); simp [DVs.av, DV.av, BR.av, hρ, Row.len, ha0, ab0]), by
          obtain ⟨H1, k1, k2, _⟩ := laws_markInt64S_fn v283 v284 F' (by rw [hi]; rfl) hst ⟨⟨_, rfl, Nat.le_refl _, Nat.le_refl _, fun _ => rfl, (ownR_spec (DVs.okAt ha 0 rfl) (ownI64_or hqv283)).2.2.2⟩, trivial, trivial⟩ hy
          exact ⟨H1, k1, k2⟩⟩) (fun F' => rfl) (fun L' => trivial)
    · cases hr
  · cases hr
/-! laws.markFloat32S -/
noncomputable def laws_markFloat32S_i1_l0_T (s : Unit) : Tree ((Unit) ⊕ (Unit)) :=
  (.br (decide ((0 : Int) < (0 : Int))) (
   .fail
  ) (
   .leaf (.inr ())
  ))

noncomputable def laws_markFloat32S_i1_l0_g (s0 : Unit) : Option (Unit) := whileM (fun s => (laws_markFloat32S_i1_l0_T s).run) s0
def laws_markFloat32S_i1_l0_E (v299 : Int) (s : Unit) : Sd := ([.nilslc, .int .i64 v299, .top, .top, .top, .int .i64 (0 : Int), .top, .top, .top, .top, .top, .top, .top, .top, .top, .top, .top, .top, .top, .top], [])
def laws_markFloat32S_i1_l0_X (v299 : Int) (x : Unit) : Out := (.normal, [.top, .int .i64 v299, .top, .top, .top, .top, .top, .top, .top, .top, .top, .top, .top, .top, .top, .top, .top, .top, .top, .top], [])
def laws_markFloat32S_i1_l0_kill : List Nat := [0, 0, 1, 1, 1, 0, 1, 1, 1, 1, 1, 1, 1, 1, 1, 1, 1, 1, 1, 1]
def laws_markFloat32S_i1_l0_nx : Exit → List Nat
  | .exit 0 => [1, 0, 1, 1, 1, 1, 1, 1, 1, 1, 1, 1, 1, 1, 1, 1, 1, 1, 1, 1]
  | .ret => [1, 1, 1, 1, 0, 1, 1, 1, 1, 1, 1, 1, 1, 1, 1, 1, 1, 1, 1, 1]
  | _ => []
noncomputable def laws_markFloat32S_i1_LO (v299 : Int) : LOr := fun id e L =>
  match id with
  | 0 => .need (normA 0 laws_markFloat32S_i1_l0_kill e L = some (laws_markFloat32S_i1_l0_E v299 ())) (.call (laws_markFloat32S_i1_l0_g ()) fun x => .leaf (laws_markFloat32S_i1_l0_X v299 x))
  | _ => .fail
noncomputable def laws_markFloat32S_i1_tab : List (FuncId × DFn × Bool) := []
theorem laws_markFloat32S_i1_hO : OrcOk Try.prog (tabD laws_markFloat32S_i1_tab) (tabM laws_markFloat32S_i1_tab) := tabD_nil _
theorem laws_markFloat32S_i1_l0_be (v299 : Int) (s : Unit) : bodyT TT (tabD laws_markFloat32S_i1_tab) (tabM laws_markFloat32S_i1_tab) (laws_markFloat32S_i1_LO v299) 0 laws_markFloat32S_i1_l0_kill laws_markFloat32S_i1_l0_nx (bodyOf Try.f23 0) 0 (laws_markFloat32S_i1_l0_E v299 s) = (laws_markFloat32S_i1_l0_T s).bind fun y => .leaf (outS (laws_markFloat32S_i1_l0_E v299) (laws_markFloat32S_i1_l0_X v299) y) := by kernel_rfl
theorem laws_markFloat32S_i1_l0_ok (v299 : Int) : LSound Try.prog 0 (laws_markFloat32S_i1_LO v299) 0 (bodyOf Try.f23 0) := by
  intro e L out h
  exact lo_ok (E := laws_markFloat32S_i1_l0_E v299) (gT := laws_markFloat32S_i1_l0_T) (X := laws_markFloat32S_i1_l0_X v299) (s0 := ()) tok laws_markFloat32S_i1_hO mixed (LoopsOk_eq (l := []) (by kernel_rfl) trivial) (laws_markFloat32S_i1_l0_be v299) rfl (by intro x; rfl) h
noncomputable def laws_markFloat32S_i1_T (v299 : Int) : Tree (Int) :=
  (.need (some (laws_markFloat32S_i1_l0_E v299 ()) = some (laws_markFloat32S_i1_l0_E v299 ())) <|
  (.call (laws_markFloat32S_i1_l0_g ()) fun v302 =>
  .leaf v299))

noncomputable def laws_markFloat32S_i1_g (v299 : Int) : Option (Int) := (laws_markFloat32S_i1_T v299).run
def laws_markFloat32S_i1_enc (v299 : Int) (y : Int) : Rs := (.int .i64 y, [])
theorem laws_markFloat32S_i1_den (v299 : Int) : (den TT (tabD laws_markFloat32S_i1_tab) (tabM laws_markFloat32S_i1_tab) (laws_markFloat32S_i1_LO v299) (codeOf Try.f23) ([.nilslc, .int .i64 v299] ++ List.replicate (Try.f23.ntmps - ([.nilslc, .int .i64 v299] : List DV).length) .undef) []).bind (retD TT Try.f23.results.toList 0) = (laws_markFloat32S_i1_T v299).bind fun y => .leaf (laws_markFloat32S_i1_enc v299 y) := by kernel_rfl
theorem laws_markFloat32S_i1_fn (v299 : Int) (F : Fr) (hm : F.ids.length = 0) (h0 : St F [] F.H0) (hA : DVs.Ok F [] [.nilslc, .int .i64 v299]) {y : Int} (hy : laws_markFloat32S_i1_g v299 = some y) : ∃ H', FnOk Try.prog 23 (DVs.av F [.nilslc, .int .i64 v299]) F.H0 ((laws_markFloat32S_i1_enc v299 y).1.av F) H' ∧ St F (laws_markFloat32S_i1_enc v299 y).2 H' ∧ (laws_markFloat32S_i1_enc v299 y).1.Ok F (laws_markFloat32S_i1_enc v299 y).2 :=
  fn_fin tok laws_markFloat32S_i1_hO mixed Try.func23 Try.call23 (by kernel_rfl) (LoopsOk_eq (l := [(0, bodyOf Try.f23 0)]) (by kernel_rfl) ⟨laws_markFloat32S_i1_l0_ok v299, trivial⟩) (laws_markFloat32S_i1_den v299) hy hm h0 hA
noncomputable def laws_markFloat32S_i1_F : DFn := fun args L =>
  match args with
  | [.nilslc, .int .i64 v299] =>
    .call (laws_markFloat32S_i1_g v299) fun y => .leaf (.int .i64 y, L)
  | _ => .fail
theorem laws_markFloat32S_i1_Fok : COk Try.prog 23 laws_markFloat32S_i1_F true := by
  intro F L H args r L' hs ha hr
  unfold laws_markFloat32S_i1_F at hr
  split at hr
  · rename_i v299
    simp only [Tree.run] at hr
    obtain ⟨y, hy, hr⟩ := Option.bind_eq_some_iff.1 hr
    simp only [Tree.run, Option.some.injEq, Prod.mk.injEq] at hr
    obtain ⟨rfl, rfl⟩ := hr
    exact call_ok0 hs (fun k => (([] : List AV)[k]?).getD .top) [.nilslc, .int .i64 v299] [.nilslc, .int .i64 v299] (fun F' h0 hi hρ => ⟨by simp [DVs.av, DV.av, BR.av, hρ], laws_markFloat32S_i1_fn v299 F' (by rw [hi]; rfl) (st_nil hi) ⟨trivial, trivial, trivial⟩ hy⟩) rfl
  · cases hr
/-! laws.markMatrix -/
noncomputable def laws_markMatrix_i1_LO (v296 : Int) (v297 : Int) (v298 : Int) : LOr := fun id e L =>
  match id with
  | _ => .fail
noncomputable def laws_markMatrix_i1_tab : List (FuncId × DFn × Bool) := [(23, laws_markFloat32S_i1_F, true)]
theorem laws_markMatrix_i1_hO : OrcOk Try.prog (tabD laws_markMatrix_i1_tab) (tabM laws_markMatrix_i1_tab) := tabD_cons laws_markFloat32S_i1_Fok (tabD_nil _)
noncomputable def laws_markMatrix_i1_T (v298 : Int) : Tree (Int) :=
  (.call (laws_markFloat32S_i1_g v298) fun v303 =>
  .leaf v303)

noncomputable def laws_markMatrix_i1_g (v298 : Int) : Option (Int) := (laws_markMatrix_i1_T v298).run
def laws_markMatrix_i1_enc (v296 : Int) (v297 : Int) (v298 : Int) (y : Int) : Rs := (.int .i64 y, [])
theorem laws_markMatrix_i1_den (v296 : Int) (v297 : Int) (v298 : Int) : (den TT (tabD laws_markMatrix_i1_tab) (tabM laws_markMatrix_i1_tab) (laws_markMatrix_i1_LO v296 v297 v298) (codeOf Try.f34) ([.agg [.int .i64 v296, .int .i64 v297, .nilslc], .int .i64 v298] ++ List.replicate (Try.f34.ntmps - ([.agg [.int .i64 v296, .int .i64 v297, .nilslc], .int .i64 v298] : List DV).length) .undef) []).bind (retD TT Try.f34.results.toList 0) = (laws_markMatrix_i1_T v298).bind fun y => .leaf (laws_markMatrix_i1_enc v296 v297 v298 y) := by kernel_rfl
theorem laws_markMatrix_i1_fn (v296 : Int) (v297 : Int) (v298 : Int) (F : Fr) (hm : F.ids.length = 0) (h0 : St F [] F.H0) (hA : DVs.Ok F [] [.agg [.int .i64 v296, .int .i64 v297, .nilslc], .int .i64 v298]) {y : Int} (hy : laws_markMatrix_i1_g v298 = some y) : ∃ H', FnOk Try.prog 34 (DVs.av F [.agg [.int .i64 v296, .int .i64 v297, .nilslc], .int .i64 v298]) F.H0 ((laws_markMatrix_i1_enc v296 v297 v298 y).1.av F) H' ∧ St F (laws_markMatrix_i1_enc v296 v297 v298 y).2 H' ∧ (laws_markMatrix_i1_enc v296 v297 v298 y).1.Ok F (laws_markMatrix_i1_enc v296 v297 v298 y).2 :=
  fn_fin tok laws_markMatrix_i1_hO mixed Try.func34 Try.call34 (by kernel_rfl) (LoopsOk_eq (l := []) (by kernel_rfl) trivial) (laws_markMatrix_i1_den v296 v297 v298) hy hm h0 hA
noncomputable def laws_markMatrix_i1_F : DFn := fun args L =>
  match args with
  | [.agg [.int .i64 v296, .int .i64 v297, .nilslc], .int .i64 v298] =>
    .call (laws_markMatrix_i1_g v298) fun y => .leaf (.int .i64 y, L)
  | _ => .fail
theorem laws_markMatrix_i1_Fok : COk Try.prog 34 laws_markMatrix_i1_F true := by
  intro F L H args r L' hs ha hr
  unfold laws_markMatrix_i1_F at hr
  split at hr
  · rename_i v296 v297 v298
    simp only [Tree.run] at hr
    obtain ⟨y, hy, hr⟩ := Option.bind_eq_some_iff.1 hr
    simp only [Tree.run, Option.some.injEq, Prod.mk.injEq] at hr
    obtain ⟨rfl, rfl⟩ := hr
    exact call_ok0 hs (fun k => (([] : List AV)[k]?).getD .top) [.agg [.int .i64 v296, .int .i64 v297, .nilslc], .int .i64 v298] [.agg [.int .i64 v296, .int .i64 v297, .nilslc], .int .i64 v298] (fun F' h0 hi hρ => ⟨by simp [DVs.av, DV.av, BR.av, hρ], laws_markMatrix_i1_fn v296 v297 v298 F' (by rw [hi]; rfl) (st_nil hi) ⟨⟨trivial, trivial, trivial, trivial⟩, trivial, trivial⟩ hy⟩) rfl
  · cases hr
/-! laws.heldFloat32S -/
noncomputable def laws_heldFloat32S_l0_T (v309 : List Nat) (s : Int × Int) : Tree ((Int × Int) ⊕ ((Unit) ⊕ (Int))) :=
  (.br (decide (s.2 < ((v309.length : Nat) : Int))) (
   (.grd (inb s.2 v309.length) <|
   (.br (!feq .f32 (nth v309 (Int.toNat s.2)) (fofint .f32 s.1)) (
    .leaf (.inr (.inl ()))
   ) (
    .leaf (.inl (IntKind.i64.wrap (s.1 + (1 : Int)), IntKind.i64.wrap (s.2 + (1 : Int))))
   )))
  ) (
   .leaf (.inr (.inr s.1))
  ))

noncomputable def laws_heldFloat32S_l0_g (v309 : List Nat) (s0 : Int × Int) : Option ((Unit) ⊕ (Int)) := whileM (fun s => (laws_heldFloat32S_l0_T v309 s).run) s0
def laws_heldFloat32S_l0_E (v309 : List Nat) (v310 : Int) (s : Int × Int) : Sd := ([.bslc (BR.root 0) (.f32 v309), .int .i64 s.1, .top, .top, .top, .int .i64 s.2, .top, .top, .top, .top, .top, .top, .top, .top, .top, .top, .top, .top, .top, .top, .top, .top], [])
def laws_heldFloat32S_l0_X (v309 : List Nat) (v310 : Int) (x : (Unit) ⊕ (Int)) : Out := (match x with | .inl x => (.ret, [.top, .top, .top, .top, .int .i64 (-1 : Int), .top, .top, .top, .top, .top, .top, .top, .top, .top, .top, .top, .top, .top, .top, .top, .top, .top], []) | .inr x => (.normal, [.top, .int .i64 x, .top, .top, .top, .top, .top, .top, .top, .top, .top, .top, .top, .top, .top, .top, .top, .top, .top, .top, .top, .top], []))
def laws_heldFloat32S_l0_kill : List Nat := [0, 0, 1, 1, 1, 0, 1, 1, 1, 1, 1, 1, 1, 1, 1, 1, 1, 1, 1, 1, 1, 1]
def laws_heldFloat32S_l0_nx : Exit → List Nat
  | .exit 0 => [1, 0, 1, 1, 1, 1, 1, 1, 1, 1, 1, 1, 1, 1, 1, 1, 1, 1, 1, 1, 1, 1]
  | .ret => [1, 1, 1, 1, 0, 1, 1, 1, 1, 1, 1, 1, 1, 1, 1, 1, 1, 1, 1, 1, 1, 1]
  | _ => []
noncomputable def laws_heldFloat32S_LO (v309 : List Nat) (v310 : Int) : LOr := fun id e L =>
  match id with
  | 0 => .need (normA 0 laws_heldFloat32S_l0_kill e L = some (laws_heldFloat32S_l0_E v309 v310 ((gI (vAt e 1)), (gI (vAt e 5))))) (.call (laws_heldFloat32S_l0_g v309 ((gI (vAt e 1)), (gI (vAt e 5)))) fun x => .sum x (fun b0 => .leaf (laws_heldFloat32S_l0_X v309 v310 (.inl b0))) (fun c0 => .leaf (laws_heldFloat32S_l0_X v309 v310 (.inr c0))))
  | _ => .fail
noncomputable def laws_heldFloat32S_tab : List (FuncId × DFn × Bool) := []
theorem laws_heldFloat32S_hO : OrcOk Try.prog (tabD laws_heldFloat32S_tab) (tabM laws_heldFloat32S_tab) := tabD_nil _
theorem laws_heldFloat32S_l0_be (v309 : List Nat) (v310 : Int) (s : Int × Int) : bodyT TT (tabD laws_heldFloat32S_tab) (tabM laws_heldFloat32S_tab) (laws_heldFloat32S_LO v309 v310) 0 laws_heldFloat32S_l0_kill laws_heldFloat32S_l0_nx (bodyOf Try.f24 0) 0 (laws_heldFloat32S_l0_E v309 v310 s) = (laws_heldFloat32S_l0_T v309 s).bind fun y => .leaf (outS (laws_heldFloat32S_l0_E v309 v310) (laws_heldFloat32S_l0_X v309 v310) y) := by kernel_rfl
theorem laws_heldFloat32S_l0_ok (v309 : List Nat) (v310 : Int) : LSound Try.prog 0 (laws_heldFloat32S_LO v309 v310) 0 (bodyOf Try.f24 0) := by
  intro e L out h
  exact lo_ok (E := laws_heldFloat32S_l0_E v309 v310) (gT := laws_heldFloat32S_l0_T v309) (X := laws_heldFloat32S_l0_X v309 v310) (s0 := ((gI (vAt e 1)), (gI (vAt e 5)))) tok laws_heldFloat32S_hO mixed (LoopsOk_eq (l := []) (by kernel_rfl) trivial) (laws_heldFloat32S_l0_be v309 v310) rfl (by intro x; (cases x with | inl b => rfl | inr x => exact rfl)) h
noncomputable def laws_heldFloat32S_T (v309 : List Nat) (v310 : Int) : Tree (Int) :=
  (.need (some (laws_heldFloat32S_l0_E v309 v310 (v310, (0 : Int))) = some (laws_heldFloat32S_l0_E v309 v310 (v310, (0 : Int)))) <|
  (.call (laws_heldFloat32S_l0_g v309 (v310, (0 : Int))) fun v317 =>
  (.sum v317 (fun v318 =>
   .leaf (-1 : Int)
  ) (fun v319 =>
   .leaf v319
  ))))

noncomputable def laws_heldFloat32S_g (v309 : List Nat) (v310 : Int) : Option (Int) := (laws_heldFloat32S_T v309 v310).run
def laws_heldFloat32S_enc (v309 : List Nat) (v310 : Int) (y : Int) : Rs := (.int .i64 y, [])
theorem laws_heldFloat32S_den (v309 : List Nat) (v310 : Int) : (den TT (tabD laws_heldFloat32S_tab) (tabM laws_heldFloat32S_tab) (laws_heldFloat32S_LO v309 v310) (codeOf Try.f24) ([.bslc (BR.root 0) (.f32 v309), .int .i64 v310] ++ List.replicate (Try.f24.ntmps - ([.bslc (BR.root 0) (.f32 v309), .int .i64 v310] : List DV).length) .undef) []).bind (retD TT Try.f24.results.toList 0) = (laws_heldFloat32S_T v309 v310).bind fun y => .leaf (laws_heldFloat32S_enc v309 v310 y) := by kernel_rfl
theorem laws_heldFloat32S_fn (v309 : List Nat) (v310 : Int) (F : Fr) (hm : F.ids.length = 0) (h0 : St F [] F.H0) (hA : DVs.Ok F [] [.bslc (BR.root 0) (.f32 v309), .int .i64 v310]) {y : Int} (hy : laws_heldFloat32S_g v309 v310 = some y) : ∃ H', FnOk Try.prog 24 (DVs.av F [.bslc (BR.root 0) (.f32 v309), .int .i64 v310]) F.H0 ((laws_heldFloat32S_enc v309 v310 y).1.av F) H' ∧ St F (laws_heldFloat32S_enc v309 v310 y).2 H' ∧ (laws_heldFloat32S_enc v309 v310 y).1.Ok F (laws_heldFloat32S_enc v309 v310 y).2 :=
  fn_fin tok laws_heldFloat32S_hO mixed Try.func24 Try.call24 (by kernel_rfl) (LoopsOk_eq (l := [(0, bodyOf Try.f24 0)]) (by kernel_rfl) ⟨laws_heldFloat32S_l0_ok v309 v310, trivial⟩) (laws_heldFloat32S_den v309 v310) hy hm h0 hA
noncomputable def laws_heldFloat32S_F : DFn := fun args L =>
  match args with
  | [a1, .int .i64 v310] =>
    optT (rowF32 L a1) fun v309 =>
    .call (laws_heldFloat32S_g v309 v310) fun y => .leaf (.int .i64 y, L)
  | _ => .fail
theorem laws_heldFloat32S_Fok : COk Try.prog 24 laws_heldFloat32S_F true := by
  intro F L H args r L' hs ha hr
  unfold laws_heldFloat32S_F at hr
  split at hr
  · rename_i a1 v310
    obtain ⟨v309, hv309, hr⟩ := optT_run hr
    simp only [Tree.run] at hr
    obtain ⟨y, hy, hr⟩ := Option.bind_eq_some_iff.1 hr
    simp only [Tree.run, Option.some.injEq, Prod.mk.injEq] at hr
    obtain ⟨rfl, rfl⟩ := hr
    exact call_ok0 hs (fun k => (([a1.av F] : List AV)[k]?).getD .top) [a1, .int .i64 v310] [.bslc (BR.root 0) (.f32 v309), .int .i64 v310] (fun F' h0 hi hρ => ⟨by simp [DVs.av, DV.av, BR.av, hρ], laws_heldFloat32S_fn v309 v310 F' (by rw [hi]; rfl) (st_nil hi) ⟨bslc_ok hi (by rw [h0, hρ]; exact rowF32_ok hs (DVs.okAt ha 0 rfl) hv309), trivial, trivial⟩ hy⟩) rfl
  · cases hr
/-! laws.heldMatrix -/
noncomputable def laws_heldMatrix_LO (v305 : Int) (v306 : Int) (v307 : List Nat) (v308 : Int) : LOr := fun id e L =>
  match id with
  | _ => .fail
noncomputable def laws_heldMatrix_tab : List (FuncId × DFn × Bool) := [(24, laws_heldFloat32S_F, true)]
theorem laws_heldMatrix_hO : OrcOk Try.prog (tabD laws_heldMatrix_tab) (tabM laws_heldMatrix_tab) := tabD_cons laws_heldFloat32S_Fok (tabD_nil _)
noncomputable def laws_heldMatrix_T (v307 : List Nat) (v308 : Int) : Tree (Int) :=
  (.call (laws_heldFloat32S_g v307 v308) fun v320 =>
  (.br (decide (v320 < (0 : Int))) (
   .leaf (-1 : Int)
  ) (
   .leaf v320
  )))

noncomputable def laws_heldMatrix_g (v307 : List Nat) (v308 : Int) : Option (Int) := (laws_heldMatrix_T v307 v308).run
def laws_heldMatrix_enc (v305 : Int) (v306 : Int) (v307 : List Nat) (v308 : Int) (y : Int) : Rs := (.int .i64 y, [])
theorem laws_heldMatrix_den (v305 : Int) (v306 : Int) (v307 : List Nat) (v308 : Int) : (den TT (tabD laws_heldMatrix_tab) (tabM laws_heldMatrix_tab) (laws_heldMatrix_LO v305 v306 v307 v308) (codeOf Try.f35) ([.agg [.int .i64 v305, .int .i64 v306, .bslc (BR.root 0) (.f32 v307)], .int .i64 v308] ++ List.replicate (Try.f35.ntmps - ([.agg [.int .i64 v305, .int .i64 v306, .bslc (BR.root 0) (.f32 v307)], .int .i64 v308] : List DV).length) .undef) []).bind (retD TT Try.f35.results.toList 0) = (laws_heldMatrix_T v307 v308).bind fun y => .leaf (laws_heldMatrix_enc v305 v306 v307 v308 y) := by kernel_rfl
theorem laws_heldMatrix_fn (v305 : Int) (v306 : Int) (v307 : List Nat) (v308 : Int) (F : Fr) (hm : F.ids.length = 0) (h0 : St F [] F.H0) (hA : DVs.Ok F [] [.agg [.int .i64 v305, .int .i64 v306, .bslc (BR.root 0) (.f32 v307)], .int .i64 v308]) {y : Int} (hy : laws_heldMatrix_g v307 v308 = some y) : ∃ H', FnOk Try.prog 35 (DVs.av F [.agg [.int .i64 v305, .int .i64 v306, .bslc (BR.root 0) (.f32 v307)], .int .i64 v308]) F.H0 ((laws_heldMatrix_enc v305 v306 v307 v308 y).1.av F) H' ∧ St F (laws_heldMatrix_enc v305 v306 v307 v308 y).2 H' ∧ (laws_heldMatrix_enc v305 v306 v307 v308 y).1.Ok F (laws_heldMatrix_enc v305 v306 v307 v308 y).2 :=
  fn_fin tok laws_heldMatrix_hO mixed Try.func35 Try.call35 (by kernel_rfl) (LoopsOk_eq (l := []) (by kernel_rfl) trivial) (laws_heldMatrix_den v305 v306 v307 v308) hy hm h0 hA
noncomputable def laws_heldMatrix_F : DFn := fun args L =>
  match args with
  | [.agg [.int .i64 v305, .int .i64 v306, a1], .int .i64 v308] =>
    optT (rowF32 L a1) fun v307 =>
    .call (laws_heldMatrix_g v307 v308) fun y => .leaf (.int .i64 y, L)
  | _ => .fail
theorem laws_heldMatrix_Fok : COk Try.prog 35 laws_heldMatrix_F true := by
  intro F L H args r L' hs ha hr
  unfold laws_heldMatrix_F at hr
  split at hr
  · rename_i v305 v306 a1 v308
    obtain ⟨v307, hv307, hr⟩ := optT_run hr
    simp only [Tree.run] at hr
    obtain ⟨y, hy, hr⟩ := Option.bind_eq_some_iff.1 hr
    simp only [Tree.run, Option.some.injEq, Prod.mk.injEq] at hr
    obtain ⟨rfl, rfl⟩ := hr
    exact call_ok0 hs (fun k => (([a1.av F] : List AV)[k]?).getD .top) [.agg [.int .i64 v305, .int .i64 v306, a1], .int .i64 v308] [.agg [.int .i64 v305, .int .i64 v306, .bslc (BR.root 0) (.f32 v307)], .int .i64 v308] (fun F' h0 hi hρ => ⟨by simp [DVs.av, DV.av, BR.av, hρ], laws_heldMatrix_fn v305 v306 v307 v308 F' (by rw [hi]; rfl) (st_nil hi) ⟨⟨trivial, trivial, bslc_ok hi (by rw [h0, hρ]; exact rowF32_ok hs (DVs.okAt (DVs.okAt ha 0 rfl) 2 rfl) hv307), trivial⟩, trivial, trivial⟩ hy⟩) rfl
  · cases hr
/-! laws.FnExactOrderRows -/
noncomputable def laws_FnExactOrderRows_LO (v1 : Int) (v2 : Int) (v3 : List Nat) (v4 : List Int) : LOr := fun id e L =>
  match id with
  | _ => .fail
noncomputable def laws_FnExactOrderRows_tab : List (FuncId × DFn × Bool) := [(29, laws_szMatrix_F, true), (31, laws_toMatrix_F, true), (42, laws_toInt64S_F, true), (41, spec_OrderRows_F, true), (43, impl_OrderRows_F, true), (33, laws_eqMatrix_F, true), (44, laws_eqInt64S_F, true), (34, (orD (fun args => match args with | [.agg [_, _, .nilslc], _] => true | _ => false) laws_markMatrix_i1_F laws_markMatrix_F), false), (45, laws_markInt64S_F, false), (35, laws_heldMatrix_F, true)]
theorem laws_FnExactOrderRows_hO : OrcOk Try.prog (tabD laws_FnExactOrderRows_tab) (tabM laws_FnExactOrderRows_tab) := tabD_cons laws_szMatrix_Fok (tabD_cons laws_toMatrix_Fok (tabD_cons laws_toInt64S_Fok (tabD_cons spec_OrderRows_Fok (tabD_cons impl_OrderRows_Fok (tabD_cons laws_eqMatrix_Fok (tabD_cons laws_eqInt64S_Fok (tabD_cons (orD_ok (COk.weak laws_markMatrix_i1_Fok) laws_markMatrix_Fok) (tabD_cons laws_markInt64S_Fok (tabD_cons laws_heldMatrix_Fok (tabD_nil _))))))))))
noncomputable def laws_FnExactOrderRows_T (v1 : Int) (v2 : Int) (v3 : List Nat) (v4 : List Int) : Tree (Bool) :=
  (.br (decide ((1048576 : Int) < ((v4.length : Nat) : Int))) (
   .leaf true
  ) (
   (.br (decide ((laws_szMatrix_v v3 (1048576 : Int)) < (0 : Int))) (
    .leaf true
   ) (
    (.call (laws_toMatrix_g v1 v2 v3) fun v22 =>
    (.call (laws_toInt64S_g v4) fun v30 =>
    (.call (spec_OrderRows_g v22.1 v22.2.1 v22.2.2 v30) fun v71 =>
    (.sum v71 (fun v72 =>
     (.call (laws_toMatrix_g v1 v2 v3) fun v74 =>
     (.call (laws_toInt64S_g v4) fun v75 =>
     (.call (impl_OrderRows_g v74.1 v74.2.1 v74.2.2 v75) fun v221 =>
     (.sum v221 (fun v222 =>
      (.call (laws_eqMatrix_g (0 : Int) (0 : Int) ([] : List Nat) (0 : Int) (0 : Int) ([] : List Nat)) fun v241 =>
      (.br (!v241) (
       .leaf false
      ) (
       (.br (!(false == false)) (
        .leaf false
       ) (
        (.call (laws_toMatrix_g v1 v2 v3) fun v242 =>
        (.call (laws_eqMatrix_g v74.1 v74.2.1 v74.2.2 v242.1 v242.2.1 v242.2.2) fun v243 =>
        (.br (!v243) (
         .leaf false
        ) (
         (.call (laws_toInt64S_g v4) fun v244 =>
         (.call (laws_eqInt64S_g v75 v244) fun v253 =>
         (.br (!v253) (
          .leaf false
         ) (
          (.call (laws_markMatrix_g v74.2.2 (1 : Int)) fun v278 =>
          (.grd (decide (v278.2.length = v74.2.2.length)) <|
          (.call (laws_markInt64S_g v75 v278.1) fun v294 =>
          (.grd (decide (v294.2.length = v75.length)) <|
          (.br (decide (v294.1 < (0 : Int))) (
           .leaf false
          ) (
           (.call (laws_eqMatrix_g (0 : Int) (0 : Int) ([] : List Nat) (0 : Int) (0 : Int) ([] : List Nat)) fun v295 =>
           (.br (!v295) (
            .leaf false
           ) (
            (.br (!(false == false)) (
             .leaf false
            ) (
             (.call (laws_markMatrix_i1_g (1 : Int)) fun v304 =>
             (.call (laws_heldMatrix_g ([] : List Nat) (1 : Int)) fun v321 =>
             (.br (decide (v321 < (0 : Int))) (
              .leaf false
             ) (
              (.br (!decide (v321 = v304)) (
               .leaf false
              ) (
               (.call (laws_toMatrix_g v1 v2 v3) fun v322 =>
               (.call (laws_toInt64S_g v4) fun v323 =>
               (.call (impl_OrderRows_g v322.1 v322.2.1 v322.2.2 v323) fun v324 =>
               (.sum v324 (fun v325 =>
                (.call (laws_eqMatrix_g (0 : Int) (0 : Int) ([] : List Nat) (0 : Int) (0 : Int) ([] : List Nat)) fun v327 =>
                (.br (!v327) (
                 .leaf false
                ) (
                 (.br (!(false == false)) (
                  .leaf false
                 ) (
                  (.call (laws_heldMatrix_g ([] : List Nat) (1 : Int)) fun v328 =>
                  (.br (decide (v328 < (0 : Int))) (
                   .leaf false
                  ) (
                   (.br (!decide (v328 = v304)) (
                    .leaf false
                   ) (
                    .leaf true
                   ))
                  )))
                 ))
                )))
               ) (fun v326 =>
                (.call (laws_eqMatrix_g v326.1 v326.2.1 v326.2.2 (0 : Int) (0 : Int) ([] : List Nat)) fun v329 =>
                (.br (!v329) (
                 .leaf false
                ) (
                 (.br (!(true == false)) (
                  .leaf false
                 ) (
                  (.call (laws_heldMatrix_g ([] : List Nat) (1 : Int)) fun v330 =>
                  (.br (decide (v330 < (0 : Int))) (
                   .leaf false
                  ) (
                   (.br (!decide (v330 = v304)) (
                    .leaf false
                   ) (
                    .leaf true
                   ))
                  )))
                 ))
                )))
               )))))
              ))
             ))))
            ))
           )))
          ))))))
         ))))
        ))))
       ))
      )))
     ) (fun v223 =>
      (.call (laws_eqMatrix_g v223.1 v223.2.1 v223.2.2 (0 : Int) (0 : Int) ([] : List Nat)) fun v331 =>
      (.br (!v331) (
       .leaf false
      ) (
       (.br (!(true == false)) (
        .leaf false
       ) (
        (.call (laws_toMatrix_g v1 v2 v3) fun v332 =>
        (.call (laws_eqMatrix_g v74.1 v74.2.1 v74.2.2 v332.1 v332.2.1 v332.2.2) fun v333 =>
        (.br (!v333) (
         .leaf false
        ) (
         (.call (laws_toInt64S_g v4) fun v334 =>
         (.call (laws_eqInt64S_g v75 v334) fun v335 =>
         (.br (!v335) (
          .leaf false
         ) (
          (.call (laws_markMatrix_g v74.2.2 (1 : Int)) fun v336 =>
          (.grd (decide (v336.2.length = v74.2.2.length)) <|
          (.call (laws_markInt64S_g v75 v336.1) fun v337 =>
          (.grd (decide (v337.2.length = v75.length)) <|
          (.br (decide (v337.1 < (0 : Int))) (
           .leaf false
          ) (
           (.call (laws_eqMatrix_g v223.1 v223.2.1 v223.2.2 (0 : Int) (0 : Int) ([] : List Nat)) fun v338 =>
           (.br (!v338) (
            .leaf false
           ) (
            (.br (!(true == false)) (
             .leaf false
            ) (
             (.call (laws_markMatrix_g v223.2.2 (1 : Int)) fun v339 =>
             (.grd (decide (v339.2.length = v223.2.2.length)) <|
             (.call (laws_heldMatrix_g v339.2 (1 : Int)) fun v340 =>
             (.br (decide (v340 < (0 : Int))) (
              .leaf false
             ) (
              (.br (!decide (v340 = v339.1)) (
               .leaf false
              ) (
               (.call (laws_toMatrix_g v1 v2 v3) fun v341 =>
               (.call (laws_toInt64S_g v4) fun v342 =>
               (.call (impl_OrderRows_g v341.1 v341.2.1 v341.2.2 v342) fun v343 =>
               (.sum v343 (fun v344 =>
                (.call (laws_eqMatrix_g (0 : Int) (0 : Int) ([] : List Nat) (0 : Int) (0 : Int) ([] : List Nat)) fun v346 =>
                (.br (!v346) (
                 .leaf false
                ) (
                 (.br (!(false == false)) (
                  .leaf false
                 ) (
                  (.call (laws_heldMatrix_g v339.2 (1 : Int)) fun v347 =>
                  (.br (decide (v347 < (0 : Int))) (
                   .leaf false
                  ) (
                   (.br (!decide (v347 = v339.1)) (
                    .leaf false
                   ) (
                    .leaf true
                   ))
                  )))
                 ))
                )))
               ) (fun v345 =>
                (.call (laws_eqMatrix_g v345.1 v345.2.1 v345.2.2 (0 : Int) (0 : Int) ([] : List Nat)) fun v348 =>
                (.br (!v348) (
                 .leaf false
                ) (
                 (.br (!(true == false)) (
                  .leaf false
                 ) (
                  (.call (laws_heldMatrix_g v339.2 (1 : Int)) fun v349 =>
                  (.br (decide (v349 < (0 : Int))) (
                   .leaf false
                  ) (
                   (.br (!decide (v349 = v339.1)) (
                    .leaf false
                   ) (
                    .leaf true
                   ))
                  )))
                 ))
                )))
               )))))
              ))
             )))))
            ))
           )))
          ))))))
         ))))
        ))))
       ))
      )))
     )))))
    ) (fun v73 =>
     (.call (laws_toMatrix_g v1 v2 v3) fun v350 =>
     (.call (laws_toInt64S_g v4) fun v351 =>
     (.call (impl_OrderRows_g v350.1 v350.2.1 v350.2.2 v351) fun v352 =>
     (.sum v352 (fun v353 =>
      (.call (laws_eqMatrix_g (0 : Int) (0 : Int) ([] : List Nat) v73.1 v73.2.1 v73.2.2) fun v355 =>
      (.br (!v355) (
       .leaf false
      ) (
       (.br (!(false == true)) (
        .leaf false
       ) (
        (.call (laws_toMatrix_g v1 v2 v3) fun v356 =>
        (.call (laws_eqMatrix_g v350.1 v350.2.1 v350.2.2 v356.1 v356.2.1 v356.2.2) fun v357 =>
        (.br (!v357) (
         .leaf false
        ) (
         (.call (laws_toInt64S_g v4) fun v358 =>
         (.call (laws_eqInt64S_g v351 v358) fun v359 =>
         (.br (!v359) (
          .leaf false
         ) (
          (.call (laws_markMatrix_g v350.2.2 (1 : Int)) fun v360 =>
          (.grd (decide (v360.2.length = v350.2.2.length)) <|
          (.call (laws_markInt64S_g v351 v360.1) fun v361 =>
          (.grd (decide (v361.2.length = v351.length)) <|
          (.br (decide (v361.1 < (0 : Int))) (
           .leaf false
          ) (
           (.call (laws_eqMatrix_g (0 : Int) (0 : Int) ([] : List Nat) v73.1 v73.2.1 v73.2.2) fun v362 =>
           (.br (!v362) (
            .leaf false
           ) (
            (.br (!(false == true)) (
             .leaf false
            ) (
             (.call (laws_markMatrix_i1_g (1 : Int)) fun v363 =>
             (.call (laws_heldMatrix_g ([] : List Nat) (1 : Int)) fun v364 =>
             (.br (decide (v364 < (0 : Int))) (
              .leaf false
             ) (
              (.br (!decide (v364 = v363)) (
               .leaf false
              ) (
               (.call (laws_toMatrix_g v1 v2 v3) fun v365 =>
               (.call (laws_toInt64S_g v4) fun v366 =>
               (.call (impl_OrderRows_g v365.1 v365.2.1 v365.2.2 v366) fun v367 =>
               (.sum v367 (fun v368 =>
                (.call (laws_eqMatrix_g (0 : Int) (0 : Int) ([] : List Nat) v73.1 v73.2.1 v73.2.2) fun v370 =>
                (.br (!v370) (
                 .leaf false
                ) (
                 (.br (!(false == true)) (
                  .leaf false
                 ) (
                  (.call (laws_heldMatrix_g ([] : List Nat) (1 : Int)) fun v371 =>
                  (.br (decide (v371 < (0 : Int))) (
                   .leaf false
                  ) (
                   (.br (!decide (v371 = v363)) (
                    .leaf false
                   ) (
                    .leaf true
                   ))
                  )))
                 ))
                )))
               ) (fun v369 =>
                (.call (laws_eqMatrix_g v369.1 v369.2.1 v369.2.2 v73.1 v73.2.1 v73.2.2) fun v372 =>
                (.br (!v372) (
                 .leaf false
                ) (
                 (.br (!(true == true)) (
                  .leaf false
                 ) (
                  (.call (laws_heldMatrix_g ([] : List Nat) (1 : Int)) fun v373 =>
                  (.br (decide (v373 < (0 : Int))) (
                   .leaf false
                  ) (
                   (.br (!decide (v373 = v363)) (
                    .leaf false
                   ) (
                    .leaf true
                   ))
                  )))
                 ))
                )))
               )))))
              ))
             ))))
            ))
           )))
          ))))))
         ))))
        ))))
       ))
      )))
     ) (fun v354 =>
      (.call (laws_eqMatrix_g v354.1 v354.2.1 v354.2.2 v73.1 v73.2.1 v73.2.2) fun v374 =>
      (.br (!v374) (
       .leaf false
      ) (
       (.br (!(true == true)) (
        .leaf false
       ) (
        (.call (laws_toMatrix_g v1 v2 v3) fun v375 =>
        (.call (laws_eqMatrix_g v350.1 v350.2.1 v350.2.2 v375.1 v375.2.1 v375.2.2) fun v376 =>
        (.br (!v376) (
         .leaf false
        ) (
         (.call (laws_toInt64S_g v4) fun v377 =>
         (.call (laws_eqInt64S_g v351 v377) fun v378 =>
         (.br (!v378) (
          .leaf false
         ) (
          (.call (laws_markMatrix_g v350.2.2 (1 : Int)) fun v379 =>
          (.grd (decide (v379.2.length = v350.2.2.length)) <|
          (.call (laws_markInt64S_g v351 v379.1) fun v380 =>
          (.grd (decide (v380.2.length = v351.length)) <|
          (.br (decide (v380.1 < (0 : Int))) (
           .leaf false
          ) (
           (.call (laws_eqMatrix_g v354.1 v354.2.1 v354.2.2 v73.1 v73.2.1 v73.2.2) fun v381 =>
           (.br (!v381) (
            .leaf false
           ) (
            (.br (!(true == true)) (
             .leaf false
            ) (
             (.call (laws_markMatrix_g v354.2.2 (1 : Int)) fun v382 =>
             (.grd (decide (v382.2.length = v354.2.2.length)) <|
             (.call (laws_heldMatrix_g v382.2 (1 : Int)) fun v383 =>
             (.br (decide (v383 < (0 : Int))) (
              .leaf false
             ) (
              (.br (!decide (v383 = v382.1)) (
               .leaf false
              ) (
               (.call (laws_toMatrix_g v1 v2 v3) fun v384 =>
               (.call (laws_toInt64S_g v4) fun v385 =>
               (.call (impl_OrderRows_g v384.1 v384.2.1 v384.2.2 v385) fun v386 =>
               (.sum v386 (fun v387 =>
                (.call (laws_eqMatrix_g (0 : Int) (0 : Int) ([] : List Nat) v73.1 v73.2.1 v73.2.2) fun v389 =>
                (.br (!v389) (
                 .leaf false
                ) (
                 (.br (!(false == true)) (
                  .leaf false
                 ) (
                  (.call (laws_heldMatrix_g v382.2 (1 : Int)) fun v390 =>
                  (.br (decide (v390 < (0 : Int))) (
                   .leaf false
                  ) (
                   (.br (!decide (v390 = v382.1)) (
                    .leaf false
                   ) (
                    .leaf true
                   ))
                  )))
                 ))
                )))
               ) (fun v388 =>
                (.call (laws_eqMatrix_g v388.1 v388.2.1 v388.2.2 v73.1 v73.2.1 v73.2.2) fun v391 =>
                (.br (!v391) (
                 .leaf false
                ) (
                 (.br (!(true == true)) (
                  .leaf false
                 ) (
                  (.call (laws_heldMatrix_g v382.2 (1 : Int)) fun v392 =>
                  (.br (decide (v392 < (0 : Int))) (
                   .leaf false
                  ) (
                   (.br (!decide (v392 = v382.1)) (
                    .leaf false
                   ) (
                    .leaf true
                   ))
                  )))
                 ))
                )))
               )))))
              ))
             )))))
            ))
           )))
          ))))))
         ))))
        ))))
       ))
      )))
     )))))
    )))))
   ))
  ))

noncomputable def laws_FnExactOrderRows_g (v1 : Int) (v2 : Int) (v3 : List Nat) (v4 : List Int) : Option (Bool) := (laws_FnExactOrderRows_T v1 v2 v3 v4).run
def laws_FnExactOrderRows_enc (v1 : Int) (v2 : Int) (v3 : List Nat) (v4 : List Int) (y : Bool) : Rs := (.bool y, [])
theorem laws_FnExactOrderRows_den (v1 : Int) (v2 : Int) (v3 : List Nat) (v4 : List Int) : (den TT (tabD laws_FnExactOrderRows_tab) (tabM laws_FnExactOrderRows_tab) (laws_FnExactOrderRows_LO v1 v2 v3 v4) (codeOf Try.f8) ([.agg [.int .i64 v1, .int .i64 v2, .bslc (BR.root 0) (.f32 v3)], .bslc (BR.root 1) (.i64 v4)] ++ List.replicate (Try.f8.ntmps - ([.agg [.int .i64 v1, .int .i64 v2, .bslc (BR.root 0) (.f32 v3)], .bslc (BR.root 1) (.i64 v4)] : List DV).length) .undef) []).bind (retD TT Try.f8.results.toList 0) = (laws_FnExactOrderRows_T v1 v2 v3 v4).bind fun y => .leaf (laws_FnExactOrderRows_enc v1 v2 v3 v4 y) := by kernel_rfl
theorem laws_FnExactOrderRows_fn (v1 : Int) (v2 : Int) (v3 : List Nat) (v4 : List Int) (F : Fr) (hm : F.ids.length = 0) (h0 : St F [] F.H0) (hA : DVs.Ok F [] [.agg [.int .i64 v1, .int .i64 v2, .bslc (BR.root 0) (.f32 v3)], .bslc (BR.root 1) (.i64 v4)]) {y : Bool} (hy : laws_FnExactOrderRows_g v1 v2 v3 v4 = some y) : ∃ H', FnOk Try.prog 8 (DVs.av F [.agg [.int .i64 v1, .int .i64 v2, .bslc (BR.root 0) (.f32 v3)], .bslc (BR.root 1) (.i64 v4)]) F.H0 ((laws_FnExactOrderRows_enc v1 v2 v3 v4 y).1.av F) H' ∧ St F (laws_FnExactOrderRows_enc v1 v2 v3 v4 y).2 H' ∧ (laws_FnExactOrderRows_enc v1 v2 v3 v4 y).1.Ok F (laws_FnExactOrderRows_enc v1 v2 v3 v4 y).2 :=
  fn_fin tok laws_FnExactOrderRows_hO mixed Try.func8 Try.call8 (by kernel_rfl) (LoopsOk_eq (l := []) (by kernel_rfl) trivial) (laws_FnExactOrderRows_den v1 v2 v3 v4) hy hm h0 hA
noncomputable def laws_FnExactOrderRows_F : DFn := fun args L =>
  match args with
  | [.agg [.int .i64 v1, .int .i64 v2, a1], a2] =>
    optT (rowF32 L a1) fun v3 =>
    optT (rowI64 L a2) fun v4 =>
    .call (laws_FnExactOrderRows_g v1 v2 v3 v4) fun y => .leaf (.bool y, L)
  | _ => .fail
theorem laws_FnExactOrderRows_Fok : COk Try.prog 8 laws_FnExactOrderRows_F true := by
  intro F L H args r L' hs ha hr
  unfold laws_FnExactOrderRows_F at hr
  split at hr
  · rename_i v1 v2 a1 a2
    obtain ⟨v3, hv3, hr⟩ := optT_run hr
    obtain ⟨v4, hv4, hr⟩ := optT_run hr
    simp only [Tree.run] at hr
    obtain ⟨y, hy, hr⟩ := Option.bind_eq_some_iff.1 hr
    simp only [Tree.run, Option.some.injEq, Prod.mk.injEq] at hr
    obtain ⟨rfl, rfl⟩ := hr
    exact call_ok0 hs (fun k => (([a1.av F, a2.av F] : List AV)[k]?).getD .top) [.agg [.int .i64 v1, .int .i64 v2, a1], a2] [.agg [.int .i64 v1, .int .i64 v2, .bslc (BR.root 0) (.f32 v3)], .bslc (BR.root 1) (.i64 v4)] (fun F' h0 hi hρ => ⟨by simp [DVs.av, DV.av, BR.av, hρ], laws_FnExactOrderRows_fn v1 v2 v3 v4 F' (by rw [hi]; rfl) (st_nil hi) ⟨⟨trivial, trivial, bslc_ok hi (by rw [h0, hρ]; exact rowF32_ok hs (DVs.okAt (DVs.okAt ha 0 rfl) 2 rfl) hv3), trivial⟩, bslc_ok hi (by rw [h0, hρ]; exact rowI64_ok hs (DVs.okAt ha 1 rfl) hv4), trivial⟩ hy⟩) rfl
  · cases hr
/-! laws.szFloat32S -/
noncomputable def laws_szFloat32S_len_LO (v401 : Nat) (v402 : Int) : LOr := fun id e L =>
  match id with
  | _ => .fail
noncomputable def laws_szFloat32S_len_tab : List (FuncId × DFn × Bool) := []
theorem laws_szFloat32S_len_hO : OrcOk Try.prog (tabD laws_szFloat32S_len_tab) (tabM laws_szFloat32S_len_tab) := tabD_nil _
noncomputable def laws_szFloat32S_len_T (v401 : Nat) (v402 : Int) : Tree (Int) :=
  (.br (decide (IntKind.i64.wrap (v402 - ((v401 : Nat) : Int)) < (0 : Int))) (
   .leaf (-1 : Int)
  ) (
   .leaf (IntKind.i64.wrap (v402 - ((v401 : Nat) : Int)))
  ))

noncomputable def laws_szFloat32S_len_g (v401 : Nat) (v402 : Int) : Option (Int) := (laws_szFloat32S_len_T v401 v402).run
def laws_szFloat32S_len_enc (v401 : Nat) (v402 : Int) (y : Int) : Rs := (.int .i64 y, [])
theorem laws_szFloat32S_len_den (v401 : Nat) (v402 : Int) : (den TT (tabD laws_szFloat32S_len_tab) (tabM laws_szFloat32S_len_tab) (laws_szFloat32S_len_LO v401 v402) (codeOf Try.f64) ([.hslc (BR.root 0) v401, .int .i64 v402] ++ List.replicate (Try.f64.ntmps - ([.hslc (BR.root 0) v401, .int .i64 v402] : List DV).length) .undef) []).bind (retD TT Try.f64.results.toList 0) = (laws_szFloat32S_len_T v401 v402).bind fun y => .leaf (laws_szFloat32S_len_enc v401 v402 y) := by kernel_rfl
theorem laws_szFloat32S_len_fn (v401 : Nat) (v402 : Int) (F : Fr) (hm : F.ids.length = 0) (h0 : St F [] F.H0) (hA : DVs.Ok F [] [.hslc (BR.root 0) v401, .int .i64 v402]) {y : Int} (hy : laws_szFloat32S_len_g v401 v402 = some y) : ∃ H', FnOk Try.prog 64 (DVs.av F [.hslc (BR.root 0) v401, .int .i64 v402]) F.H0 ((laws_szFloat32S_len_enc v401 v402 y).1.av F) H' ∧ St F (laws_szFloat32S_len_enc v401 v402 y).2 H' ∧ (laws_szFloat32S_len_enc v401 v402 y).1.Ok F (laws_szFloat32S_len_enc v401 v402 y).2 :=
  fn_fin tok laws_szFloat32S_len_hO mixed Try.func64 Try.call64 (by kernel_rfl) (LoopsOk_eq (l := []) (by kernel_rfl) trivial) (laws_szFloat32S_len_den v401 v402) hy hm h0 hA
def laws_szFloat32S_len_v (v401 : Nat) (v402 : Int) : Int :=
  if (decide (IntKind.i64.wrap (v402 - ((v401 : Nat) : Int)) < (0 : Int))) = true then (
   (-1 : Int)
  ) else (
   IntKind.i64.wrap (v402 - ((v401 : Nat) : Int))
  )
theorem laws_szFloat32S_len_tot (v401 : Nat) (v402 : Int) : laws_szFloat32S_len_g v401 v402 = some (laws_szFloat32S_len_v v401 v402) := by
  unfold laws_szFloat32S_len_g laws_szFloat32S_len_T laws_szFloat32S_len_v
  simp only [Tree.run]
  repeat' (first | rfl | split)
noncomputable def laws_szFloat32S_len_F : DFn := fun args L =>
  match args with
  | [a1, .int .i64 v402] =>
    optT (lenV L a1) fun v401 =>
    .leaf (.int .i64 (laws_szFloat32S_len_v v401 v402), L)
  | _ => .fail
theorem laws_szFloat32S_len_Fok : COk Try.prog 64 laws_szFloat32S_len_F true := by
  intro F L H args r L' hs ha hr
  unfold laws_szFloat32S_len_F at hr
  split at hr
  · rename_i a1 v402
    obtain ⟨v401, hv401, hr⟩ := optT_run hr
    have hy := laws_szFloat32S_len_tot v401 v402
    generalize laws_szFloat32S_len_v v401 v402 = y at hy hr
    simp only [Tree.run, Option.some.injEq, Prod.mk.injEq] at hr
    obtain ⟨rfl, rfl⟩ := hr
    exact call_ok0 hs (fun k => (([a1.av F] : List AV)[k]?).getD .top) [a1, .int .i64 v402] [.hslc (BR.root 0) v401, .int .i64 v402] (fun F' h0 hi hρ => ⟨by simp [DVs.av, DV.av, BR.av, hρ], laws_szFloat32S_len_fn v401 v402 F' (by rw [hi]; rfl) (st_nil hi) ⟨hslc_ok hi (by rw [h0, hρ]; exact lenV_ok hs (DVs.okAt ha 0 rfl) hv401), trivial, trivial⟩ hy⟩) rfl
  · cases hr
/-! laws.szMatrix -/
noncomputable def laws_szMatrix_len_LO (v397 : Int) (v398 : Int) (v399 : Nat) (v400 : Int) : LOr := fun id e L =>
  match id with
  | _ => .fail
noncomputable def laws_szMatrix_len_tab : List (FuncId × DFn × Bool) := [(64, laws_szFloat32S_len_F, true)]
theorem laws_szMatrix_len_hO : OrcOk Try.prog (tabD laws_szMatrix_len_tab) (tabM laws_szMatrix_len_tab) := tabD_cons laws_szFloat32S_len_Fok (tabD_nil _)
noncomputable def laws_szMatrix_len_T (v399 : Nat) (v400 : Int) : Tree (Int) :=
  (.br (decide ((laws_szFloat32S_len_v v399 v400) < (0 : Int))) (
   .leaf (-1 : Int)
  ) (
   .leaf (laws_szFloat32S_len_v v399 v400)
  ))

noncomputable def laws_szMatrix_len_g (v399 : Nat) (v400 : Int) : Option (Int) := (laws_szMatrix_len_T v399 v400).run
def laws_szMatrix_len_enc (v397 : Int) (v398 : Int) (v399 : Nat) (v400 : Int) (y : Int) : Rs := (.int .i64 y, [])
theorem laws_szMatrix_len_den (v397 : Int) (v398 : Int) (v399 : Nat) (v400 : Int) : (den TT (tabD laws_szMatrix_len_tab) (tabM laws_szMatrix_len_tab) (laws_szMatrix_len_LO v397 v398 v399 v400) (codeOf Try.f29) ([.agg [.int .i64 v397, .int .i64 v398, .hslc (BR.root 0) v399], .int .i64 v400] ++ List.replicate (Try.f29.ntmps - ([.agg [.int .i64 v397, .int .i64 v398, .hslc (BR.root 0) v399], .int .i64 v400] : List DV).length) .undef) []).bind (retD TT Try.f29.results.toList 0) = (laws_szMatrix_len_T v399 v400).bind fun y => .leaf (laws_szMatrix_len_enc v397 v398 v399 v400 y) := by kernel_rfl
theorem laws_szMatrix_len_fn (v397 : Int) (v398 : Int) (v399 : Nat) (v400 : Int) (F : Fr) (hm : F.ids.length = 0) (h0 : St F [] F.H0) (hA : DVs.Ok F [] [.agg [.int .i64 v397, .int .i64 v398, .hslc (BR.root 0) v399], .int .i64 v400]) {y : Int} (hy : laws_szMatrix_len_g v399 v400 = some y) : ∃ H', FnOk Try.prog 29 (DVs.av F [.agg [.int .i64 v397, .int .i64 v398, .hslc (BR.root 0) v399], .int .i64 v400]) F.H0 ((laws_szMatrix_len_enc v397 v398 v399 v400 y).1.av F) H' ∧ St F (laws_szMatrix_len_enc v397 v398 v399 v400 y).2 H' ∧ (laws_szMatrix_len_enc v397 v398 v399 v400 y).1.Ok F (laws_szMatrix_len_enc v397 v398 v399 v400 y).2 :=
  fn_fin tok laws_szMatrix_len_hO mixed Try.func29 Try.call29 (by kernel_rfl) (LoopsOk_eq (l := []) (by kernel_rfl) trivial) (laws_szMatrix_len_den v397 v398 v399 v400) hy hm h0 hA
def laws_szMatrix_len_v (v399 : Nat) (v400 : Int) : Int :=
  if (decide ((laws_szFloat32S_len_v v399 v400) < (0 : Int))) = true then (
   (-1 : Int)
  ) else (
   (laws_szFloat32S_len_v v399 v400)
  )
theorem laws_szMatrix_len_tot (v399 : Nat) (v400 : Int) : laws_szMatrix_len_g v399 v400 = some (laws_szMatrix_len_v v399 v400) := by
  unfold laws_szMatrix_len_g laws_szMatrix_len_T laws_szMatrix_len_v
  simp only [Tree.run]
  repeat' (first | rfl | split)
noncomputable def laws_szMatrix_len_F : DFn := fun args L =>
  match args with
  | [.agg [.int .i64 v397, .int .i64 v398, a1], .int .i64 v400] =>
    optT (lenV L a1) fun v399 =>
    .leaf (.int .i64 (laws_szMatrix_len_v v399 v400), L)
  | _ => .fail
theorem laws_szMatrix_len_Fok : COk Try.prog 29 laws_szMatrix_len_F true := by
  intro F L H args r L' hs ha hr
  unfold laws_szMatrix_len_F at hr
  split at hr
  · rename_i v397 v398 a1 v400
    obtain ⟨v399, hv399, hr⟩ := optT_run hr
    have hy := laws_szMatrix_len_tot v399 v400
    generalize laws_szMatrix_len_v v399 v400 = y at hy hr
    simp only [Tree.run, Option.some.injEq, Prod.mk.injEq] at hr
    obtain ⟨rfl, rfl⟩ := hr
    exact call_ok0 hs (fun k => (([a1.av F] : List AV)[k]?).getD .top) [.agg [.int .i64 v397, .int .i64 v398, a1], .int .i64 v400] [.agg [.int .i64 v397, .int .i64 v398, .hslc (BR.root 0) v399], .int .i64 v400] (fun F' h0 hi hρ => ⟨by simp [DVs.av, DV.av, BR.av, hρ], laws_szMatrix_len_fn v397 v398 v399 v400 F' (by rw [hi]; rfl) (st_nil hi) ⟨⟨trivial, trivial, hslc_ok hi (by rw [h0, hρ]; exact lenV_ok hs (DVs.okAt (DVs.okAt ha 0 rfl) 2 rfl) hv399), trivial⟩, trivial, trivial⟩ hy⟩) rfl
  · cases hr
/-! laws.FnExactOrderRows -/
noncomputable def laws_FnExactOrderRows_len_LO (v393 : Int) (v394 : Int) (v395 : Nat) (v396 : Nat) : LOr := fun id e L =>
  match id with
  | _ => .fail
noncomputable def laws_FnExactOrderRows_len_tab : List (FuncId × DFn × Bool) := [(29, laws_szMatrix_len_F, true)]
theorem laws_FnExactOrderRows_len_hO : OrcOk Try.prog (tabD laws_FnExactOrderRows_len_tab) (tabM laws_FnExactOrderRows_len_tab) := tabD_cons laws_szMatrix_len_Fok (tabD_nil _)
noncomputable def laws_FnExactOrderRows_len_T (v395 : Nat) (v396 : Nat) : Tree (Bool) :=
  (.br (decide ((1048576 : Int) < ((v396 : Nat) : Int))) (
   .leaf true
  ) (
   (.br (decide ((laws_szMatrix_len_v v395 (1048576 : Int)) < (0 : Int))) (
    .leaf true
   ) (
    .fail
   ))
  ))

noncomputable def laws_FnExactOrderRows_len_g (v395 : Nat) (v396 : Nat) : Option (Bool) := (laws_FnExactOrderRows_len_T v395 v396).run
def laws_FnExactOrderRows_len_enc (v393 : Int) (v394 : Int) (v395 : Nat) (v396 : Nat) (y : Bool) : Rs := (.bool y, [])
theorem laws_FnExactOrderRows_len_den (v393 : Int) (v394 : Int) (v395 : Nat) (v396 : Nat) : (den TT (tabD laws_FnExactOrderRows_len_tab) (tabM laws_FnExactOrderRows_len_tab) (laws_FnExactOrderRows_len_LO v393 v394 v395 v396) (codeOf Try.f8) ([.agg [.int .i64 v393, .int .i64 v394, .hslc (BR.root 0) v395], .hslc (BR.root 1) v396] ++ List.replicate (Try.f8.ntmps - ([.agg [.int .i64 v393, .int .i64 v394, .hslc (BR.root 0) v395], .hslc (BR.root 1) v396] : List DV).length) .undef) []).bind (retD TT Try.f8.results.toList 0) = (laws_FnExactOrderRows_len_T v395 v396).bind fun y => .leaf (laws_FnExactOrderRows_len_enc v393 v394 v395 v396 y) := by kernel_rfl
theorem laws_FnExactOrderRows_len_fn (v393 : Int) (v394 : Int) (v395 : Nat) (v396 : Nat) (F : Fr) (hm : F.ids.length = 0) (h0 : St F [] F.H0) (hA : DVs.Ok F [] [.agg [.int .i64 v393, .int .i64 v394, .hslc (BR.root 0) v395], .hslc (BR.root 1) v396]) {y : Bool} (hy : laws_FnExactOrderRows_len_g v395 v396 = some y) : ∃ H', FnOk Try.prog 8 (DVs.av F [.agg [.int .i64 v393, .int .i64 v394, .hslc (BR.root 0) v395], .hslc (BR.root 1) v396]) F.H0 ((laws_FnExactOrderRows_len_enc v393 v394 v395 v396 y).1.av F) H' ∧ St F (laws_FnExactOrderRows_len_enc v393 v394 v395 v396 y).2 H' ∧ (laws_FnExactOrderRows_len_enc v393 v394 v395 v396 y).1.Ok F (laws_FnExactOrderRows_len_enc v393 v394 v395 v396 y).2 :=
  fn_fin tok laws_FnExactOrderRows_len_hO mixed Try.func8 Try.call8 (by kernel_rfl) (LoopsOk_eq (l := []) (by kernel_rfl) trivial) (laws_FnExactOrderRows_len_den v393 v394 v395 v396) hy hm h0 hA
noncomputable def laws_FnExactOrderRows_len_F : DFn := fun args L =>
  match args with
  | [.agg [.int .i64 v393, .int .i64 v394, a1], a2] =>
    optT (lenV L a1) fun v395 =>
    optT (lenV L a2) fun v396 =>
    .call (laws_FnExactOrderRows_len_g v395 v396) fun y => .leaf (.bool y, L)
  | _ => .fail
theorem laws_FnExactOrderRows_len_Fok : COk Try.prog 8 laws_FnExactOrderRows_len_F true := by
  intro F L H args r L' hs ha hr
  unfold laws_FnExactOrderRows_len_F at hr
  split at hr
  · rename_i v393 v394 a1 a2
    obtain ⟨v395, hv395, hr⟩ := optT_run hr
    obtain ⟨v396, hv396, hr⟩ := optT_run hr
    simp only [Tree.run] at hr
    obtain ⟨y, hy, hr⟩ := Option.bind_eq_some_iff.1 hr
    simp only [Tree.run, Option.some.injEq, Prod.mk.injEq] at hr
    obtain ⟨rfl, rfl⟩ := hr
    exact call_ok0 hs (fun k => (([a1.av F, a2.av F] : List AV)[k]?).getD .top) [.agg [.int .i64 v393, .int .i64 v394, a1], a2] [.agg [.int .i64 v393, .int .i64 v394, .hslc (BR.root 0) v395], .hslc (BR.root 1) v396] (fun F' h0 hi hρ => ⟨by simp [DVs.av, DV.av, BR.av, hρ], laws_FnExactOrderRows_len_fn v393 v394 v395 v396 F' (by rw [hi]; rfl) (st_nil hi) ⟨⟨trivial, trivial, hslc_ok hi (by rw [h0, hρ]; exact lenV_ok hs (DVs.okAt (DVs.okAt ha 0 rfl) 2 rfl) hv395), trivial⟩, hslc_ok hi (by rw [h0, hρ]; exact lenV_ok hs (DVs.okAt ha 1 rfl) hv396), trivial⟩ hy⟩) rfl
  · cases hr
end Go.Proofs.Ytjadfgeemfdbmaa.AM
