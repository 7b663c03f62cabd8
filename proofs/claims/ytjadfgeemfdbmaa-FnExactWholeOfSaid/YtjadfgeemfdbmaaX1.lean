/- Functions: what they come to. -/
import Derived.Test.YtjadfgeemfdbmaaBase
set_option maxRecDepth 100000
set_option maxHeartbeats 4000000
set_option linter.unusedSimpArgs false
set_option linter.unusedVariables false
namespace Go.Proofs.Ytjadfgeemfdbmaa.AM
open Go.Proofs
/-! laws.szFloat32S -/
noncomputable def laws_szFloat32S_LO (v9 : List Nat) (v10 : Int) : LOr := fun id e L =>
  match id with
  | _ => .fail
noncomputable def laws_szFloat32S_tab : List (FuncId × DFn × Bool) := []
theorem laws_szFloat32S_hO : OrcOk Try.prog (tabD laws_szFloat32S_tab) (tabM laws_szFloat32S_tab) := tabD_nil _
noncomputable def laws_szFloat32S_T (v9 : List Nat) (v10 : Int) : Tree (Int) :=
  (.br (decide (IntKind.i64.wrap (v10 - ((v9.length : Nat) : Int)) < (0 : Int))) (
   .leaf (-1 : Int)
  ) (
   .leaf (IntKind.i64.wrap (v10 - ((v9.length : Nat) : Int)))
  ))

noncomputable def laws_szFloat32S_g (v9 : List Nat) (v10 : Int) : Option (Int) := (laws_szFloat32S_T v9 v10).run
def laws_szFloat32S_enc (v9 : List Nat) (v10 : Int) (y : Int) : Rs := (.int .i64 y, [])
theorem laws_szFloat32S_den (v9 : List Nat) (v10 : Int) : (den TT (tabD laws_szFloat32S_tab) (tabM laws_szFloat32S_tab) (laws_szFloat32S_LO v9 v10) (codeOf Try.f64) ([.bslc (BR.root 0) (.f32 v9), .int .i64 v10] ++ List.replicate (Try.f64.ntmps - ([.bslc (BR.root 0) (.f32 v9), .int .i64 v10] : List DV).length) .undef) []).bind (retD TT Try.f64.results.toList 0) = (laws_szFloat32S_T v9 v10).bind fun y => .leaf (laws_szFloat32S_enc v9 v10 y) := by kernel_rfl
theorem laws_szFloat32S_fn (v9 : List Nat) (v10 : Int) (F : Fr) (hm : F.ids.length = 0) (h0 : St F [] F.H0) (hA : DVs.Ok F [] [.bslc (BR.root 0) (.f32 v9), .int .i64 v10]) {y : Int} (hy : laws_szFloat32S_g v9 v10 = some y) : ∃ H', FnOk Try.prog 64 (DVs.av F [.bslc (BR.root 0) (.f32 v9), .int .i64 v10]) F.H0 ((laws_szFloat32S_enc v9 v10 y).1.av F) H' ∧ St F (laws_szFloat32S_enc v9 v10 y).2 H' ∧ (laws_szFloat32S_enc v9 v10 y).1.Ok F (laws_szFloat32S_enc v9 v10 y).2 :=
  fn_fin tok laws_szFloat32S_hO mixed Try.func64 Try.call64 (by kernel_rfl) (LoopsOk_eq (l := []) (by kernel_rfl) trivial) (laws_szFloat32S_den v9 v10) hy hm h0 hA
def laws_szFloat32S_v (v9 : List Nat) (v10 : Int) : Int :=
  if (decide (IntKind.i64.wrap (v10 - ((v9.length : Nat) : Int)) < (0 : Int))) = true then (
   (-1 : Int)
  ) else (
   IntKind.i64.wrap (v10 - ((v9.length : Nat) : Int))
  )
theorem laws_szFloat32S_tot (v9 : List Nat) (v10 : Int) : laws_szFloat32S_g v9 v10 = some (laws_szFloat32S_v v9 v10) := by
  unfold laws_szFloat32S_g laws_szFloat32S_T laws_szFloat32S_v
  simp only [Tree.run]
  repeat' (first | rfl | split)
noncomputable def laws_szFloat32S_F : DFn := fun args L =>
  match args with
  | [a1, .int .i64 v10] =>
    optT (rowF32 L a1) fun v9 =>
    .leaf (.int .i64 (laws_szFloat32S_v v9 v10), L)
  | _ => .fail
theorem laws_szFloat32S_Fok : COk Try.prog 64 laws_szFloat32S_F true := by
  intro F L H args r L' hs ha hr
  unfold laws_szFloat32S_F at hr
  split at hr
  · rename_i a1 v10
    obtain ⟨v9, hv9, hr⟩ := optT_run hr
    have hy := laws_szFloat32S_tot v9 v10
    generalize laws_szFloat32S_v v9 v10 = y at hy hr
    simp only [Tree.run, Option.some.injEq, Prod.mk.injEq] at hr
    obtain ⟨rfl, rfl⟩ := hr
    exact call_ok0 hs (fun k => (([a1.av F] : List AV)[k]?).getD .top) [a1, .int .i64 v10] [.bslc (BR.root 0) (.f32 v9), .int .i64 v10] (fun F' h0 hi hρ => ⟨by simp [DVs.av, DV.av, BR.av, hρ], laws_szFloat32S_fn v9 v10 F' (by rw [hi]; rfl) (st_nil hi) ⟨bslc_ok hi (by rw [h0, hρ]; exact rowF32_ok hs (DVs.okAt ha 0 rfl) hv9), trivial, trivial⟩ hy⟩) rfl
  · cases hr
/-! laws.szMatrix -/
noncomputable def laws_szMatrix_LO (v5 : Int) (v6 : Int) (v7 : List Nat) (v8 : Int) : LOr := fun id e L =>
  match id with
  | _ => .fail
noncomputable def laws_szMatrix_tab : List (FuncId × DFn × Bool) := [(64, laws_szFloat32S_F, true)]
theorem laws_szMatrix_hO : OrcOk Try.prog (tabD laws_szMatrix_tab) (tabM laws_szMatrix_tab) := tabD_cons laws_szFloat32S_Fok (tabD_nil _)
noncomputable def laws_szMatrix_T (v7 : List Nat) (v8 : Int) : Tree (Int) :=
  (.br (decide ((laws_szFloat32S_v v7 v8) < (0 : Int))) (
   .leaf (-1 : Int)
  ) (
   .leaf (laws_szFloat32S_v v7 v8)
  ))

noncomputable def laws_szMatrix_g (v7 : List Nat) (v8 : Int) : Option (Int) := (laws_szMatrix_T v7 v8).run
def laws_szMatrix_enc (v5 : Int) (v6 : Int) (v7 : List Nat) (v8 : Int) (y : Int) : Rs := (.int .i64 y, [])
theorem laws_szMatrix_den (v5 : Int) (v6 : Int) (v7 : List Nat) (v8 : Int) : (den TT (tabD laws_szMatrix_tab) (tabM laws_szMatrix_tab) (laws_szMatrix_LO v5 v6 v7 v8) (codeOf Try.f29) ([.agg [.int .i64 v5, .int .i64 v6, .bslc (BR.root 0) (.f32 v7)], .int .i64 v8] ++ List.replicate (Try.f29.ntmps - ([.agg [.int .i64 v5, .int .i64 v6, .bslc (BR.root 0) (.f32 v7)], .int .i64 v8] : List DV).length) .undef) []).bind (retD TT Try.f29.results.toList 0) = (laws_szMatrix_T v7 v8).bind fun y => .leaf (laws_szMatrix_enc v5 v6 v7 v8 y) := by kernel_rfl
theorem laws_szMatrix_fn (v5 : Int) (v6 : Int) (v7 : List Nat) (v8 : Int) (F : Fr) (hm : F.ids.length = 0) (h0 : St F [] F.H0) (hA : DVs.Ok F [] [.agg [.int .i64 v5, .int .i64 v6, .bslc (BR.root 0) (.f32 v7)], .int .i64 v8]) {y : Int} (hy : laws_szMatrix_g v7 v8 = some y) : ∃ H', FnOk Try.prog 29 (DVs.av F [.agg [.int .i64 v5, .int .i64 v6, .bslc (BR.root 0) (.f32 v7)], .int .i64 v8]) F.H0 ((laws_szMatrix_enc v5 v6 v7 v8 y).1.av F) H' ∧ St F (laws_szMatrix_enc v5 v6 v7 v8 y).2 H' ∧ (laws_szMatrix_enc v5 v6 v7 v8 y).1.Ok F (laws_szMatrix_enc v5 v6 v7 v8 y).2 :=
  fn_fin tok laws_szMatrix_hO mixed Try.func29 Try.call29 (by kernel_rfl) (LoopsOk_eq (l := []) (by kernel_rfl) trivial) (laws_szMatrix_den v5 v6 v7 v8) hy hm h0 hA
def laws_szMatrix_v (v7 : List Nat) (v8 : Int) : Int :=
  if (decide ((laws_szFloat32S_v v7 v8) < (0 : Int))) = true then (
   (-1 : Int)
  ) else (
   (laws_szFloat32S_v v7 v8)
  )
theorem laws_szMatrix_tot (v7 : List Nat) (v8 : Int) : laws_szMatrix_g v7 v8 = some (laws_szMatrix_v v7 v8) := by
  unfold laws_szMatrix_g laws_szMatrix_T laws_szMatrix_v
  simp only [Tree.run]
  repeat' (first | rfl | split)
noncomputable def laws_szMatrix_F : DFn := fun args L =>
  match args with
  | [.agg [.int .i64 v5, .int .i64 v6, a1], .int .i64 v8] =>
    optT (rowF32 L a1) fun v7 =>
    .leaf (.int .i64 (laws_szMatrix_v v7 v8), L)
  | _ => .fail
theorem laws_szMatrix_Fok : COk Try.prog 29 laws_szMatrix_F true := by
  intro F L H args r L' hs ha hr
  unfold laws_szMatrix_F at hr
  split at hr
  · rename_i v5 v6 a1 v8
    obtain ⟨v7, hv7, hr⟩ := optT_run hr
    have hy := laws_szMatrix_tot v7 v8
    generalize laws_szMatrix_v v7 v8 = y at hy hr
    simp only [Tree.run, Option.some.injEq, Prod.mk.injEq] at hr
    obtain ⟨rfl, rfl⟩ := hr
    exact call_ok0 hs (fun k => (([a1.av F] : List AV)[k]?).getD .top) [.agg [.int .i64 v5, .int .i64 v6, a1], .int .i64 v8] [.agg [.int .i64 v5, .int .i64 v6, .bslc (BR.root 0) (.f32 v7)], .int .i64 v8] (fun F' h0 hi hρ => ⟨by simp [DVs.av, DV.av, BR.av, hρ], laws_szMatrix_fn v5 v6 v7 v8 F' (by rw [hi]; rfl) (st_nil hi) ⟨⟨trivial, trivial, bslc_ok hi (by rw [h0, hρ]; exact rowF32_ok hs (DVs.okAt (DVs.okAt ha 0 rfl) 2 rfl) hv7), trivial⟩, trivial, trivial⟩ hy⟩) rfl
  · cases hr
/-! laws.toFloat32S -/
noncomputable def laws_toFloat32S_l0_T (v14 : List Nat) (s : Int × (List Nat)) : Tree ((Int × (List Nat)) ⊕ ((List Nat))) :=
  (.br (decide (s.1 < ((v14.length : Nat) : Int))) (
   (.grd (inb s.1 v14.length) <|
   (.grd (inb s.1 ((s.2).length)) <|
   .leaf (.inl (IntKind.i64.wrap (s.1 + (1 : Int)), List.set s.2 (Int.toNat s.1) (nth v14 (Int.toNat s.1))))))
  ) (
   .leaf (.inr s.2)
  ))

noncomputable def laws_toFloat32S_l0_g (v14 : List Nat) (s0 : Int × (List Nat)) : Option ((List Nat)) := whileM (fun s => (laws_toFloat32S_l0_T v14 s).run) s0
def laws_toFloat32S_l0_E (v14 : List Nat) (s : Int × (List Nat)) : Sd := ([.bslc (BR.root 0) (.f32 v14), .top, .top, .own 0 0 ((s.2).length), .int .i64 s.1, .top, .top, .top, .top, .top, .top, .top, .top, .top, .top, .top, .top, .top, .top, .top, .top, .top], [.row (.f32 s.2) 0])
def laws_toFloat32S_l0_X (v14 : List Nat) (x : (List Nat)) : Out := (.normal, [.top, .top, .top, .own 0 0 ((x).length), .top, .top, .top, .top, .top, .top, .top, .top, .top, .top, .top, .top, .top, .top, .top, .top, .top, .top], [.row (.f32 x) 0])
def laws_toFloat32S_l0_kill : List Nat := [0, 1, 1, 0, 0, 1, 1, 1, 1, 1, 1, 1, 1, 1, 1, 1, 1, 1, 1, 1, 1, 1]
def laws_toFloat32S_l0_nx : Exit → List Nat
  | .exit 0 => [1, 1, 1, 0, 1, 1, 1, 1, 1, 1, 1, 1, 1, 1, 1, 1, 1, 1, 1, 1, 1, 1]
  | .ret => [1, 1, 0, 1, 1, 1, 1, 1, 1, 1, 1, 1, 1, 1, 1, 1, 1, 1, 1, 1, 1, 1]
  | _ => []
noncomputable def laws_toFloat32S_LO (v14 : List Nat) : LOr := fun id e L =>
  match id with
  | 0 => .need (normA 0 laws_toFloat32S_l0_kill e L = some (laws_toFloat32S_l0_E v14 ((gI (vAt e 4)), (gRF L (vAt e 3))))) (.call (laws_toFloat32S_l0_g v14 ((gI (vAt e 4)), (gRF L (vAt e 3)))) fun x => .leaf (laws_toFloat32S_l0_X v14 x))
  | _ => .fail
noncomputable def laws_toFloat32S_tab : List (FuncId × DFn × Bool) := []
theorem laws_toFloat32S_hO : OrcOk Try.prog (tabD laws_toFloat32S_tab) (tabM laws_toFloat32S_tab) := tabD_nil _
theorem laws_toFloat32S_l0_be (v14 : List Nat) (s : Int × (List Nat)) : bodyT TT (tabD laws_toFloat32S_tab) (tabM laws_toFloat32S_tab) (laws_toFloat32S_LO v14) 0 laws_toFloat32S_l0_kill laws_toFloat32S_l0_nx (bodyOf Try.f18 0) 0 (laws_toFloat32S_l0_E v14 s) = (laws_toFloat32S_l0_T v14 s).bind fun y => .leaf (outS (laws_toFloat32S_l0_E v14) (laws_toFloat32S_l0_X v14) y) := by kernel_rfl
theorem laws_toFloat32S_l0_ok (v14 : List Nat) : LSound Try.prog 0 (laws_toFloat32S_LO v14) 0 (bodyOf Try.f18 0) := by
  intro e L out h
  exact lo_ok (E := laws_toFloat32S_l0_E v14) (gT := laws_toFloat32S_l0_T v14) (X := laws_toFloat32S_l0_X v14) (s0 := ((gI (vAt e 4)), (gRF L (vAt e 3)))) tok laws_toFloat32S_hO mixed (LoopsOk_eq (l := []) (by kernel_rfl) trivial) (laws_toFloat32S_l0_be v14) rfl (by intro x; rfl) h
noncomputable def laws_toFloat32S_T (v14 : List Nat) : Tree ((List Nat)) :=
  (.need (((v14.length : Nat) : Int) = ((v14.length : Nat) : Int)) <|
  (.grd (inb ((v14.length : Nat) : Int) (maxN + 1)) <|
  (.need (some (laws_toFloat32S_l0_E v14 ((0 : Int), List.replicate (Int.toNat ((v14.length : Nat) : Int)) (0 : Nat))) = some (laws_toFloat32S_l0_E v14 ((0 : Int), List.replicate (Int.toNat ((v14.length : Nat) : Int)) (0 : Nat)))) <|
  (.call (laws_toFloat32S_l0_g v14 ((0 : Int), List.replicate (Int.toNat ((v14.length : Nat) : Int)) (0 : Nat))) fun v20 =>
  .leaf v20))))

noncomputable def laws_toFloat32S_g (v14 : List Nat) : Option ((List Nat)) := (laws_toFloat32S_T v14).run
def laws_toFloat32S_enc (v14 : List Nat) (y : (List Nat)) : Rs := (.own 0 0 ((y).length), [.row (.f32 y) 0])
theorem laws_toFloat32S_den (v14 : List Nat) : (den TT (tabD laws_toFloat32S_tab) (tabM laws_toFloat32S_tab) (laws_toFloat32S_LO v14) (codeOf Try.f18) ([.bslc (BR.root 0) (.f32 v14)] ++ List.replicate (Try.f18.ntmps - ([.bslc (BR.root 0) (.f32 v14)] : List DV).length) .undef) []).bind (retD TT Try.f18.results.toList 0) = (laws_toFloat32S_T v14).bind fun y => .leaf (laws_toFloat32S_enc v14 y) := by kernel_rfl
theorem laws_toFloat32S_fn (v14 : List Nat) (F : Fr) (hm : F.ids.length = 0) (h0 : St F [] F.H0) (hA : DVs.Ok F [] [.bslc (BR.root 0) (.f32 v14)]) {y : (List Nat)} (hy : laws_toFloat32S_g v14 = some y) : ∃ H', FnOk Try.prog 18 (DVs.av F [.bslc (BR.root 0) (.f32 v14)]) F.H0 ((laws_toFloat32S_enc v14 y).1.av F) H' ∧ St F (laws_toFloat32S_enc v14 y).2 H' ∧ (laws_toFloat32S_enc v14 y).1.Ok F (laws_toFloat32S_enc v14 y).2 :=
  fn_fin tok laws_toFloat32S_hO mixed Try.func18 Try.call18 (by kernel_rfl) (LoopsOk_eq (l := [(0, bodyOf Try.f18 0)]) (by kernel_rfl) ⟨laws_toFloat32S_l0_ok v14, trivial⟩) (laws_toFloat32S_den v14) hy hm h0 hA
noncomputable def laws_toFloat32S_F : DFn := fun args L =>
  match args with
  | [a1] =>
    optT (rowF32 L a1) fun v14 =>
    .call (laws_toFloat32S_g v14) fun y => .leaf (.own (L.length + 0) 0 ((y).length), L ++ [.row (.f32 y) 0])
  | _ => .fail
theorem laws_toFloat32S_Fok : COk Try.prog 18 laws_toFloat32S_F true := by
  intro F L H args r L' hs ha hr
  unfold laws_toFloat32S_F at hr
  split at hr
  · rename_i a1
    obtain ⟨v14, hv14, hr⟩ := optT_run hr
    simp only [Tree.run] at hr
    obtain ⟨y, hy, hr⟩ := Option.bind_eq_some_iff.1 hr
    simp only [Tree.run, Option.some.injEq, Prod.mk.injEq] at hr
    obtain ⟨rfl, rfl⟩ := hr
    exact call_ok1 hs (fun k => (([a1.av F] : List AV)[k]?).getD .top) [a1] [.bslc (BR.root 0) (.f32 v14)] (fun F' h0 hi hρ => ⟨by simp [DVs.av, DV.av, BR.av, hρ], laws_toFloat32S_fn v14 F' (by rw [hi]; rfl) (st_nil hi) ⟨bslc_ok hi (by rw [h0, hρ]; exact rowF32_ok hs (DVs.okAt ha 0 rfl) hv14), trivial⟩ hy⟩) rfl rfl
  · cases hr
/-! laws.toMatrix -/
noncomputable def laws_toMatrix_LO (v11 : Int) (v12 : Int) (v13 : List Nat) : LOr := fun id e L =>
  match id with
  | _ => .fail
noncomputable def laws_toMatrix_tab : List (FuncId × DFn × Bool) := [(18, laws_toFloat32S_F, true)]
theorem laws_toMatrix_hO : OrcOk Try.prog (tabD laws_toMatrix_tab) (tabM laws_toMatrix_tab) := tabD_cons laws_toFloat32S_Fok (tabD_nil _)
noncomputable def laws_toMatrix_T (v11 : Int) (v12 : Int) (v13 : List Nat) : Tree (Int × Int × (List Nat)) :=
  (.call (laws_toFloat32S_g v13) fun v21 =>
  .leaf (v11, v12, v21))

noncomputable def laws_toMatrix_g (v11 : Int) (v12 : Int) (v13 : List Nat) : Option (Int × Int × (List Nat)) := (laws_toMatrix_T v11 v12 v13).run
def laws_toMatrix_enc (v11 : Int) (v12 : Int) (v13 : List Nat) (y : Int × Int × (List Nat)) : Rs := (.agg [.int .i64 y.1, .int .i64 y.2.1, .own 0 0 ((y.2.2).length)], [.row (.f32 y.2.2) 0])
theorem laws_toMatrix_den (v11 : Int) (v12 : Int) (v13 : List Nat) : (den TT (tabD laws_toMatrix_tab) (tabM laws_toMatrix_tab) (laws_toMatrix_LO v11 v12 v13) (codeOf Try.f31) ([.agg [.int .i64 v11, .int .i64 v12, .bslc (BR.root 0) (.f32 v13)]] ++ List.replicate (Try.f31.ntmps - ([.agg [.int .i64 v11, .int .i64 v12, .bslc (BR.root 0) (.f32 v13)]] : List DV).length) .undef) []).bind (retD TT Try.f31.results.toList 0) = (laws_toMatrix_T v11 v12 v13).bind fun y => .leaf (laws_toMatrix_enc v11 v12 v13 y) := by kernel_rfl
theorem laws_toMatrix_fn (v11 : Int) (v12 : Int) (v13 : List Nat) (F : Fr) (hm : F.ids.length = 0) (h0 : St F [] F.H0) (hA : DVs.Ok F [] [.agg [.int .i64 v11, .int .i64 v12, .bslc (BR.root 0) (.f32 v13)]]) {y : Int × Int × (List Nat)} (hy : laws_toMatrix_g v11 v12 v13 = some y) : ∃ H', FnOk Try.prog 31 (DVs.av F [.agg [.int .i64 v11, .int .i64 v12, .bslc (BR.root 0) (.f32 v13)]]) F.H0 ((laws_toMatrix_enc v11 v12 v13 y).1.av F) H' ∧ St F (laws_toMatrix_enc v11 v12 v13 y).2 H' ∧ (laws_toMatrix_enc v11 v12 v13 y).1.Ok F (laws_toMatrix_enc v11 v12 v13 y).2 :=
  fn_fin tok laws_toMatrix_hO mixed Try.func31 Try.call31 (by kernel_rfl) (LoopsOk_eq (l := []) (by kernel_rfl) trivial) (laws_toMatrix_den v11 v12 v13) hy hm h0 hA
noncomputable def laws_toMatrix_F : DFn := fun args L =>
  match args with
  | [.agg [.int .i64 v11, .int .i64 v12, a1]] =>
    optT (rowF32 L a1) fun v13 =>
    .call (laws_toMatrix_g v11 v12 v13) fun y => .leaf (.agg [.int .i64 y.1, .int .i64 y.2.1, .own (L.length + 0) 0 ((y.2.2).length)], L ++ [.row (.f32 y.2.2) 0])
  | _ => .fail
theorem laws_toMatrix_Fok : COk Try.prog 31 laws_toMatrix_F true := by
  intro F L H args r L' hs ha hr
  unfold laws_toMatrix_F at hr
  split at hr
  · rename_i v11 v12 a1
    obtain ⟨v13, hv13, hr⟩ := optT_run hr
    simp only [Tree.run] at hr
    obtain ⟨y, hy, hr⟩ := Option.bind_eq_some_iff.1 hr
    simp only [Tree.run, Option.some.injEq, Prod.mk.injEq] at hr
    obtain ⟨rfl, rfl⟩ := hr
    exact call_ok1 hs (fun k => (([a1.av F] : List AV)[k]?).getD .top) [.agg [.int .i64 v11, .int .i64 v12, a1]] [.agg [.int .i64 v11, .int .i64 v12, .bslc (BR.root 0) (.f32 v13)]] (fun F' h0 hi hρ => ⟨by simp [DVs.av, DV.av, BR.av, hρ], laws_toMatrix_fn v11 v12 v13 F' (by rw [hi]; rfl) (st_nil hi) ⟨⟨trivial, trivial, bslc_ok hi (by rw [h0, hρ]; exact rowF32_ok hs (DVs.okAt (DVs.okAt ha 0 rfl) 2 rfl) hv13), trivial⟩, trivial⟩ hy⟩) rfl rfl
  · cases hr
/-! spec.l00In -/
noncomputable def spec_l00In_LO (v32 : Int) (v33 : Int) (v34 : Int) : LOr := fun id e L =>
  match id with
  | _ => .fail
noncomputable def spec_l00In_tab : List (FuncId × DFn × Bool) := []
theorem spec_l00In_hO : OrcOk Try.prog (tabD spec_l00In_tab) (tabM spec_l00In_tab) := tabD_nil _
noncomputable def spec_l00In_T (v32 : Int) (v33 : Int) (v34 : Int) : Tree (Bool) :=
  (.br (decide (v33 ≤ v32)) (
   .leaf (decide (v32 ≤ v34))
  ) (
   .leaf false
  ))

noncomputable def spec_l00In_g (v32 : Int) (v33 : Int) (v34 : Int) : Option (Bool) := (spec_l00In_T v32 v33 v34).run
def spec_l00In_enc (v32 : Int) (v33 : Int) (v34 : Int) (y : Bool) : Rs := (.bool y, [])
theorem spec_l00In_den (v32 : Int) (v33 : Int) (v34 : Int) : (den TT (tabD spec_l00In_tab) (tabM spec_l00In_tab) (spec_l00In_LO v32 v33 v34) (codeOf Try.f71) ([.int .i64 v32, .int .i64 v33, .int .i64 v34] ++ List.replicate (Try.f71.ntmps - ([.int .i64 v32, .int .i64 v33, .int .i64 v34] : List DV).length) .undef) []).bind (retD TT Try.f71.results.toList 0) = (spec_l00In_T v32 v33 v34).bind fun y => .leaf (spec_l00In_enc v32 v33 v34 y) := by kernel_rfl
theorem spec_l00In_fn (v32 : Int) (v33 : Int) (v34 : Int) (F : Fr) (hm : F.ids.length = 0) (h0 : St F [] F.H0) (hA : DVs.Ok F [] [.int .i64 v32, .int .i64 v33, .int .i64 v34]) {y : Bool} (hy : spec_l00In_g v32 v33 v34 = some y) : ∃ H', FnOk Try.prog 71 (DVs.av F [.int .i64 v32, .int .i64 v33, .int .i64 v34]) F.H0 ((spec_l00In_enc v32 v33 v34 y).1.av F) H' ∧ St F (spec_l00In_enc v32 v33 v34 y).2 H' ∧ (spec_l00In_enc v32 v33 v34 y).1.Ok F (spec_l00In_enc v32 v33 v34 y).2 :=
  fn_fin tok spec_l00In_hO mixed Try.func71 Try.call71 (by kernel_rfl) (LoopsOk_eq (l := []) (by kernel_rfl) trivial) (spec_l00In_den v32 v33 v34) hy hm h0 hA
def spec_l00In_v (v32 : Int) (v33 : Int) (v34 : Int) : Bool :=
  if (decide (v33 ≤ v32)) = true then (
   decide (v32 ≤ v34)
  ) else (
   false
  )
theorem spec_l00In_tot (v32 : Int) (v33 : Int) (v34 : Int) : spec_l00In_g v32 v33 v34 = some (spec_l00In_v v32 v33 v34) := by
  unfold spec_l00In_g spec_l00In_T spec_l00In_v
  simp only [Tree.run]
  repeat' (first | rfl | split)
noncomputable def spec_l00In_F : DFn := fun args L =>
  match args with
  | [.int .i64 v32, .int .i64 v33, .int .i64 v34] =>
    .leaf (.bool (spec_l00In_v v32 v33 v34), L)
  | _ => .fail
theorem spec_l00In_Fok : COk Try.prog 71 spec_l00In_F true := by
  intro F L H args r L' hs ha hr
  unfold spec_l00In_F at hr
  split at hr
  · rename_i v32 v33 v34
    have hy := spec_l00In_tot v32 v33 v34
    generalize spec_l00In_v v32 v33 v34 = y at hy hr
    simp only [Tree.run, Option.some.injEq, Prod.mk.injEq] at hr
    obtain ⟨rfl, rfl⟩ := hr
    exact call_ok0 hs (fun k => (([] : List AV)[k]?).getD .top) [.int .i64 v32, .int .i64 v33, .int .i64 v34] [.int .i64 v32, .int .i64 v33, .int .i64 v34] (fun F' h0 hi hρ => ⟨by simp [DVs.av, DV.av, BR.av, hρ], spec_l00In_fn v32 v33 v34 F' (by rw [hi]; rfl) (st_nil hi) ⟨trivial, trivial, trivial, trivial⟩ hy⟩) rfl
  · cases hr
/-! spec.l02Sides -/
noncomputable def spec_l02Sides_LO (v30 : Int) (v31 : Int) : LOr := fun id e L =>
  match id with
  | _ => .fail
noncomputable def spec_l02Sides_tab : List (FuncId × DFn × Bool) := [(71, spec_l00In_F, true)]
theorem spec_l02Sides_hO : OrcOk Try.prog (tabD spec_l02Sides_tab) (tabM spec_l02Sides_tab) := tabD_cons spec_l00In_Fok (tabD_nil _)
noncomputable def spec_l02Sides_T (v30 : Int) (v31 : Int) : Tree (Bool) :=
  (.br (spec_l00In_v v30 (1 : Int) (12 : Int)) (
   .leaf (spec_l00In_v v31 (1 : Int) (12 : Int))
  ) (
   .leaf false
  ))

noncomputable def spec_l02Sides_g (v30 : Int) (v31 : Int) : Option (Bool) := (spec_l02Sides_T v30 v31).run
def spec_l02Sides_enc (v30 : Int) (v31 : Int) (y : Bool) : Rs := (.bool y, [])
theorem spec_l02Sides_den (v30 : Int) (v31 : Int) : (den TT (tabD spec_l02Sides_tab) (tabM spec_l02Sides_tab) (spec_l02Sides_LO v30 v31) (codeOf Try.f147) ([.int .i64 v30, .int .i64 v31] ++ List.replicate (Try.f147.ntmps - ([.int .i64 v30, .int .i64 v31] : List DV).length) .undef) []).bind (retD TT Try.f147.results.toList 0) = (spec_l02Sides_T v30 v31).bind fun y => .leaf (spec_l02Sides_enc v30 v31 y) := by kernel_rfl
theorem spec_l02Sides_fn (v30 : Int) (v31 : Int) (F : Fr) (hm : F.ids.length = 0) (h0 : St F [] F.H0) (hA : DVs.Ok F [] [.int .i64 v30, .int .i64 v31]) {y : Bool} (hy : spec_l02Sides_g v30 v31 = some y) : ∃ H', FnOk Try.prog 147 (DVs.av F [.int .i64 v30, .int .i64 v31]) F.H0 ((spec_l02Sides_enc v30 v31 y).1.av F) H' ∧ St F (spec_l02Sides_enc v30 v31 y).2 H' ∧ (spec_l02Sides_enc v30 v31 y).1.Ok F (spec_l02Sides_enc v30 v31 y).2 :=
  fn_fin tok spec_l02Sides_hO mixed Try.func147 Try.call147 (by kernel_rfl) (LoopsOk_eq (l := []) (by kernel_rfl) trivial) (spec_l02Sides_den v30 v31) hy hm h0 hA
def spec_l02Sides_v (v30 : Int) (v31 : Int) : Bool :=
  if (spec_l00In_v v30 (1 : Int) (12 : Int)) = true then (
   (spec_l00In_v v31 (1 : Int) (12 : Int))
  ) else (
   false
  )
theorem spec_l02Sides_tot (v30 : Int) (v31 : Int) : spec_l02Sides_g v30 v31 = some (spec_l02Sides_v v30 v31) := by
  unfold spec_l02Sides_g spec_l02Sides_T spec_l02Sides_v
  simp only [Tree.run]
  repeat' (first | rfl | split)
noncomputable def spec_l02Sides_F : DFn := fun args L =>
  match args with
  | [.int .i64 v30, .int .i64 v31] =>
    .leaf (.bool (spec_l02Sides_v v30 v31), L)
  | _ => .fail
theorem spec_l02Sides_Fok : COk Try.prog 147 spec_l02Sides_F true := by
  intro F L H args r L' hs ha hr
  unfold spec_l02Sides_F at hr
  split at hr
  · rename_i v30 v31
    have hy := spec_l02Sides_tot v30 v31
    generalize spec_l02Sides_v v30 v31 = y at hy hr
    simp only [Tree.run, Option.some.injEq, Prod.mk.injEq] at hr
    obtain ⟨rfl, rfl⟩ := hr
    exact call_ok0 hs (fun k => (([] : List AV)[k]?).getD .top) [.int .i64 v30, .int .i64 v31] [.int .i64 v30, .int .i64 v31] (fun F' h0 hi hρ => ⟨by simp [DVs.av, DV.av, BR.av, hρ], spec_l02Sides_fn v30 v31 F' (by rw [hi]; rfl) (st_nil hi) ⟨trivial, trivial, trivial⟩ hy⟩) rfl
  · cases hr
/-! spec.l01Finite -/
noncomputable def spec_l01Finite_LO (v37 : Nat) : LOr := fun id e L =>
  match id with
  | _ => .fail
noncomputable def spec_l01Finite_tab : List (FuncId × DFn × Bool) := []
theorem spec_l01Finite_hO : OrcOk Try.prog (tabD spec_l01Finite_tab) (tabM spec_l01Finite_tab) := tabD_nil _
noncomputable def spec_l01Finite_T (v37 : Nat) : Tree (Bool) :=
  .leaf (feq .f32 (fsub .f32 v37 v37) (0 : Nat))

noncomputable def spec_l01Finite_g (v37 : Nat) : Option (Bool) := (spec_l01Finite_T v37).run
def spec_l01Finite_enc (v37 : Nat) (y : Bool) : Rs := (.bool y, [])
theorem spec_l01Finite_den (v37 : Nat) : (den TT (tabD spec_l01Finite_tab) (tabM spec_l01Finite_tab) (spec_l01Finite_LO v37) (codeOf Try.f100) ([.flt .f32 v37] ++ List.replicate (Try.f100.ntmps - ([.flt .f32 v37] : List DV).length) .undef) []).bind (retD TT Try.f100.results.toList 0) = (spec_l01Finite_T v37).bind fun y => .leaf (spec_l01Finite_enc v37 y) := by kernel_rfl
theorem spec_l01Finite_fn (v37 : Nat) (F : Fr) (hm : F.ids.length = 0) (h0 : St F [] F.H0) (hA : DVs.Ok F [] [.flt .f32 v37]) {y : Bool} (hy : spec_l01Finite_g v37 = some y) : ∃ H', FnOk Try.prog 100 (DVs.av F [.flt .f32 v37]) F.H0 ((spec_l01Finite_enc v37 y).1.av F) H' ∧ St F (spec_l01Finite_enc v37 y).2 H' ∧ (spec_l01Finite_enc v37 y).1.Ok F (spec_l01Finite_enc v37 y).2 :=
  fn_fin tok spec_l01Finite_hO mixed Try.func100 Try.call100 (by kernel_rfl) (LoopsOk_eq (l := []) (by kernel_rfl) trivial) (spec_l01Finite_den v37) hy hm h0 hA
def spec_l01Finite_v (v37 : Nat) : Bool :=
  feq .f32 (fsub .f32 v37 v37) (0 : Nat)
theorem spec_l01Finite_tot (v37 : Nat) : spec_l01Finite_g v37 = some (spec_l01Finite_v v37) := by
  unfold spec_l01Finite_g spec_l01Finite_T spec_l01Finite_v
  simp only [Tree.run]
  repeat' (first | rfl | split)
noncomputable def spec_l01Finite_F : DFn := fun args L =>
  match args with
  | [.flt .f32 v37] =>
    .leaf (.bool (spec_l01Finite_v v37), L)
  | _ => .fail
theorem spec_l01Finite_Fok : COk Try.prog 100 spec_l01Finite_F true := by
  intro F L H args r L' hs ha hr
  unfold spec_l01Finite_F at hr
  split at hr
  · rename_i v37
    have hy := spec_l01Finite_tot v37
    generalize spec_l01Finite_v v37 = y at hy hr
    simp only [Tree.run, Option.some.injEq, Prod.mk.injEq] at hr
    obtain ⟨rfl, rfl⟩ := hr
    exact call_ok0 hs (fun k => (([] : List AV)[k]?).getD .top) [.flt .f32 v37] [.flt .f32 v37] (fun F' h0 hi hρ => ⟨by simp [DVs.av, DV.av, BR.av, hρ], spec_l01Finite_fn v37 F' (by rw [hi]; rfl) (st_nil hi) ⟨trivial, trivial⟩ hy⟩) rfl
  · cases hr
/-! spec.l02Finite -/
noncomputable def spec_l02Finite_l0_T (v35 : List Nat) (s : Int) : Tree ((Int) ⊕ ((Unit) ⊕ (Unit))) :=
  (.br (decide (s < ((v35.length : Nat) : Int))) (
   (.grd (inb s v35.length) <|
   (.br (!(spec_l01Finite_v (nth v35 (Int.toNat s)))) (
    .leaf (.inr (.inl ()))
   ) (
    .leaf (.inl (IntKind.i64.wrap (s + (1 : Int))))
   )))
  ) (
   .leaf (.inr (.inr ()))
  ))

noncomputable def spec_l02Finite_l0_g (v35 : List Nat) (s0 : Int) : Option ((Unit) ⊕ (Unit)) := whileM (fun s => (spec_l02Finite_l0_T v35 s).run) s0
def spec_l02Finite_l0_E (v35 : List Nat) (s : Int) : Sd := ([.bslc (BR.root 0) (.f32 v35), .top, .top, .int .i64 s, .top, .top, .top, .top, .top, .top, .top, .top, .top, .top, .top, .top], [])
def spec_l02Finite_l0_X (v35 : List Nat) (x : (Unit) ⊕ (Unit)) : Out := (match x with | .inl x => (.ret, [.top, .top, .lit false, .top, .top, .top, .top, .top, .top, .top, .top, .top, .top, .top, .top, .top], []) | .inr x => (.normal, [.top, .top, .top, .top, .top, .top, .top, .top, .top, .top, .top, .top, .top, .top, .top, .top], []))
def spec_l02Finite_l0_kill : List Nat := [0, 1, 1, 0, 1, 1, 1, 1, 1, 1, 1, 1, 1, 1, 1, 1]
def spec_l02Finite_l0_nx : Exit → List Nat
  | .exit 0 => [1, 1, 1, 1, 1, 1, 1, 1, 1, 1, 1, 1, 1, 1, 1, 1]
  | .ret => [1, 1, 0, 1, 1, 1, 1, 1, 1, 1, 1, 1, 1, 1, 1, 1]
  | _ => []
noncomputable def spec_l02Finite_LO (v35 : List Nat) : LOr := fun id e L =>
  match id with
  | 0 => .need (normA 0 spec_l02Finite_l0_kill e L = some (spec_l02Finite_l0_E v35 (gI (vAt e 3)))) (.call (spec_l02Finite_l0_g v35 (gI (vAt e 3))) fun x => .sum x (fun b0 => .leaf (spec_l02Finite_l0_X v35 (.inl b0))) (fun c0 => .leaf (spec_l02Finite_l0_X v35 (.inr c0))))
  | _ => .fail
noncomputable def spec_l02Finite_tab : List (FuncId × DFn × Bool) := [(100, spec_l01Finite_F, true)]
theorem spec_l02Finite_hO : OrcOk Try.prog (tabD spec_l02Finite_tab) (tabM spec_l02Finite_tab) := tabD_cons spec_l01Finite_Fok (tabD_nil _)
theorem spec_l02Finite_l0_be (v35 : List Nat) (s : Int) : bodyT TT (tabD spec_l02Finite_tab) (tabM spec_l02Finite_tab) (spec_l02Finite_LO v35) 0 spec_l02Finite_l0_kill spec_l02Finite_l0_nx (bodyOf Try.f131 0) 0 (spec_l02Finite_l0_E v35 s) = (spec_l02Finite_l0_T v35 s).bind fun y => .leaf (outS (spec_l02Finite_l0_E v35) (spec_l02Finite_l0_X v35) y) := by kernel_rfl
theorem spec_l02Finite_l0_ok (v35 : List Nat) : LSound Try.prog 0 (spec_l02Finite_LO v35) 0 (bodyOf Try.f131 0) := by
  intro e L out h
  exact lo_ok (E := spec_l02Finite_l0_E v35) (gT := spec_l02Finite_l0_T v35) (X := spec_l02Finite_l0_X v35) (s0 := (gI (vAt e 3))) tok spec_l02Finite_hO mixed (LoopsOk_eq (l := []) (by kernel_rfl) trivial) (spec_l02Finite_l0_be v35) rfl (by intro x; (cases x with | inl b => rfl | inr x => exact rfl)) h
noncomputable def spec_l02Finite_T (v35 : List Nat) : Tree (Bool) :=
  (.need (some (spec_l02Finite_l0_E v35 (0 : Int)) = some (spec_l02Finite_l0_E v35 (0 : Int))) <|
  (.call (spec_l02Finite_l0_g v35 (0 : Int)) fun v40 =>
  (.sum v40 (fun v41 =>
   .leaf false
  ) (fun v42 =>
   .leaf true
  ))))

noncomputable def spec_l02Finite_g (v35 : List Nat) : Option (Bool) := (spec_l02Finite_T v35).run
def spec_l02Finite_enc (v35 : List Nat) (y : Bool) : Rs := (.bool y, [])
theorem spec_l02Finite_den (v35 : List Nat) : (den TT (tabD spec_l02Finite_tab) (tabM spec_l02Finite_tab) (spec_l02Finite_LO v35) (codeOf Try.f131) ([.bslc (BR.root 0) (.f32 v35)] ++ List.replicate (Try.f131.ntmps - ([.bslc (BR.root 0) (.f32 v35)] : List DV).length) .undef) []).bind (retD TT Try.f131.results.toList 0) = (spec_l02Finite_T v35).bind fun y => .leaf (spec_l02Finite_enc v35 y) := by kernel_rfl
theorem spec_l02Finite_fn (v35 : List Nat) (F : Fr) (hm : F.ids.length = 0) (h0 : St F [] F.H0) (hA : DVs.Ok F [] [.bslc (BR.root 0) (.f32 v35)]) {y : Bool} (hy : spec_l02Finite_g v35 = some y) : ∃ H', FnOk Try.prog 131 (DVs.av F [.bslc (BR.root 0) (.f32 v35)]) F.H0 ((spec_l02Finite_enc v35 y).1.av F) H' ∧ St F (spec_l02Finite_enc v35 y).2 H' ∧ (spec_l02Finite_enc v35 y).1.Ok F (spec_l02Finite_enc v35 y).2 :=
  fn_fin tok spec_l02Finite_hO mixed Try.func131 Try.call131 (by kernel_rfl) (LoopsOk_eq (l := [(0, bodyOf Try.f131 0)]) (by kernel_rfl) ⟨spec_l02Finite_l0_ok v35, trivial⟩) (spec_l02Finite_den v35) hy hm h0 hA
noncomputable def spec_l02Finite_F : DFn := fun args L =>
  match args with
  | [a1] =>
    optT (rowF32 L a1) fun v35 =>
    .call (spec_l02Finite_g v35) fun y => .leaf (.bool y, L)
  | _ => .fail
theorem spec_l02Finite_Fok : COk Try.prog 131 spec_l02Finite_F true := by
  intro F L H args r L' hs ha hr
  unfold spec_l02Finite_F at hr
  split at hr
  · rename_i a1
    obtain ⟨v35, hv35, hr⟩ := optT_run hr
    simp only [Tree.run] at hr
    obtain ⟨y, hy, hr⟩ := Option.bind_eq_some_iff.1 hr
    simp only [Tree.run, Option.some.injEq, Prod.mk.injEq] at hr
    obtain ⟨rfl, rfl⟩ := hr
    exact call_ok0 hs (fun k => (([a1.av F] : List AV)[k]?).getD .top) [a1] [.bslc (BR.root 0) (.f32 v35)] (fun F' h0 hi hρ => ⟨by simp [DVs.av, DV.av, BR.av, hρ], spec_l02Finite_fn v35 F' (by rw [hi]; rfl) (st_nil hi) ⟨bslc_ok hi (by rw [h0, hρ]; exact rowF32_ok hs (DVs.okAt ha 0 rfl) hv35), trivial⟩ hy⟩) rfl
  · cases hr
/-! spec.l02Is -/
noncomputable def spec_l02Is_LO (v27 : Int) (v28 : Int) (v29 : List Nat) : LOr := fun id e L =>
  match id with
  | _ => .fail
noncomputable def spec_l02Is_tab : List (FuncId × DFn × Bool) := [(147, spec_l02Sides_F, true), (131, spec_l02Finite_F, true)]
theorem spec_l02Is_hO : OrcOk Try.prog (tabD spec_l02Is_tab) (tabM spec_l02Is_tab) := tabD_cons spec_l02Sides_Fok (tabD_cons spec_l02Finite_Fok (tabD_nil _))
noncomputable def spec_l02Is_T (v27 : Int) (v28 : Int) (v29 : List Nat) : Tree (Bool) :=
  (.br (spec_l02Sides_v v27 v28) (
   (.br (decide (((v29.length : Nat) : Int) = IntKind.i64.wrap (v27 * v28))) (
    (.call (spec_l02Finite_g v29) fun v43 =>
    .leaf v43)
   ) (
    .leaf false
   ))
  ) (
   .leaf false
  ))

noncomputable def spec_l02Is_g (v27 : Int) (v28 : Int) (v29 : List Nat) : Option (Bool) := (spec_l02Is_T v27 v28 v29).run
def spec_l02Is_enc (v27 : Int) (v28 : Int) (v29 : List Nat) (y : Bool) : Rs := (.bool y, [])
theorem spec_l02Is_den (v27 : Int) (v28 : Int) (v29 : List Nat) : (den TT (tabD spec_l02Is_tab) (tabM spec_l02Is_tab) (spec_l02Is_LO v27 v28 v29) (codeOf Try.f99) ([.bptr (BR.root 0) [.int .i64 v27, .int .i64 v28, .bslc (BR.root 1) (.f32 v29)]] ++ List.replicate (Try.f99.ntmps - ([.bptr (BR.root 0) [.int .i64 v27, .int .i64 v28, .bslc (BR.root 1) (.f32 v29)]] : List DV).length) .undef) []).bind (retD TT Try.f99.results.toList 0) = (spec_l02Is_T v27 v28 v29).bind fun y => .leaf (spec_l02Is_enc v27 v28 v29 y) := by kernel_rfl
theorem spec_l02Is_fn (v27 : Int) (v28 : Int) (v29 : List Nat) (F : Fr) (hm : F.ids.length = 0) (h0 : St F [] F.H0) (hA : DVs.Ok F [] [.bptr (BR.root 0) [.int .i64 v27, .int .i64 v28, .bslc (BR.root 1) (.f32 v29)]]) {y : Bool} (hy : spec_l02Is_g v27 v28 v29 = some y) : ∃ H', FnOk Try.prog 99 (DVs.av F [.bptr (BR.root 0) [.int .i64 v27, .int .i64 v28, .bslc (BR.root 1) (.f32 v29)]]) F.H0 ((spec_l02Is_enc v27 v28 v29 y).1.av F) H' ∧ St F (spec_l02Is_enc v27 v28 v29 y).2 H' ∧ (spec_l02Is_enc v27 v28 v29 y).1.Ok F (spec_l02Is_enc v27 v28 v29 y).2 :=
  fn_fin tok spec_l02Is_hO mixed Try.func99 Try.call99 (by kernel_rfl) (LoopsOk_eq (l := []) (by kernel_rfl) trivial) (spec_l02Is_den v27 v28 v29) hy hm h0 hA
noncomputable def spec_l02Is_F : DFn := fun args L =>
  match args with
  | [a1] =>
    optT (cellsOf L 3 a1) fun cs0 =>
    (match cs0 with
    | [.int .i64 v27, .int .i64 v28, a2] =>
    optT (rowF32 L a2) fun v29 =>
    .call (spec_l02Is_g v27 v28 v29) fun y => .leaf (.bool y, L)
    | _ => .fail)
  | _ => .fail
theorem spec_l02Is_Fok : COk Try.prog 99 spec_l02Is_F true := by
  intro F L H args r L' hs ha hr
  unfold spec_l02Is_F at hr
  split at hr
  · rename_i a1
    obtain ⟨cs0, hcp0, hr⟩ := optT_run hr
    split at hr
    · rename_i v27 v28 a2
      obtain ⟨v29, hv29, hr⟩ := optT_run hr
      simp only [Tree.run] at hr
      obtain ⟨y, hy, hr⟩ := Option.bind_eq_some_iff.1 hr
      simp only [Tree.run, Option.some.injEq, Prod.mk.injEq] at hr
      obtain ⟨rfl, rfl⟩ := hr
      exact call_ok0 hs (fun k => (([a1.av F, a2.av F] : List AV)[k]?).getD .top) [a1] [.bptr (BR.root 0) [.int .i64 v27, .int .i64 v28, .bslc (BR.root 1) (.f32 v29)]] (fun F' h0 hi hρ => ⟨by simp [DVs.av, DV.av, BR.av, hρ], spec_l02Is_fn v27 v28 v29 F' (by rw [hi]; rfl) (st_nil hi) ⟨bptr_ok hi (by rw [h0]; simpa [DVs.av, DV.av, BR.av, hρ] using (cellsOf_ok hs (DVs.okAt ha 0 rfl) hcp0).1) ⟨trivial, trivial, bslc_ok hi (by rw [h0, hρ]; exact rowF32_ok hs (DVs.okAt (cellsOf_ok hs (DVs.okAt ha 0 rfl) hcp0).2 2 rfl) hv29), trivial⟩, trivial⟩ hy⟩) rfl
    · cases hr
  · cases hr
/-! math.Floor -/
noncomputable def math_Floor_LO (v46 : Nat) : LOr := fun id e L =>
  match id with
  | _ => .fail
noncomputable def math_Floor_tab : List (FuncId × DFn × Bool) := [(148, Floor_F, true)]
theorem math_Floor_hO : OrcOk Try.prog (tabD math_Floor_tab) (tabM math_Floor_tab) := tabD_cons Floor_Fok (tabD_nil _)
noncomputable def math_Floor_T (v46 : Nat) : Tree (Nat) :=
  (.grd (!isNan .f64 v46) <|
  .leaf (ffloor v46))

noncomputable def math_Floor_g (v46 : Nat) : Option (Nat) := (math_Floor_T v46).run
def math_Floor_enc (v46 : Nat) (y : Nat) : Rs := (.flt .f64 y, [])
theorem math_Floor_den (v46 : Nat) : (den TT (tabD math_Floor_tab) (tabM math_Floor_tab) (math_Floor_LO v46) (codeOf Try.f101) ([.flt .f64 v46] ++ List.replicate (Try.f101.ntmps - ([.flt .f64 v46] : List DV).length) .undef) []).bind (retD TT Try.f101.results.toList 0) = (math_Floor_T v46).bind fun y => .leaf (math_Floor_enc v46 y) := by kernel_rfl
theorem math_Floor_fn (v46 : Nat) (F : Fr) (hm : F.ids.length = 0) (h0 : St F [] F.H0) (hA : DVs.Ok F [] [.flt .f64 v46]) {y : Nat} (hy : math_Floor_g v46 = some y) : ∃ H', FnOk Try.prog 101 (DVs.av F [.flt .f64 v46]) F.H0 ((math_Floor_enc v46 y).1.av F) H' ∧ St F (math_Floor_enc v46 y).2 H' ∧ (math_Floor_enc v46 y).1.Ok F (math_Floor_enc v46 y).2 :=
  fn_fin tok math_Floor_hO mixed Try.func101 Try.call101 (by kernel_rfl) (LoopsOk_eq (l := []) (by kernel_rfl) trivial) (math_Floor_den v46) hy hm h0 hA
noncomputable def math_Floor_F : DFn := fun args L =>
  match args with
  | [.flt .f64 v46] =>
    .call (math_Floor_g v46) fun y => .leaf (.flt .f64 y, L)
  | _ => .fail
theorem math_Floor_Fok : COk Try.prog 101 math_Floor_F true := by
  intro F L H args r L' hs ha hr
  unfold math_Floor_F at hr
  split at hr
  · rename_i v46
    simp only [Tree.run] at hr
    obtain ⟨y, hy, hr⟩ := Option.bind_eq_some_iff.1 hr
    simp only [Tree.run, Option.some.injEq, Prod.mk.injEq] at hr
    obtain ⟨rfl, rfl⟩ := hr
    exact call_ok0 hs (fun k => (([] : List AV)[k]?).getD .top) [.flt .f64 v46] [.flt .f64 v46] (fun F' h0 hi hρ => ⟨by simp [DVs.av, DV.av, BR.av, hρ], math_Floor_fn v46 F' (by rw [hi]; rfl) (st_nil hi) ⟨trivial, trivial⟩ hy⟩) rfl
  · cases hr
/-! spec.l06Bound -/
noncomputable def spec_l06Bound_l0_T (v80 : List Int) (v81 : Int) (s : Int) : Tree ((Int) ⊕ ((Unit) ⊕ (Unit))) :=
  (.br (decide (s < ((v80.length : Nat) : Int))) (
   (.grd (inb s v80.length) <|
   (.br (!(spec_l00In_v (nth v80 (Int.toNat s)) (IntKind.i64.wrap (0 - v81)) v81)) (
    .leaf (.inr (.inl ()))
   ) (
    .leaf (.inl (IntKind.i64.wrap (s + (1 : Int))))
   )))
  ) (
   .leaf (.inr (.inr ()))
  ))

noncomputable def spec_l06Bound_l0_g (v80 : List Int) (v81 : Int) (s0 : Int) : Option ((Unit) ⊕ (Unit)) := whileM (fun s => (spec_l06Bound_l0_T v80 v81 s).run) s0
def spec_l06Bound_l0_E (v80 : List Int) (v81 : Int) (s : Int) : Sd := ([.bslc (BR.root 0) (.i64 v80), .int .i64 v81, .top, .top, .top, .int .i64 s, .top, .top, .top, .top, .top, .top, .top, .top, .top, .top, .top, .top, .top, .top, .top], [])
def spec_l06Bound_l0_X (v80 : List Int) (v81 : Int) (x : (Unit) ⊕ (Unit)) : Out := (match x with | .inl x => (.ret, [.top, .top, .top, .top, .lit false, .top, .top, .top, .top, .top, .top, .top, .top, .top, .top, .top, .top, .top, .top, .top, .top], []) | .inr x => (.normal, [.top, .top, .top, .top, .top, .top, .top, .top, .top, .top, .top, .top, .top, .top, .top, .top, .top, .top, .top, .top, .top], []))
def spec_l06Bound_l0_kill : List Nat := [0, 0, 1, 1, 1, 0, 1, 1, 1, 1, 1, 1, 1, 1, 1, 1, 1, 1, 1, 1, 1]
def spec_l06Bound_l0_nx : Exit → List Nat
  | .exit 0 => [1, 1, 1, 1, 1, 1, 1, 1, 1, 1, 1, 1, 1, 1, 1, 1, 1, 1, 1, 1, 1]
  | .ret => [1, 1, 1, 1, 0, 1, 1, 1, 1, 1, 1, 1, 1, 1, 1, 1, 1, 1, 1, 1, 1]
  | _ => []
noncomputable def spec_l06Bound_LO (v80 : List Int) (v81 : Int) : LOr := fun id e L =>
  match id with
  | 0 => .need (normA 0 spec_l06Bound_l0_kill e L = some (spec_l06Bound_l0_E v80 v81 (gI (vAt e 5)))) (.call (spec_l06Bound_l0_g v80 v81 (gI (vAt e 5))) fun x => .sum x (fun b0 => .leaf (spec_l06Bound_l0_X v80 v81 (.inl b0))) (fun c0 => .leaf (spec_l06Bound_l0_X v80 v81 (.inr c0))))
  | _ => .fail
noncomputable def spec_l06Bound_tab : List (FuncId × DFn × Bool) := [(71, spec_l00In_F, true)]
theorem spec_l06Bound_hO : OrcOk Try.prog (tabD spec_l06Bound_tab) (tabM spec_l06Bound_tab) := tabD_cons spec_l00In_Fok (tabD_nil _)
theorem spec_l06Bound_l0_be (v80 : List Int) (v81 : Int) (s : Int) : bodyT TT (tabD spec_l06Bound_tab) (tabM spec_l06Bound_tab) (spec_l06Bound_LO v80 v81) 0 spec_l06Bound_l0_kill spec_l06Bound_l0_nx (bodyOf Try.f172 0) 0 (spec_l06Bound_l0_E v80 v81 s) = (spec_l06Bound_l0_T v80 v81 s).bind fun y => .leaf (outS (spec_l06Bound_l0_E v80 v81) (spec_l06Bound_l0_X v80 v81) y) := by kernel_rfl
theorem spec_l06Bound_l0_ok (v80 : List Int) (v81 : Int) : LSound Try.prog 0 (spec_l06Bound_LO v80 v81) 0 (bodyOf Try.f172 0) := by
  intro e L out h
  exact lo_ok (E := spec_l06Bound_l0_E v80 v81) (gT := spec_l06Bound_l0_T v80 v81) (X := spec_l06Bound_l0_X v80 v81) (s0 := (gI (vAt e 5))) tok spec_l06Bound_hO mixed (LoopsOk_eq (l := []) (by kernel_rfl) trivial) (spec_l06Bound_l0_be v80 v81) rfl (by intro x; (cases x with | inl b => rfl | inr x => exact rfl)) h
noncomputable def spec_l06Bound_T (v80 : List Int) (v81 : Int) : Tree (Bool) :=
  (.need (some (spec_l06Bound_l0_E v80 v81 (0 : Int)) = some (spec_l06Bound_l0_E v80 v81 (0 : Int))) <|
  (.call (spec_l06Bound_l0_g v80 v81 (0 : Int)) fun v85 =>
  (.sum v85 (fun v86 =>
   .leaf false
  ) (fun v87 =>
   .leaf true
  ))))

noncomputable def spec_l06Bound_g (v80 : List Int) (v81 : Int) : Option (Bool) := (spec_l06Bound_T v80 v81).run
def spec_l06Bound_enc (v80 : List Int) (v81 : Int) (y : Bool) : Rs := (.bool y, [])
theorem spec_l06Bound_den (v80 : List Int) (v81 : Int) : (den TT (tabD spec_l06Bound_tab) (tabM spec_l06Bound_tab) (spec_l06Bound_LO v80 v81) (codeOf Try.f172) ([.bslc (BR.root 0) (.i64 v80), .int .i64 v81] ++ List.replicate (Try.f172.ntmps - ([.bslc (BR.root 0) (.i64 v80), .int .i64 v81] : List DV).length) .undef) []).bind (retD TT Try.f172.results.toList 0) = (spec_l06Bound_T v80 v81).bind fun y => .leaf (spec_l06Bound_enc v80 v81 y) := by kernel_rfl
theorem spec_l06Bound_fn (v80 : List Int) (v81 : Int) (F : Fr) (hm : F.ids.length = 0) (h0 : St F [] F.H0) (hA : DVs.Ok F [] [.bslc (BR.root 0) (.i64 v80), .int .i64 v81]) {y : Bool} (hy : spec_l06Bound_g v80 v81 = some y) : ∃ H', FnOk Try.prog 172 (DVs.av F [.bslc (BR.root 0) (.i64 v80), .int .i64 v81]) F.H0 ((spec_l06Bound_enc v80 v81 y).1.av F) H' ∧ St F (spec_l06Bound_enc v80 v81 y).2 H' ∧ (spec_l06Bound_enc v80 v81 y).1.Ok F (spec_l06Bound_enc v80 v81 y).2 :=
  fn_fin tok spec_l06Bound_hO mixed Try.func172 Try.call172 (by kernel_rfl) (LoopsOk_eq (l := [(0, bodyOf Try.f172 0)]) (by kernel_rfl) ⟨spec_l06Bound_l0_ok v80 v81, trivial⟩) (spec_l06Bound_den v80 v81) hy hm h0 hA
noncomputable def spec_l06Bound_F : DFn := fun args L =>
  match args with
  | [a1, .int .i64 v81] =>
    optT (rowI64 L a1) fun v80 =>
    .call (spec_l06Bound_g v80 v81) fun y => .leaf (.bool y, L)
  | _ => .fail
theorem spec_l06Bound_Fok : COk Try.prog 172 spec_l06Bound_F true := by
  intro F L H args r L' hs ha hr
  unfold spec_l06Bound_F at hr
  split at hr
  · rename_i a1 v81
    obtain ⟨v80, hv80, hr⟩ := optT_run hr
    simp only [Tree.run] at hr
    obtain ⟨y, hy, hr⟩ := Option.bind_eq_some_iff.1 hr
    simp only [Tree.run, Option.some.injEq, Prod.mk.injEq] at hr
    obtain ⟨rfl, rfl⟩ := hr
    exact call_ok0 hs (fun k => (([a1.av F] : List AV)[k]?).getD .top) [a1, .int .i64 v81] [.bslc (BR.root 0) (.i64 v80), .int .i64 v81] (fun F' h0 hi hρ => ⟨by simp [DVs.av, DV.av, BR.av, hρ], spec_l06Bound_fn v80 v81 F' (by rw [hi]; rfl) (st_nil hi) ⟨bslc_ok hi (by rw [h0, hρ]; exact rowI64_ok hs (DVs.okAt ha 0 rfl) hv80), trivial, trivial⟩ hy⟩) rfl
  · cases hr
/-! spec.l06Is -/
noncomputable def spec_l06Is_LO (v76 : Int) (v77 : Int) (v78 : List Int) (v79 : Int) : LOr := fun id e L =>
  match id with
  | _ => .fail
noncomputable def spec_l06Is_tab : List (FuncId × DFn × Bool) := [(71, spec_l00In_F, true), (172, spec_l06Bound_F, true)]
theorem spec_l06Is_hO : OrcOk Try.prog (tabD spec_l06Is_tab) (tabM spec_l06Is_tab) := tabD_cons spec_l00In_Fok (tabD_cons spec_l06Bound_Fok (tabD_nil _))
noncomputable def spec_l06Is_T (v76 : Int) (v77 : Int) (v78 : List Int) (v79 : Int) : Tree (Bool) :=
  (.br (spec_l00In_v v76 (1 : Int) (6 : Int)) (
   (.br (spec_l00In_v v77 (1 : Int) (6 : Int)) (
    (.br (decide (((v78.length : Nat) : Int) = IntKind.i64.wrap (v76 * v77))) (
     (.call (spec_l06Bound_g v78 v79) fun v88 =>
     .leaf v88)
    ) (
     .leaf false
    ))
   ) (
    .leaf false
   ))
  ) (
   .leaf false
  ))

noncomputable def spec_l06Is_g (v76 : Int) (v77 : Int) (v78 : List Int) (v79 : Int) : Option (Bool) := (spec_l06Is_T v76 v77 v78 v79).run
def spec_l06Is_enc (v76 : Int) (v77 : Int) (v78 : List Int) (v79 : Int) (y : Bool) : Rs := (.bool y, [])
theorem spec_l06Is_den (v76 : Int) (v77 : Int) (v78 : List Int) (v79 : Int) : (den TT (tabD spec_l06Is_tab) (tabM spec_l06Is_tab) (spec_l06Is_LO v76 v77 v78 v79) (codeOf Try.f150) ([.bptr (BR.root 0) [.int .i64 v76, .int .i64 v77, .bslc (BR.root 1) (.i64 v78)], .int .i64 v79] ++ List.replicate (Try.f150.ntmps - ([.bptr (BR.root 0) [.int .i64 v76, .int .i64 v77, .bslc (BR.root 1) (.i64 v78)], .int .i64 v79] : List DV).length) .undef) []).bind (retD TT Try.f150.results.toList 0) = (spec_l06Is_T v76 v77 v78 v79).bind fun y => .leaf (spec_l06Is_enc v76 v77 v78 v79 y) := by kernel_rfl
theorem spec_l06Is_fn (v76 : Int) (v77 : Int) (v78 : List Int) (v79 : Int) (F : Fr) (hm : F.ids.length = 0) (h0 : St F [] F.H0) (hA : DVs.Ok F [] [.bptr (BR.root 0) [.int .i64 v76, .int .i64 v77, .bslc (BR.root 1) (.i64 v78)], .int .i64 v79]) {y : Bool} (hy : spec_l06Is_g v76 v77 v78 v79 = some y) : ∃ H', FnOk Try.prog 150 (DVs.av F [.bptr (BR.root 0) [.int .i64 v76, .int .i64 v77, .bslc (BR.root 1) (.i64 v78)], .int .i64 v79]) F.H0 ((spec_l06Is_enc v76 v77 v78 v79 y).1.av F) H' ∧ St F (spec_l06Is_enc v76 v77 v78 v79 y).2 H' ∧ (spec_l06Is_enc v76 v77 v78 v79 y).1.Ok F (spec_l06Is_enc v76 v77 v78 v79 y).2 :=
  fn_fin tok spec_l06Is_hO mixed Try.func150 Try.call150 (by kernel_rfl) (LoopsOk_eq (l := []) (by kernel_rfl) trivial) (spec_l06Is_den v76 v77 v78 v79) hy hm h0 hA
noncomputable def spec_l06Is_F : DFn := fun args L =>
  match args with
  | [a1, .int .i64 v79] =>
    optT (cellsOf L 3 a1) fun cs0 =>
    (match cs0 with
    | [.int .i64 v76, .int .i64 v77, a2] =>
    optT (rowI64 L a2) fun v78 =>
    .call (spec_l06Is_g v76 v77 v78 v79) fun y => .leaf (.bool y, L)
    | _ => .fail)
  | _ => .fail
theorem spec_l06Is_Fok : COk Try.prog 150 spec_l06Is_F true := by
  intro F L H args r L' hs ha hr
  unfold spec_l06Is_F at hr
  split at hr
  · rename_i a1 v79
    obtain ⟨cs0, hcp0, hr⟩ := optT_run hr
    split at hr
    · rename_i v76 v77 a2
      obtain ⟨v78, hv78, hr⟩ := optT_run hr
      simp only [Tree.run] at hr
      obtain ⟨y, hy, hr⟩ := Option.bind_eq_some_iff.1 hr
      simp only [Tree.run, Option.some.injEq, Prod.mk.injEq] at hr
      obtain ⟨rfl, rfl⟩ := hr
      exact call_ok0 hs (fun k => (([a1.av F, a2.av F] : List AV)[k]?).getD .top) [a1, .int .i64 v79] [.bptr (BR.root 0) [.int .i64 v76, .int .i64 v77, .bslc (BR.root 1) (.i64 v78)], .int .i64 v79] (fun F' h0 hi hρ => ⟨by simp [DVs.av, DV.av, BR.av, hρ], spec_l06Is_fn v76 v77 v78 v79 F' (by rw [hi]; rfl) (st_nil hi) ⟨bptr_ok hi (by rw [h0]; simpa [DVs.av, DV.av, BR.av, hρ] using (cellsOf_ok hs (DVs.okAt ha 0 rfl) hcp0).1) ⟨trivial, trivial, bslc_ok hi (by rw [h0, hρ]; exact rowI64_ok hs (DVs.okAt (cellsOf_ok hs (DVs.okAt ha 0 rfl) hcp0).2 2 rfl) hv78), trivial⟩, trivial, trivial⟩ hy⟩) rfl
    · cases hr
  · cases hr
/-! spec.l06Give -/
noncomputable def spec_l06Give_LO (v73 : Int) (v74 : Int) (v75 : List Int) : LOr := fun id e L =>
  match id with
  | _ => .fail
noncomputable def spec_l06Give_tab : List (FuncId × DFn × Bool) := [(150, spec_l06Is_F, true)]
theorem spec_l06Give_hO : OrcOk Try.prog (tabD spec_l06Give_tab) (tabM spec_l06Give_tab) := tabD_cons spec_l06Is_Fok (tabD_nil _)
noncomputable def spec_l06Give_T (v73 : Int) (v74 : Int) (v75 : List Int) : Tree ((Unit) ⊕ (Int × Int)) :=
  (.call (spec_l06Is_g v73 v74 v75 (1000000 : Int)) fun v89 =>
  (.br (!v89) (
   .leaf (.inl ())
  ) (
   .leaf (.inr (v73, v74))
  )))

noncomputable def spec_l06Give_g (v73 : Int) (v74 : Int) (v75 : List Int) : Option ((Unit) ⊕ (Int × Int)) := (spec_l06Give_T v73 v74 v75).run
def spec_l06Give_enc (v73 : Int) (v74 : Int) (v75 : List Int) (y : (Unit) ⊕ (Int × Int)) : Rs := (match y with | .inl y => (.tup [.agg [.int .i64 (0 : Int), .int .i64 (0 : Int), .nilslc], .lit false], []) | .inr y => (.tup [.agg [.int .i64 y.1, .int .i64 y.2, .bslc (BR.root 0) (.i64 v75)], .lit true], []))
theorem spec_l06Give_den (v73 : Int) (v74 : Int) (v75 : List Int) : (den TT (tabD spec_l06Give_tab) (tabM spec_l06Give_tab) (spec_l06Give_LO v73 v74 v75) (codeOf Try.f102) ([.agg [.int .i64 v73, .int .i64 v74, .bslc (BR.root 0) (.i64 v75)]] ++ List.replicate (Try.f102.ntmps - ([.agg [.int .i64 v73, .int .i64 v74, .bslc (BR.root 0) (.i64 v75)]] : List DV).length) .undef) []).bind (retD TT Try.f102.results.toList 0) = (spec_l06Give_T v73 v74 v75).bind fun y => .leaf (spec_l06Give_enc v73 v74 v75 y) := by kernel_rfl
theorem spec_l06Give_fn (v73 : Int) (v74 : Int) (v75 : List Int) (F : Fr) (hm : F.ids.length = 0) (h0 : St F [] F.H0) (hA : DVs.Ok F [] [.agg [.int .i64 v73, .int .i64 v74, .bslc (BR.root 0) (.i64 v75)]]) {y : (Unit) ⊕ (Int × Int)} (hy : spec_l06Give_g v73 v74 v75 = some y) : ∃ H', FnOk Try.prog 102 (DVs.av F [.agg [.int .i64 v73, .int .i64 v74, .bslc (BR.root 0) (.i64 v75)]]) F.H0 ((spec_l06Give_enc v73 v74 v75 y).1.av F) H' ∧ St F (spec_l06Give_enc v73 v74 v75 y).2 H' ∧ (spec_l06Give_enc v73 v74 v75 y).1.Ok F (spec_l06Give_enc v73 v74 v75 y).2 :=
  fn_fin tok spec_l06Give_hO mixed Try.func102 Try.call102 (by kernel_rfl) (LoopsOk_eq (l := []) (by kernel_rfl) trivial) (spec_l06Give_den v73 v74 v75) hy hm h0 hA
noncomputable def spec_l06Give_F : DFn := fun args L =>
  match args with
  | [.agg [.int .i64 v73, .int .i64 v74, a1]] =>
    optT (rowI64 L a1) fun v75 =>
    .call (spec_l06Give_g v73 v74 v75) fun y => .sum y (fun y0 => .leaf (.tup [.agg [.int .i64 (0 : Int), .int .i64 (0 : Int), .nilslc], .lit false], L)) (fun z0 => .leaf (.tup [.agg [.int .i64 z0.1, .int .i64 z0.2, a1], .lit true], L))
  | _ => .fail
theorem spec_l06Give_Fok : COk Try.prog 102 spec_l06Give_F true := by
  intro F L H args r L' hs ha hr
  unfold spec_l06Give_F at hr
  split at hr
  · rename_i v73 v74 a1
    obtain ⟨v75, hv75, hr⟩ := optT_run hr
    simp only [Tree.run] at hr
    obtain ⟨y, hy, hr⟩ := Option.bind_eq_some_iff.1 hr
    cases y with
    | inl y =>
      simp only [Tree.run, Option.some.injEq, Prod.mk.injEq] at hr
      obtain ⟨rfl, rfl⟩ := hr
      exact call_ok0 hs (fun k => (([a1.av F] : List AV)[k]?).getD .top) [.agg [.int .i64 v73, .int .i64 v74, a1]] [.agg [.int .i64 v73, .int .i64 v74, .bslc (BR.root 0) (.i64 v75)]] (fun F' h0 hi hρ => ⟨by simp [DVs.av, DV.av, BR.av, hρ], spec_l06Give_fn v73 v74 v75 F' (by rw [hi]; rfl) (st_nil hi) ⟨⟨trivial, trivial, bslc_ok hi (by rw [h0, hρ]; exact rowI64_ok hs (DVs.okAt (DVs.okAt ha 0 rfl) 2 rfl) hv75), trivial⟩, trivial⟩ hy⟩) rfl
    | inr y =>
      simp only [Tree.run, Option.some.injEq, Prod.mk.injEq] at hr
      obtain ⟨rfl, rfl⟩ := hr
      exact call_al0 hs (fun k => (([a1.av F] : List AV)[k]?).getD .top) [.agg [.int .i64 v73, .int .i64 v74, a1]] [.agg [.int .i64 v73, .int .i64 v74, .bslc (BR.root 0) (.i64 v75)]] (fun F' h0 hi hρ => ⟨by simp [DVs.av, DV.av, BR.av, hρ], spec_l06Give_fn v73 v74 v75 F' (by rw [hi]; rfl) (st_nil hi) ⟨⟨trivial, trivial, bslc_ok hi (by rw [h0, hρ]; exact rowI64_ok hs (DVs.okAt (DVs.okAt ha 0 rfl) 2 rfl) hv75), trivial⟩, trivial⟩ hy⟩) (fun F' h0 hi hρ => by simp [spec_l06Give_enc, DVs.av, DV.av, BR.av, hρ]) ⟨⟨trivial, trivial, (DVs.okAt (DVs.okAt ha 0 rfl) 2 rfl), trivial⟩, trivial, trivial⟩
  · cases hr
/-! spec.WholeOf -/
noncomputable def spec_WholeOf_l0_T (v25 : List Nat) (v26 : Nat) (s : (Int) ⊕ (Int × (List Int))) : Tree (((Int) ⊕ (Int × (List Int))) ⊕ ((Unit) ⊕ ((Unit) ⊕ ((List Int))))) :=
  (match s with
  | .inl s => (
  (.br (decide (s < ((v25.length : Nat) : Int))) (
   (.grd (inb s v25.length) <|
   (.call (math_Floor_g (wid (fadd .f32 (fmul .f32 (nth v25 (Int.toNat s)) v26) (1056964608 : Nat)))) fun v64 =>
   (.br (fgrt .f64 v64 (13920209183539462144 : Nat) || feq .f64 v64 (13920209183539462144 : Nat)) (
    (.br (!(fless .f64 v64 (4696837146684686336 : Nat) || feq .f64 v64 (4696837146684686336 : Nat))) (
     .leaf (.inr (.inl ()))
    ) (
     (.call (ftoint .f64 v64 .i64) fun v65 =>
     (.grd (fits ([v65] : List Int).length) <|
     (.br (decide (([v65] : List Int).length = 0)) (
      .fail
     ) (
      .leaf (.inl (.inr (IntKind.i64.wrap (s + (1 : Int)), ([v65] : List Int))))
     ))))
    ))
   ) (
    .leaf (.inr (.inl ()))
   ))))
  ) (
   .leaf (.inr (.inr (.inl ())))
  )))
  | .inr s => (
  (.br (decide (s.1 < ((v25.length : Nat) : Int))) (
   (.grd (inb s.1 v25.length) <|
   (.call (math_Floor_g (wid (fadd .f32 (fmul .f32 (nth v25 (Int.toNat s.1)) v26) (1056964608 : Nat)))) fun v66 =>
   (.br (fgrt .f64 v66 (13920209183539462144 : Nat) || feq .f64 v66 (13920209183539462144 : Nat)) (
    (.br (!(fless .f64 v66 (4696837146684686336 : Nat) || feq .f64 v66 (4696837146684686336 : Nat))) (
     .leaf (.inr (.inl ()))
    ) (
     (.call (ftoint .f64 v66 .i64) fun v67 =>
     (.grd (fits (s.2 ++ ([v67] : List Int)).length) <|
     .leaf (.inl (.inr (IntKind.i64.wrap (s.1 + (1 : Int)), s.2 ++ ([v67] : List Int))))))
    ))
   ) (
    .leaf (.inr (.inl ()))
   ))))
  ) (
   .leaf (.inr (.inr (.inr s.2)))
  ))))

noncomputable def spec_WholeOf_l0_g (v25 : List Nat) (v26 : Nat) (s0 : (Int) ⊕ (Int × (List Int))) : Option ((Unit) ⊕ ((Unit) ⊕ ((List Int)))) := whileM (fun s => (spec_WholeOf_l0_T v25 v26 s).run) s0
def spec_WholeOf_l0_E (v23 : Int) (v24 : Int) (v25 : List Nat) (v26 : Nat) (s : (Int) ⊕ (Int × (List Int))) : Sd := (match s with | .inl s => ( ([.top, .flt .f32 v26, .ptr 0 (0 : Nat) 0 (3 : Nat), .top, .ptr 1 (0 : Nat) 0 (3 : Nat), .top, .ptr 2 (0 : Nat) 0 (3 : Nat), .int .i64 s, .top, .top, .top, .top, .top, .top, .top, .top, .top, .top, .top, .top, .top, .top, .top, .top, .top, .top, .top, .top, .top, .top, .top, .top, .top, .top, .top, .top, .top, .top, .top, .top, .top, .top, .top, .top, .top, .top, .top, .top, .top, .top, .top, .top, .top, .top, .top, .top, .top, .top], [.gen [.int .i64 v23, .int .i64 v24, .bslc (BR.root 0) (.f32 v25)] false 0, .gen [.int .i64 (0 : Int), .int .i64 (0 : Int), .nilslc] false 0, .gen [.int .i64 v23, .int .i64 v24, .nilslc] false 0])) | .inr s => ( ([.top, .flt .f32 v26, .ptr 0 (0 : Nat) 0 (3 : Nat), .top, .ptr 1 (0 : Nat) 0 (3 : Nat), .top, .ptr 2 (0 : Nat) 0 (3 : Nat), .int .i64 s.1, .top, .top, .top, .top, .top, .top, .top, .top, .top, .top, .top, .top, .top, .top, .top, .top, .top, .top, .top, .top, .top, .top, .top, .top, .top, .top, .top, .top, .top, .top, .top, .top, .top, .top, .top, .top, .top, .top, .top, .top, .top, .top, .top, .top, .top, .top, .top, .top, .top, .top], [.gen [.int .i64 v23, .int .i64 v24, .bslc (BR.root 0) (.f32 v25)] false 0, .gen [.int .i64 (0 : Int), .int .i64 (0 : Int), .nilslc] false 0, .gen [.int .i64 v23, .int .i64 v24, .own 3 0 ((s.2).length)] false 0, .row (.i64 s.2) 0]))) 
def spec_WholeOf_l0_X (v23 : Int) (v24 : Int) (v25 : List Nat) (v26 : Nat) (x : (Unit) ⊕ ((Unit) ⊕ ((List Int)))) : Out := (match x with | .inl x => (.ret, [.top, .top, .top, .top, .ptr 0 (0 : Nat) 0 (3 : Nat), .lit false, .top, .top, .top, .top, .top, .top, .top, .top, .top, .top, .top, .top, .top, .top, .top, .top, .top, .top, .top, .top, .top, .top, .top, .top, .top, .top, .top, .top, .top, .top, .top, .top, .top, .top, .top, .top, .top, .top, .top, .top, .top, .top, .top, .top, .top, .top, .top, .top, .top, .top, .top, .top], [.gen [.int .i64 (0 : Int), .int .i64 (0 : Int), .nilslc] false 0]) | .inr x => (match x with | .inl x => (.normal, [.top, .top, .top, .top, .ptr 0 (0 : Nat) 0 (3 : Nat), .top, .ptr 1 (0 : Nat) 0 (3 : Nat), .top, .top, .top, .top, .top, .top, .top, .top, .top, .top, .top, .top, .top, .top, .top, .top, .top, .top, .top, .top, .top, .top, .top, .top, .top, .top, .top, .top, .top, .top, .top, .top, .top, .top, .top, .top, .top, .top, .top, .top, .top, .top, .top, .top, .top, .top, .top, .top, .top, .top, .top], [.gen [.int .i64 (0 : Int), .int .i64 (0 : Int), .nilslc] false 0, .gen [.int .i64 v23, .int .i64 v24, .nilslc] false 0]) | .inr x => (.normal, [.top, .top, .top, .top, .ptr 0 (0 : Nat) 0 (3 : Nat), .top, .ptr 1 (0 : Nat) 0 (3 : Nat), .top, .top, .top, .top, .top, .top, .top, .top, .top, .top, .top, .top, .top, .top, .top, .top, .top, .top, .top, .top, .top, .top, .top, .top, .top, .top, .top, .top, .top, .top, .top, .top, .top, .top, .top, .top, .top, .top, .top, .top, .top, .top, .top, .top, .top, .top, .top, .top, .top, .top, .top], [.gen [.int .i64 (0 : Int), .int .i64 (0 : Int), .nilslc] false 0, .gen [.int .i64 v23, .int .i64 v24, .own 2 0 ((x).length)] false 0, .row (.i64 x) 0])))
def spec_WholeOf_l0_kill : List Nat := [1, 0, 0, 1, 0, 1, 0, 0, 1, 1, 1, 1, 1, 1, 1, 1, 1, 1, 1, 1, 1, 1, 1, 1, 1, 1, 1, 1, 1, 1, 1, 1, 1, 1, 1, 1, 1, 1, 1, 1, 1, 1, 1, 1, 1, 1, 1, 1, 1, 1, 1, 1, 1, 1, 1, 1, 1, 1]
def spec_WholeOf_l0_nx : Exit → List Nat
  | .exit 0 => [1, 1, 1, 1, 0, 1, 0, 1, 1, 1, 1, 1, 1, 1, 1, 1, 1, 1, 1, 1, 1, 1, 1, 1, 1, 1, 1, 1, 1, 1, 1, 1, 1, 1, 1, 1, 1, 1, 1, 1, 1, 1, 1, 1, 1, 1, 1, 1, 1, 1, 1, 1, 1, 1, 1, 1, 1, 1]
  | .ret => [1, 1, 1, 1, 0, 0, 1, 1, 1, 1, 1, 1, 1, 1, 1, 1, 1, 1, 1, 1, 1, 1, 1, 1, 1, 1, 1, 1, 1, 1, 1, 1, 1, 1, 1, 1, 1, 1, 1, 1, 1, 1, 1, 1, 1, 1, 1, 1, 1, 1, 1, 1, 1, 1, 1, 1, 1, 1]
  | _ => []
noncomputable def spec_WholeOf_LO (v23 : Int) (v24 : Int) (v25 : List Nat) (v26 : Nat) : LOr := fun id e L =>
  match id with
  | 0 => .need (normA 0 spec_WholeOf_l0_kill e L = some (spec_WholeOf_l0_E v23 v24 v25 v26 (.inl (gI (vAt e 7))))) (.call (spec_WholeOf_l0_g v25 v26 (.inl (gI (vAt e 7)))) fun x => .sum x (fun b0 => .leaf (spec_WholeOf_l0_X v23 v24 v25 v26 (.inl b0))) (fun c0 => .sum c0 (fun b1 => .leaf (spec_WholeOf_l0_X v23 v24 v25 v26 (.inr (.inl b1)))) (fun c1 => .leaf (spec_WholeOf_l0_X v23 v24 v25 v26 (.inr (.inr c1))))))
  | _ => .fail
noncomputable def spec_WholeOf_tab : List (FuncId × DFn × Bool) := [(99, spec_l02Is_F, true), (100, spec_l01Finite_F, true), (101, math_Floor_F, true), (102, spec_l06Give_F, true)]
theorem spec_WholeOf_hO : OrcOk Try.prog (tabD spec_WholeOf_tab) (tabM spec_WholeOf_tab) := tabD_cons spec_l02Is_Fok (tabD_cons spec_l01Finite_Fok (tabD_cons math_Floor_Fok (tabD_cons spec_l06Give_Fok (tabD_nil _))))
theorem spec_WholeOf_l0_be0 (v23 : Int) (v24 : Int) (v25 : List Nat) (v26 : Nat) (s : Int) : bodyT TT (tabD spec_WholeOf_tab) (tabM spec_WholeOf_tab) (spec_WholeOf_LO v23 v24 v25 v26) 0 spec_WholeOf_l0_kill spec_WholeOf_l0_nx (bodyOf Try.f36 0) 0 (spec_WholeOf_l0_E v23 v24 v25 v26 (.inl s)) = (spec_WholeOf_l0_T v25 v26 (.inl s)).bind fun y => .leaf (outS (spec_WholeOf_l0_E v23 v24 v25 v26) (spec_WholeOf_l0_X v23 v24 v25 v26) y) := by kernel_rfl
theorem spec_WholeOf_l0_be1 (v23 : Int) (v24 : Int) (v25 : List Nat) (v26 : Nat) (s : Int × (List Int)) : bodyT TT (tabD spec_WholeOf_tab) (tabM spec_WholeOf_tab) (spec_WholeOf_LO v23 v24 v25 v26) 0 spec_WholeOf_l0_kill spec_WholeOf_l0_nx (bodyOf Try.f36 0) 0 (spec_WholeOf_l0_E v23 v24 v25 v26 (.inr s)) = (spec_WholeOf_l0_T v25 v26 (.inr s)).bind fun y => .leaf (outS (spec_WholeOf_l0_E v23 v24 v25 v26) (spec_WholeOf_l0_X v23 v24 v25 v26) y) := by kernel_rfl
theorem spec_WholeOf_l0_be (v23 : Int) (v24 : Int) (v25 : List Nat) (v26 : Nat) (s : (Int) ⊕ (Int × (List Int))) : bodyT TT (tabD spec_WholeOf_tab) (tabM spec_WholeOf_tab) (spec_WholeOf_LO v23 v24 v25 v26) 0 spec_WholeOf_l0_kill spec_WholeOf_l0_nx (bodyOf Try.f36 0) 0 (spec_WholeOf_l0_E v23 v24 v25 v26 s) = (spec_WholeOf_l0_T v25 v26 s).bind fun y => .leaf (outS (spec_WholeOf_l0_E v23 v24 v25 v26) (spec_WholeOf_l0_X v23 v24 v25 v26) y) := by 
  rcases s with s | s
  · exact spec_WholeOf_l0_be0 v23 v24 v25 v26 s
  · exact spec_WholeOf_l0_be1 v23 v24 v25 v26 s
theorem spec_WholeOf_l0_ok (v23 : Int) (v24 : Int) (v25 : List Nat) (v26 : Nat) : LSound Try.prog 0 (spec_WholeOf_LO v23 v24 v25 v26) 0 (bodyOf Try.f36 0) := by
  intro e L out h
  exact lo_ok (E := spec_WholeOf_l0_E v23 v24 v25 v26) (gT := spec_WholeOf_l0_T v25 v26) (X := spec_WholeOf_l0_X v23 v24 v25 v26) (s0 := .inl (gI (vAt e 7))) tok spec_WholeOf_hO mixed (LoopsOk_eq (l := []) (by kernel_rfl) trivial) (spec_WholeOf_l0_be v23 v24 v25 v26) rfl (by intro x; (cases x with | inl b => rfl | inr x => (cases x with | inl b => rfl | inr x => exact rfl))) h
noncomputable def spec_WholeOf_T (v23 : Int) (v24 : Int) (v25 : List Nat) (v26 : Nat) : Tree ((Unit) ⊕ ((Int × Int) ⊕ (Int × Int × (List Int)))) :=
  (.call (spec_l02Is_g v23 v24 v25) fun v44 =>
  (.br (!v44) (
   .leaf (.inl ())
  ) (
   (.br (!(spec_l01Finite_v v26)) (
    .leaf (.inl ())
   ) (
    (.need (some (spec_WholeOf_l0_E v23 v24 v25 v26 (.inl (0 : Int))) = some (spec_WholeOf_l0_E v23 v24 v25 v26 (.inl (0 : Int)))) <|
    (.call (spec_WholeOf_l0_g v25 v26 (.inl (0 : Int))) fun v68 =>
    (.sum v68 (fun v69 =>
     .leaf (.inl ())
    ) (fun v70 =>
     (.sum v70 (fun v71 =>
      (.call (spec_l06Give_g v23 v24 ([] : List Int)) fun v90 =>
      (.sum v90 (fun v91 =>
       .leaf (.inl ())
      ) (fun v92 =>
       .leaf (.inr (.inl (v92.1, v92.2)))
      )))
     ) (fun v72 =>
      (.call (spec_l06Give_g v23 v24 v72) fun v93 =>
      (.sum v93 (fun v94 =>
       .leaf (.inl ())
      ) (fun v95 =>
       .leaf (.inr (.inr (v95.1, v95.2, v72)))
      )))
     ))
    ))))
   ))
  )))

noncomputable def spec_WholeOf_g (v23 : Int) (v24 : Int) (v25 : List Nat) (v26 : Nat) : Option ((Unit) ⊕ ((Int × Int) ⊕ (Int × Int × (List Int)))) := (spec_WholeOf_T v23 v24 v25 v26).run
def spec_WholeOf_enc (v23 : Int) (v24 : Int) (v25 : List Nat) (v26 : Nat) (y : (Unit) ⊕ ((Int × Int) ⊕ (Int × Int × (List Int)))) : Rs := (match y with | .inl y => (.tup [.agg [.int .i64 (0 : Int), .int .i64 (0 : Int), .nilslc], .lit false], []) | .inr y => (match y with | .inl y => (.tup [.agg [.int .i64 y.1, .int .i64 y.2, .nilslc], .lit true], []) | .inr y => (.tup [.agg [.int .i64 y.1, .int .i64 y.2.1, .own 0 0 ((y.2.2).length)], .lit true], [.row (.i64 y.2.2) 0])))
theorem spec_WholeOf_den (v23 : Int) (v24 : Int) (v25 : List Nat) (v26 : Nat) : (den TT (tabD spec_WholeOf_tab) (tabM spec_WholeOf_tab) (spec_WholeOf_LO v23 v24 v25 v26) (codeOf Try.f36) ([.agg [.int .i64 v23, .int .i64 v24, .bslc (BR.root 0) (.f32 v25)], .flt .f32 v26] ++ List.replicate (Try.f36.ntmps - ([.agg [.int .i64 v23, .int .i64 v24, .bslc (BR.root 0) (.f32 v25)], .flt .f32 v26] : List DV).length) .undef) []).bind (retD TT Try.f36.results.toList 0) = (spec_WholeOf_T v23 v24 v25 v26).bind fun y => .leaf (spec_WholeOf_enc v23 v24 v25 v26 y) := by kernel_rfl
theorem spec_WholeOf_fn (v23 : Int) (v24 : Int) (v25 : List Nat) (v26 : Nat) (F : Fr) (hm : F.ids.length = 0) (h0 : St F [] F.H0) (hA : DVs.Ok F [] [.agg [.int .i64 v23, .int .i64 v24, .bslc (BR.root 0) (.f32 v25)], .flt .f32 v26]) {y : (Unit) ⊕ ((Int × Int) ⊕ (Int × Int × (List Int)))} (hy : spec_WholeOf_g v23 v24 v25 v26 = some y) : ∃ H', FnOk Try.prog 36 (DVs.av F [.agg [.int .i64 v23, .int .i64 v24, .bslc (BR.root 0) (.f32 v25)], .flt .f32 v26]) F.H0 ((spec_WholeOf_enc v23 v24 v25 v26 y).1.av F) H' ∧ St F (spec_WholeOf_enc v23 v24 v25 v26 y).2 H' ∧ (spec_WholeOf_enc v23 v24 v25 v26 y).1.Ok F (spec_WholeOf_enc v23 v24 v25 v26 y).2 :=
  fn_fin tok spec_WholeOf_hO mixed Try.func36 Try.call36 (by kernel_rfl) (LoopsOk_eq (l := [(0, bodyOf Try.f36 0)]) (by kernel_rfl) ⟨spec_WholeOf_l0_ok v23 v24 v25 v26, trivial⟩) (spec_WholeOf_den v23 v24 v25 v26) hy hm h0 hA
noncomputable def spec_WholeOf_F : DFn := fun args L =>
  match args with
  | [.agg [.int .i64 v23, .int .i64 v24, a1], .flt .f32 v26] =>
    optT (rowF32 L a1) fun v25 =>
    .call (spec_WholeOf_g v23 v24 v25 v26) fun y => .sum y (fun y0 => .leaf (.tup [.agg [.int .i64 (0 : Int), .int .i64 (0 : Int), .nilslc], .lit false], L)) (fun z0 => .sum z0 (fun y1 => .leaf (.tup [.agg [.int .i64 y1.1, .int .i64 y1.2, .nilslc], .lit true], L)) (fun z1 => .leaf (.tup [.agg [.int .i64 z1.1, .int .i64 z1.2.1, .own (L.length + 0) 0 ((z1.2.2).length)], .lit true], L ++ [.row (.i64 z1.2.2) 0])))
  | _ => .fail
theorem spec_WholeOf_Fok : COk Try.prog 36 spec_WholeOf_F true := by
  intro F L H args r L' hs ha hr
  unfold spec_WholeOf_F at hr
  split at hr
  · rename_i v23 v24 a1 v26
    obtain ⟨v25, hv25, hr⟩ := optT_run hr
    simp only [Tree.run] at hr
    obtain ⟨y, hy, hr⟩ := Option.bind_eq_some_iff.1 hr
    cases y with
    | inl y =>
      simp only [Tree.run, Option.some.injEq, Prod.mk.injEq] at hr
      obtain ⟨rfl, rfl⟩ := hr
      exact call_ok0 hs (fun k => (([a1.av F] : List AV)[k]?).getD .top) [.agg [.int .i64 v23, .int .i64 v24, a1], .flt .f32 v26] [.agg [.int .i64 v23, .int .i64 v24, .bslc (BR.root 0) (.f32 v25)], .flt .f32 v26] (fun F' h0 hi hρ => ⟨by simp [DVs.av, DV.av, BR.av, hρ], spec_WholeOf_fn v23 v24 v25 v26 F' (by rw [hi]; rfl) (st_nil hi) ⟨⟨trivial, trivial, bslc_ok hi (by rw [h0, hρ]; exact rowF32_ok hs (DVs.okAt (DVs.okAt ha 0 rfl) 2 rfl) hv25), trivial⟩, trivial, trivial⟩ hy⟩) rfl
    | inr y =>
      cases y with
      | inl y =>
        simp only [Tree.run, Option.some.injEq, Prod.mk.injEq] at hr
        obtain ⟨rfl, rfl⟩ := hr
        exact call_ok0 hs (fun k => (([a1.av F] : List AV)[k]?).getD .top) [.agg [.int .i64 v23, .int .i64 v24, a1], .flt .f32 v26] [.agg [.int .i64 v23, .int .i64 v24, .bslc (BR.root 0) (.f32 v25)], .flt .f32 v26] (fun F' h0 hi hρ => ⟨by simp [DVs.av, DV.av, BR.av, hρ], spec_WholeOf_fn v23 v24 v25 v26 F' (by rw [hi]; rfl) (st_nil hi) ⟨⟨trivial, trivial, bslc_ok hi (by rw [h0, hρ]; exact rowF32_ok hs (DVs.okAt (DVs.okAt ha 0 rfl) 2 rfl) hv25), trivial⟩, trivial, trivial⟩ hy⟩) rfl
      | inr y =>
        simp only [Tree.run, Option.some.injEq, Prod.mk.injEq] at hr
        obtain ⟨rfl, rfl⟩ := hr
        exact call_ok1 hs (fun k => (([a1.av F] : List AV)[k]?).getD .top) [.agg [.int .i64 v23, .int .i64 v24, a1], .flt .f32 v26] [.agg [.int .i64 v23, .int .i64 v24, .bslc (BR.root 0) (.f32 v25)], .flt .f32 v26] (fun F' h0 hi hρ => ⟨by simp [DVs.av, DV.av, BR.av, hρ], spec_WholeOf_fn v23 v24 v25 v26 F' (by rw [hi]; rfl) (st_nil hi) ⟨⟨trivial, trivial, bslc_ok hi (by rw [h0, hρ]; exact rowF32_ok hs (DVs.okAt (DVs.okAt ha 0 rfl) 2 rfl) hv25), trivial⟩, trivial, trivial⟩ hy⟩) rfl rfl
  · cases hr
/-! impl.inRange -/
noncomputable def impl_inRange_LO (v108 : Int) (v109 : Int) (v110 : Int) : LOr := fun id e L =>
  match id with
  | _ => .fail
noncomputable def impl_inRange_tab : List (FuncId × DFn × Bool) := []
theorem impl_inRange_hO : OrcOk Try.prog (tabD impl_inRange_tab) (tabM impl_inRange_tab) := tabD_nil _
noncomputable def impl_inRange_T (v108 : Int) (v109 : Int) (v110 : Int) : Tree (Bool) :=
  (.br (decide (v109 ≤ v108)) (
   .leaf (decide (v108 ≤ v110))
  ) (
   .leaf false
  ))

noncomputable def impl_inRange_g (v108 : Int) (v109 : Int) (v110 : Int) : Option (Bool) := (impl_inRange_T v108 v109 v110).run
def impl_inRange_enc (v108 : Int) (v109 : Int) (v110 : Int) (y : Bool) : Rs := (.bool y, [])
theorem impl_inRange_den (v108 : Int) (v109 : Int) (v110 : Int) : (den TT (tabD impl_inRange_tab) (tabM impl_inRange_tab) (impl_inRange_LO v108 v109 v110) (codeOf Try.f72) ([.int .i64 v108, .int .i64 v109, .int .i64 v110] ++ List.replicate (Try.f72.ntmps - ([.int .i64 v108, .int .i64 v109, .int .i64 v110] : List DV).length) .undef) []).bind (retD TT Try.f72.results.toList 0) = (impl_inRange_T v108 v109 v110).bind fun y => .leaf (impl_inRange_enc v108 v109 v110 y) := by kernel_rfl
theorem impl_inRange_fn (v108 : Int) (v109 : Int) (v110 : Int) (F : Fr) (hm : F.ids.length = 0) (h0 : St F [] F.H0) (hA : DVs.Ok F [] [.int .i64 v108, .int .i64 v109, .int .i64 v110]) {y : Bool} (hy : impl_inRange_g v108 v109 v110 = some y) : ∃ H', FnOk Try.prog 72 (DVs.av F [.int .i64 v108, .int .i64 v109, .int .i64 v110]) F.H0 ((impl_inRange_enc v108 v109 v110 y).1.av F) H' ∧ St F (impl_inRange_enc v108 v109 v110 y).2 H' ∧ (impl_inRange_enc v108 v109 v110 y).1.Ok F (impl_inRange_enc v108 v109 v110 y).2 :=
  fn_fin tok impl_inRange_hO mixed Try.func72 Try.call72 (by kernel_rfl) (LoopsOk_eq (l := []) (by kernel_rfl) trivial) (impl_inRange_den v108 v109 v110) hy hm h0 hA
def impl_inRange_v (v108 : Int) (v109 : Int) (v110 : Int) : Bool :=
  if (decide (v109 ≤ v108)) = true then (
   decide (v108 ≤ v110)
  ) else (
   false
  )
theorem impl_inRange_tot (v108 : Int) (v109 : Int) (v110 : Int) : impl_inRange_g v108 v109 v110 = some (impl_inRange_v v108 v109 v110) := by
  unfold impl_inRange_g impl_inRange_T impl_inRange_v
  simp only [Tree.run]
  repeat' (first | rfl | split)
noncomputable def impl_inRange_F : DFn := fun args L =>
  match args with
  | [.int .i64 v108, .int .i64 v109, .int .i64 v110] =>
    .leaf (.bool (impl_inRange_v v108 v109 v110), L)
  | _ => .fail
theorem impl_inRange_Fok : COk Try.prog 72 impl_inRange_F true := by
  intro F L H args r L' hs ha hr
  unfold impl_inRange_F at hr
  split at hr
  · rename_i v108 v109 v110
    have hy := impl_inRange_tot v108 v109 v110
    generalize impl_inRange_v v108 v109 v110 = y at hy hr
    simp only [Tree.run, Option.some.injEq, Prod.mk.injEq] at hr
    obtain ⟨rfl, rfl⟩ := hr
    exact call_ok0 hs (fun k => (([] : List AV)[k]?).getD .top) [.int .i64 v108, .int .i64 v109, .int .i64 v110] [.int .i64 v108, .int .i64 v109, .int .i64 v110] (fun F' h0 hi hρ => ⟨by simp [DVs.av, DV.av, BR.av, hρ], impl_inRange_fn v108 v109 v110 F' (by rw [hi]; rfl) (st_nil hi) ⟨trivial, trivial, trivial, trivial⟩ hy⟩) rfl
  · cases hr
/-! impl.isSide -/
noncomputable def impl_isSide_LO (v107 : Int) : LOr := fun id e L =>
  match id with
  | _ => .fail
noncomputable def impl_isSide_tab : List (FuncId × DFn × Bool) := [(72, impl_inRange_F, true)]
theorem impl_isSide_hO : OrcOk Try.prog (tabD impl_isSide_tab) (tabM impl_isSide_tab) := tabD_cons impl_inRange_Fok (tabD_nil _)
noncomputable def impl_isSide_T (v107 : Int) : Tree (Bool) :=
  .leaf (impl_inRange_v v107 (1 : Int) (12 : Int))

noncomputable def impl_isSide_g (v107 : Int) : Option (Bool) := (impl_isSide_T v107).run
def impl_isSide_enc (v107 : Int) (y : Bool) : Rs := (.bool y, [])
theorem impl_isSide_den (v107 : Int) : (den TT (tabD impl_isSide_tab) (tabM impl_isSide_tab) (impl_isSide_LO v107) (codeOf Try.f146) ([.int .i64 v107] ++ List.replicate (Try.f146.ntmps - ([.int .i64 v107] : List DV).length) .undef) []).bind (retD TT Try.f146.results.toList 0) = (impl_isSide_T v107).bind fun y => .leaf (impl_isSide_enc v107 y) := by kernel_rfl
theorem impl_isSide_fn (v107 : Int) (F : Fr) (hm : F.ids.length = 0) (h0 : St F [] F.H0) (hA : DVs.Ok F [] [.int .i64 v107]) {y : Bool} (hy : impl_isSide_g v107 = some y) : ∃ H', FnOk Try.prog 146 (DVs.av F [.int .i64 v107]) F.H0 ((impl_isSide_enc v107 y).1.av F) H' ∧ St F (impl_isSide_enc v107 y).2 H' ∧ (impl_isSide_enc v107 y).1.Ok F (impl_isSide_enc v107 y).2 :=
  fn_fin tok impl_isSide_hO mixed Try.func146 Try.call146 (by kernel_rfl) (LoopsOk_eq (l := []) (by kernel_rfl) trivial) (impl_isSide_den v107) hy hm h0 hA
def impl_isSide_v (v107 : Int) : Bool :=
  (impl_inRange_v v107 (1 : Int) (12 : Int))
theorem impl_isSide_tot (v107 : Int) : impl_isSide_g v107 = some (impl_isSide_v v107) := by
  unfold impl_isSide_g impl_isSide_T impl_isSide_v
  simp only [Tree.run]
  repeat' (first | rfl | split)
noncomputable def impl_isSide_F : DFn := fun args L =>
  match args with
  | [.int .i64 v107] =>
    .leaf (.bool (impl_isSide_v v107), L)
  | _ => .fail
theorem impl_isSide_Fok : COk Try.prog 146 impl_isSide_F true := by
  intro F L H args r L' hs ha hr
  unfold impl_isSide_F at hr
  split at hr
  · rename_i v107
    have hy := impl_isSide_tot v107
    generalize impl_isSide_v v107 = y at hy hr
    simp only [Tree.run, Option.some.injEq, Prod.mk.injEq] at hr
    obtain ⟨rfl, rfl⟩ := hr
    exact call_ok0 hs (fun k => (([] : List AV)[k]?).getD .top) [.int .i64 v107] [.int .i64 v107] (fun F' h0 hi hρ => ⟨by simp [DVs.av, DV.av, BR.av, hρ], impl_isSide_fn v107 F' (by rw [hi]; rfl) (st_nil hi) ⟨trivial, trivial⟩ hy⟩) rfl
  · cases hr
/-! impl.length[float32] -/
noncomputable def impl_lengthF_LO (v111 : List Nat) : LOr := fun id e L =>
  match id with
  | _ => .fail
noncomputable def impl_lengthF_tab : List (FuncId × DFn × Bool) := []
theorem impl_lengthF_hO : OrcOk Try.prog (tabD impl_lengthF_tab) (tabM impl_lengthF_tab) := tabD_nil _
noncomputable def impl_lengthF_T (v111 : List Nat) : Tree (Int) :=
  .leaf ((v111.length : Nat) : Int)

noncomputable def impl_lengthF_g (v111 : List Nat) : Option (Int) := (impl_lengthF_T v111).run
def impl_lengthF_enc (v111 : List Nat) (y : Int) : Rs := (.int .i64 y, [])
theorem impl_lengthF_den (v111 : List Nat) : (den TT (tabD impl_lengthF_tab) (tabM impl_lengthF_tab) (impl_lengthF_LO v111) (codeOf Try.f134) ([.bslc (BR.root 0) (.f32 v111)] ++ List.replicate (Try.f134.ntmps - ([.bslc (BR.root 0) (.f32 v111)] : List DV).length) .undef) []).bind (retD TT Try.f134.results.toList 0) = (impl_lengthF_T v111).bind fun y => .leaf (impl_lengthF_enc v111 y) := by kernel_rfl
theorem impl_lengthF_fn (v111 : List Nat) (F : Fr) (hm : F.ids.length = 0) (h0 : St F [] F.H0) (hA : DVs.Ok F [] [.bslc (BR.root 0) (.f32 v111)]) {y : Int} (hy : impl_lengthF_g v111 = some y) : ∃ H', FnOk Try.prog 134 (DVs.av F [.bslc (BR.root 0) (.f32 v111)]) F.H0 ((impl_lengthF_enc v111 y).1.av F) H' ∧ St F (impl_lengthF_enc v111 y).2 H' ∧ (impl_lengthF_enc v111 y).1.Ok F (impl_lengthF_enc v111 y).2 :=
  fn_fin tok impl_lengthF_hO mixed Try.func134 Try.call134 (by kernel_rfl) (LoopsOk_eq (l := []) (by kernel_rfl) trivial) (impl_lengthF_den v111) hy hm h0 hA
def impl_lengthF_v (v111 : List Nat) : Int :=
  ((v111.length : Nat) : Int)
theorem impl_lengthF_tot (v111 : List Nat) : impl_lengthF_g v111 = some (impl_lengthF_v v111) := by
  unfold impl_lengthF_g impl_lengthF_T impl_lengthF_v
  simp only [Tree.run]
  repeat' (first | rfl | split)
noncomputable def impl_lengthF_F : DFn := fun args L =>
  match args with
  | [a1] =>
    optT (rowF32 L a1) fun v111 =>
    .leaf (.int .i64 (impl_lengthF_v v111), L)
  | _ => .fail
theorem impl_lengthF_Fok : COk Try.prog 134 impl_lengthF_F true := by
  intro F L H args r L' hs ha hr
  unfold impl_lengthF_F at hr
  split at hr
  · rename_i a1
    obtain ⟨v111, hv111, hr⟩ := optT_run hr
    have hy := impl_lengthF_tot v111
    generalize impl_lengthF_v v111 = y at hy hr
    simp only [Tree.run, Option.some.injEq, Prod.mk.injEq] at hr
    obtain ⟨rfl, rfl⟩ := hr
    exact call_ok0 hs (fun k => (([a1.av F] : List AV)[k]?).getD .top) [a1] [.bslc (BR.root 0) (.f32 v111)] (fun F' h0 hi hρ => ⟨by simp [DVs.av, DV.av, BR.av, hρ], impl_lengthF_fn v111 F' (by rw [hi]; rfl) (st_nil hi) ⟨bslc_ok hi (by rw [h0, hρ]; exact rowF32_ok hs (DVs.okAt ha 0 rfl) hv111), trivial⟩ hy⟩) rfl
  · cases hr
/-! math.IsNaN -/
noncomputable def math_IsNaN_LO (v119 : Nat) : LOr := fun id e L =>
  match id with
  | _ => .fail
noncomputable def math_IsNaN_tab : List (FuncId × DFn × Bool) := []
theorem math_IsNaN_hO : OrcOk Try.prog (tabD math_IsNaN_tab) (tabM math_IsNaN_tab) := tabD_nil _
noncomputable def math_IsNaN_T (v119 : Nat) : Tree (Bool) :=
  .leaf (!feq .f64 v119 v119)

noncomputable def math_IsNaN_g (v119 : Nat) : Option (Bool) := (math_IsNaN_T v119).run
def math_IsNaN_enc (v119 : Nat) (y : Bool) : Rs := (.bool y, [])
theorem math_IsNaN_den (v119 : Nat) : (den TT (tabD math_IsNaN_tab) (tabM math_IsNaN_tab) (math_IsNaN_LO v119) (codeOf Try.f169) ([.flt .f64 v119] ++ List.replicate (Try.f169.ntmps - ([.flt .f64 v119] : List DV).length) .undef) []).bind (retD TT Try.f169.results.toList 0) = (math_IsNaN_T v119).bind fun y => .leaf (math_IsNaN_enc v119 y) := by kernel_rfl
theorem math_IsNaN_fn (v119 : Nat) (F : Fr) (hm : F.ids.length = 0) (h0 : St F [] F.H0) (hA : DVs.Ok F [] [.flt .f64 v119]) {y : Bool} (hy : math_IsNaN_g v119 = some y) : ∃ H', FnOk Try.prog 169 (DVs.av F [.flt .f64 v119]) F.H0 ((math_IsNaN_enc v119 y).1.av F) H' ∧ St F (math_IsNaN_enc v119 y).2 H' ∧ (math_IsNaN_enc v119 y).1.Ok F (math_IsNaN_enc v119 y).2 :=
  fn_fin tok math_IsNaN_hO mixed Try.func169 Try.call169 (by kernel_rfl) (LoopsOk_eq (l := []) (by kernel_rfl) trivial) (math_IsNaN_den v119) hy hm h0 hA
def math_IsNaN_v (v119 : Nat) : Bool :=
  !feq .f64 v119 v119
theorem math_IsNaN_tot (v119 : Nat) : math_IsNaN_g v119 = some (math_IsNaN_v v119) := by
  unfold math_IsNaN_g math_IsNaN_T math_IsNaN_v
  simp only [Tree.run]
  repeat' (first | rfl | split)
noncomputable def math_IsNaN_F : DFn := fun args L =>
  match args with
  | [.flt .f64 v119] =>
    .leaf (.bool (math_IsNaN_v v119), L)
  | _ => .fail
theorem math_IsNaN_Fok : COk Try.prog 169 math_IsNaN_F true := by
  intro F L H args r L' hs ha hr
  unfold math_IsNaN_F at hr
  split at hr
  · rename_i v119
    have hy := math_IsNaN_tot v119
    generalize math_IsNaN_v v119 = y at hy hr
    simp only [Tree.run, Option.some.injEq, Prod.mk.injEq] at hr
    obtain ⟨rfl, rfl⟩ := hr
    exact call_ok0 hs (fun k => (([] : List AV)[k]?).getD .top) [.flt .f64 v119] [.flt .f64 v119] (fun F' h0 hi hρ => ⟨by simp [DVs.av, DV.av, BR.av, hρ], math_IsNaN_fn v119 F' (by rw [hi]; rfl) (st_nil hi) ⟨trivial, trivial⟩ hy⟩) rfl
  · cases hr
/-! math.IsInf -/
noncomputable def math_IsInf_LO (v120 : Nat) (v121 : Int) : LOr := fun id e L =>
  match id with
  | _ => .fail
noncomputable def math_IsInf_tab : List (FuncId × DFn × Bool) := [(104, Abs_F, true)]
theorem math_IsInf_hO : OrcOk Try.prog (tabD math_IsInf_tab) (tabM math_IsInf_tab) := tabD_cons Abs_Fok (tabD_nil _)
noncomputable def math_IsInf_T (v120 : Nat) (v121 : Int) : Tree (Bool) :=
  (.br (decide (v121 = (0 : Int))) (
   .leaf (fgrt .f64 (fabs v120) (9218868437227405311 : Nat))
  ) (
   (.br (decide (v121 < (0 : Int))) (
    .leaf (fgrt .f64 (fneg .f64 v120) (9218868437227405311 : Nat))
   ) (
    .leaf (fgrt .f64 v120 (9218868437227405311 : Nat))
   ))
  ))

noncomputable def math_IsInf_g (v120 : Nat) (v121 : Int) : Option (Bool) := (math_IsInf_T v120 v121).run
def math_IsInf_enc (v120 : Nat) (v121 : Int) (y : Bool) : Rs := (.bool y, [])
theorem math_IsInf_den (v120 : Nat) (v121 : Int) : (den TT (tabD math_IsInf_tab) (tabM math_IsInf_tab) (math_IsInf_LO v120 v121) (codeOf Try.f170) ([.flt .f64 v120, .int .i64 v121] ++ List.replicate (Try.f170.ntmps - ([.flt .f64 v120, .int .i64 v121] : List DV).length) .undef) []).bind (retD TT Try.f170.results.toList 0) = (math_IsInf_T v120 v121).bind fun y => .leaf (math_IsInf_enc v120 v121 y) := by kernel_rfl
theorem math_IsInf_fn (v120 : Nat) (v121 : Int) (F : Fr) (hm : F.ids.length = 0) (h0 : St F [] F.H0) (hA : DVs.Ok F [] [.flt .f64 v120, .int .i64 v121]) {y : Bool} (hy : math_IsInf_g v120 v121 = some y) : ∃ H', FnOk Try.prog 170 (DVs.av F [.flt .f64 v120, .int .i64 v121]) F.H0 ((math_IsInf_enc v120 v121 y).1.av F) H' ∧ St F (math_IsInf_enc v120 v121 y).2 H' ∧ (math_IsInf_enc v120 v121 y).1.Ok F (math_IsInf_enc v120 v121 y).2 :=
  fn_fin tok math_IsInf_hO mixed Try.func170 Try.call170 (by kernel_rfl) (LoopsOk_eq (l := []) (by kernel_rfl) trivial) (math_IsInf_den v120 v121) hy hm h0 hA
def math_IsInf_v (v120 : Nat) (v121 : Int) : Bool :=
  if (decide (v121 = (0 : Int))) = true then (
   fgrt .f64 (fabs v120) (9218868437227405311 : Nat)
  ) else (
   if (decide (v121 < (0 : Int))) = true then (
    fgrt .f64 (fneg .f64 v120) (9218868437227405311 : Nat)
   ) else (
    fgrt .f64 v120 (9218868437227405311 : Nat)
   )
  )
theorem math_IsInf_tot (v120 : Nat) (v121 : Int) : math_IsInf_g v120 v121 = some (math_IsInf_v v120 v121) := by
  unfold math_IsInf_g math_IsInf_T math_IsInf_v
  simp only [Tree.run]
  repeat' (first | rfl | split)
noncomputable def math_IsInf_F : DFn := fun args L =>
  match args with
  | [.flt .f64 v120, .int .i64 v121] =>
    .leaf (.bool (math_IsInf_v v120 v121), L)
  | _ => .fail
theorem math_IsInf_Fok : COk Try.prog 170 math_IsInf_F true := by
  intro F L H args r L' hs ha hr
  unfold math_IsInf_F at hr
  split at hr
  · rename_i v120 v121
    have hy := math_IsInf_tot v120 v121
    generalize math_IsInf_v v120 v121 = y at hy hr
    simp only [Tree.run, Option.some.injEq, Prod.mk.injEq] at hr
    obtain ⟨rfl, rfl⟩ := hr
    exact call_ok0 hs (fun k => (([] : List AV)[k]?).getD .top) [.flt .f64 v120, .int .i64 v121] [.flt .f64 v120, .int .i64 v121] (fun F' h0 hi hρ => ⟨by simp [DVs.av, DV.av, BR.av, hρ], math_IsInf_fn v120 v121 F' (by rw [hi]; rfl) (st_nil hi) ⟨trivial, trivial, trivial⟩ hy⟩) rfl
  · cases hr
/-! impl.isFinite64 -/
noncomputable def impl_isFinite64_LO (v118 : Nat) : LOr := fun id e L =>
  match id with
  | _ => .fail
noncomputable def impl_isFinite64_tab : List (FuncId × DFn × Bool) := [(169, math_IsNaN_F, true), (170, math_IsInf_F, true)]
theorem impl_isFinite64_hO : OrcOk Try.prog (tabD impl_isFinite64_tab) (tabM impl_isFinite64_tab) := tabD_cons math_IsNaN_Fok (tabD_cons math_IsInf_Fok (tabD_nil _))
noncomputable def impl_isFinite64_T (v118 : Nat) : Tree (Bool) :=
  (.br (!(math_IsNaN_v v118)) (
   .leaf (!(math_IsInf_v v118 (0 : Int)))
  ) (
   .leaf false
  ))

noncomputable def impl_isFinite64_g (v118 : Nat) : Option (Bool) := (impl_isFinite64_T v118).run
def impl_isFinite64_enc (v118 : Nat) (y : Bool) : Rs := (.bool y, [])
theorem impl_isFinite64_den (v118 : Nat) : (den TT (tabD impl_isFinite64_tab) (tabM impl_isFinite64_tab) (impl_isFinite64_LO v118) (codeOf Try.f151) ([.flt .f64 v118] ++ List.replicate (Try.f151.ntmps - ([.flt .f64 v118] : List DV).length) .undef) []).bind (retD TT Try.f151.results.toList 0) = (impl_isFinite64_T v118).bind fun y => .leaf (impl_isFinite64_enc v118 y) := by kernel_rfl
theorem impl_isFinite64_fn (v118 : Nat) (F : Fr) (hm : F.ids.length = 0) (h0 : St F [] F.H0) (hA : DVs.Ok F [] [.flt .f64 v118]) {y : Bool} (hy : impl_isFinite64_g v118 = some y) : ∃ H', FnOk Try.prog 151 (DVs.av F [.flt .f64 v118]) F.H0 ((impl_isFinite64_enc v118 y).1.av F) H' ∧ St F (impl_isFinite64_enc v118 y).2 H' ∧ (impl_isFinite64_enc v118 y).1.Ok F (impl_isFinite64_enc v118 y).2 :=
  fn_fin tok impl_isFinite64_hO mixed Try.func151 Try.call151 (by kernel_rfl) (LoopsOk_eq (l := []) (by kernel_rfl) trivial) (impl_isFinite64_den v118) hy hm h0 hA
def impl_isFinite64_v (v118 : Nat) : Bool :=
  if (!(math_IsNaN_v v118)) = true then (
   !(math_IsInf_v v118 (0 : Int))
  ) else (
   false
  )
theorem impl_isFinite64_tot (v118 : Nat) : impl_isFinite64_g v118 = some (impl_isFinite64_v v118) := by
  unfold impl_isFinite64_g impl_isFinite64_T impl_isFinite64_v
  simp only [Tree.run]
  repeat' (first | rfl | split)
noncomputable def impl_isFinite64_F : DFn := fun args L =>
  match args with
  | [.flt .f64 v118] =>
    .leaf (.bool (impl_isFinite64_v v118), L)
  | _ => .fail
theorem impl_isFinite64_Fok : COk Try.prog 151 impl_isFinite64_F true := by
  intro F L H args r L' hs ha hr
  unfold impl_isFinite64_F at hr
  split at hr
  · rename_i v118
    have hy := impl_isFinite64_tot v118
    generalize impl_isFinite64_v v118 = y at hy hr
    simp only [Tree.run, Option.some.injEq, Prod.mk.injEq] at hr
    obtain ⟨rfl, rfl⟩ := hr
    exact call_ok0 hs (fun k => (([] : List AV)[k]?).getD .top) [.flt .f64 v118] [.flt .f64 v118] (fun F' h0 hi hρ => ⟨by simp [DVs.av, DV.av, BR.av, hρ], impl_isFinite64_fn v118 F' (by rw [hi]; rfl) (st_nil hi) ⟨trivial, trivial⟩ hy⟩) rfl
  · cases hr
/-! impl.IsFinite -/
noncomputable def impl_IsFinite_LO (v117 : Nat) : LOr := fun id e L =>
  match id with
  | _ => .fail
noncomputable def impl_IsFinite_tab : List (FuncId × DFn × Bool) := [(151, impl_isFinite64_F, true)]
theorem impl_IsFinite_hO : OrcOk Try.prog (tabD impl_IsFinite_tab) (tabM impl_IsFinite_tab) := tabD_cons impl_isFinite64_Fok (tabD_nil _)
noncomputable def impl_IsFinite_T (v117 : Nat) : Tree (Bool) :=
  .leaf (impl_isFinite64_v (wid v117))

noncomputable def impl_IsFinite_g (v117 : Nat) : Option (Bool) := (impl_IsFinite_T v117).run
def impl_IsFinite_enc (v117 : Nat) (y : Bool) : Rs := (.bool y, [])
theorem impl_IsFinite_den (v117 : Nat) : (den TT (tabD impl_IsFinite_tab) (tabM impl_IsFinite_tab) (impl_IsFinite_LO v117) (codeOf Try.f103) ([.flt .f32 v117] ++ List.replicate (Try.f103.ntmps - ([.flt .f32 v117] : List DV).length) .undef) []).bind (retD TT Try.f103.results.toList 0) = (impl_IsFinite_T v117).bind fun y => .leaf (impl_IsFinite_enc v117 y) := by kernel_rfl
theorem impl_IsFinite_fn (v117 : Nat) (F : Fr) (hm : F.ids.length = 0) (h0 : St F [] F.H0) (hA : DVs.Ok F [] [.flt .f32 v117]) {y : Bool} (hy : impl_IsFinite_g v117 = some y) : ∃ H', FnOk Try.prog 103 (DVs.av F [.flt .f32 v117]) F.H0 ((impl_IsFinite_enc v117 y).1.av F) H' ∧ St F (impl_IsFinite_enc v117 y).2 H' ∧ (impl_IsFinite_enc v117 y).1.Ok F (impl_IsFinite_enc v117 y).2 :=
  fn_fin tok impl_IsFinite_hO mixed Try.func103 Try.call103 (by kernel_rfl) (LoopsOk_eq (l := []) (by kernel_rfl) trivial) (impl_IsFinite_den v117) hy hm h0 hA
def impl_IsFinite_v (v117 : Nat) : Bool :=
  (impl_isFinite64_v (wid v117))
theorem impl_IsFinite_tot (v117 : Nat) : impl_IsFinite_g v117 = some (impl_IsFinite_v v117) := by
  unfold impl_IsFinite_g impl_IsFinite_T impl_IsFinite_v
  simp only [Tree.run]
  repeat' (first | rfl | split)
noncomputable def impl_IsFinite_F : DFn := fun args L =>
  match args with
  | [.flt .f32 v117] =>
    .leaf (.bool (impl_IsFinite_v v117), L)
  | _ => .fail
theorem impl_IsFinite_Fok : COk Try.prog 103 impl_IsFinite_F true := by
  intro F L H args r L' hs ha hr
  unfold impl_IsFinite_F at hr
  split at hr
  · rename_i v117
    have hy := impl_IsFinite_tot v117
    generalize impl_IsFinite_v v117 = y at hy hr
    simp only [Tree.run, Option.some.injEq, Prod.mk.injEq] at hr
    obtain ⟨rfl, rfl⟩ := hr
    exact call_ok0 hs (fun k => (([] : List AV)[k]?).getD .top) [.flt .f32 v117] [.flt .f32 v117] (fun F' h0 hi hρ => ⟨by simp [DVs.av, DV.av, BR.av, hρ], impl_IsFinite_fn v117 F' (by rw [hi]; rfl) (st_nil hi) ⟨trivial, trivial⟩ hy⟩) rfl
  · cases hr
/-! impl.areFinite$1 -/
noncomputable def impl_areFinite_1_LO (v116 : Nat) : LOr := fun id e L =>
  match id with
  | _ => .fail
noncomputable def impl_areFinite_1_tab : List (FuncId × DFn × Bool) := [(103, impl_IsFinite_F, true)]
theorem impl_areFinite_1_hO : OrcOk Try.prog (tabD impl_areFinite_1_tab) (tabM impl_areFinite_1_tab) := tabD_cons impl_IsFinite_Fok (tabD_nil _)
noncomputable def impl_areFinite_1_T (v116 : Nat) : Tree (Bool) :=
  .leaf (!(impl_IsFinite_v v116))

noncomputable def impl_areFinite_1_g (v116 : Nat) : Option (Bool) := (impl_areFinite_1_T v116).run
def impl_areFinite_1_enc (v116 : Nat) (y : Bool) : Rs := (.bool y, [])
theorem impl_areFinite_1_den (v116 : Nat) : (den TT (tabD impl_areFinite_1_tab) (tabM impl_areFinite_1_tab) (impl_areFinite_1_LO v116) (codeOf Try.f165) ([.flt .f32 v116] ++ List.replicate (Try.f165.ntmps - ([.flt .f32 v116] : List DV).length) .undef) []).bind (retD TT Try.f165.results.toList 0) = (impl_areFinite_1_T v116).bind fun y => .leaf (impl_areFinite_1_enc v116 y) := by kernel_rfl
theorem impl_areFinite_1_fn (v116 : Nat) (F : Fr) (hm : F.ids.length = 0) (h0 : St F [] F.H0) (hA : DVs.Ok F [] [.flt .f32 v116]) {y : Bool} (hy : impl_areFinite_1_g v116 = some y) : ∃ H', FnOk Try.prog 165 (DVs.av F [.flt .f32 v116]) F.H0 ((impl_areFinite_1_enc v116 y).1.av F) H' ∧ St F (impl_areFinite_1_enc v116 y).2 H' ∧ (impl_areFinite_1_enc v116 y).1.Ok F (impl_areFinite_1_enc v116 y).2 :=
  fn_fin tok impl_areFinite_1_hO mixed Try.func165 Try.call165 (by kernel_rfl) (LoopsOk_eq (l := []) (by kernel_rfl) trivial) (impl_areFinite_1_den v116) hy hm h0 hA
def impl_areFinite_1_v (v116 : Nat) : Bool :=
  !(impl_IsFinite_v v116)
theorem impl_areFinite_1_tot (v116 : Nat) : impl_areFinite_1_g v116 = some (impl_areFinite_1_v v116) := by
  unfold impl_areFinite_1_g impl_areFinite_1_T impl_areFinite_1_v
  simp only [Tree.run]
  repeat' (first | rfl | split)
noncomputable def impl_areFinite_1_F : DFn := fun args L =>
  match args with
  | [.flt .f32 v116] =>
    .leaf (.bool (impl_areFinite_1_v v116), L)
  | _ => .fail
theorem impl_areFinite_1_Fok : COk Try.prog 165 impl_areFinite_1_F true := by
  intro F L H args r L' hs ha hr
  unfold impl_areFinite_1_F at hr
  split at hr
  · rename_i v116
    have hy := impl_areFinite_1_tot v116
    generalize impl_areFinite_1_v v116 = y at hy hr
    simp only [Tree.run, Option.some.injEq, Prod.mk.injEq] at hr
    obtain ⟨rfl, rfl⟩ := hr
    exact call_ok0 hs (fun k => (([] : List AV)[k]?).getD .top) [.flt .f32 v116] [.flt .f32 v116] (fun F' h0 hi hρ => ⟨by simp [DVs.av, DV.av, BR.av, hρ], impl_areFinite_1_fn v116 F' (by rw [hi]; rfl) (st_nil hi) ⟨trivial, trivial⟩ hy⟩) rfl
  · cases hr
/-! slices.IndexFunc[list of float32,float32] -/
noncomputable def slices_IndexFuncF_l0_T (v114 : List Nat) (s : Int) : Tree ((Int) ⊕ ((Int) ⊕ (Unit))) :=
  (.br (decide (s < ((v114.length : Nat) : Int))) (
   (.grd (inb s v114.length) <|
   (.br (impl_areFinite_1_v (nth v114 (Int.toNat s))) (
    .leaf (.inr (.inl s))
   ) (
    .leaf (.inl (IntKind.i64.wrap (s + (1 : Int))))
   )))
  ) (
   .leaf (.inr (.inr ()))
  ))

noncomputable def slices_IndexFuncF_l0_g (v114 : List Nat) (s0 : Int) : Option ((Int) ⊕ (Unit)) := whileM (fun s => (slices_IndexFuncF_l0_T v114 s).run) s0
def slices_IndexFuncF_l0_E (v114 : List Nat) (s : Int) : Sd := ([.bslc (BR.root 0) (.f32 v114), .fn 165 [], .top, .top, .top, .top, .top, .int .i64 ((v114.length : Nat) : Int), .int .i64 s, .top, .top, .top, .top, .top, .top, .top, .top, .top, .top], [])
def slices_IndexFuncF_l0_X (v114 : List Nat) (x : (Int) ⊕ (Unit)) : Out := (match x with | .inl x => (.ret, [.top, .top, .top, .top, .int .i64 x, .top, .top, .top, .top, .top, .top, .top, .top, .top, .top, .top, .top, .top, .top], []) | .inr x => (.normal, [.top, .top, .top, .top, .top, .top, .top, .top, .top, .top, .top, .top, .top, .top, .top, .top, .top, .top, .top], []))
def slices_IndexFuncF_l0_kill : List Nat := [0, 0, 1, 1, 1, 1, 1, 0, 0, 1, 1, 1, 1, 1, 1, 1, 1, 1, 1]
def slices_IndexFuncF_l0_nx : Exit → List Nat
  | .exit 0 => [1, 1, 1, 1, 1, 1, 1, 1, 1, 1, 1, 1, 1, 1, 1, 1, 1, 1, 1]
  | .ret => [1, 1, 1, 1, 0, 1, 1, 1, 1, 1, 1, 1, 1, 1, 1, 1, 1, 1, 1]
  | _ => []
noncomputable def slices_IndexFuncF_LO (v114 : List Nat) : LOr := fun id e L =>
  match id with
  | 0 => .need (normA 0 slices_IndexFuncF_l0_kill e L = some (slices_IndexFuncF_l0_E v114 (gI (vAt e 8)))) (.call (slices_IndexFuncF_l0_g v114 (gI (vAt e 8))) fun x => .sum x (fun b0 => .leaf (slices_IndexFuncF_l0_X v114 (.inl b0))) (fun c0 => .leaf (slices_IndexFuncF_l0_X v114 (.inr c0))))
  | _ => .fail
noncomputable def slices_IndexFuncF_tab : List (FuncId × DFn × Bool) := [(165, impl_areFinite_1_F, true)]
theorem slices_IndexFuncF_hO : OrcOk Try.prog (tabD slices_IndexFuncF_tab) (tabM slices_IndexFuncF_tab) := tabD_cons impl_areFinite_1_Fok (tabD_nil _)
theorem slices_IndexFuncF_l0_be (v114 : List Nat) (s : Int) : bodyT TT (tabD slices_IndexFuncF_tab) (tabM slices_IndexFuncF_tab) (slices_IndexFuncF_LO v114) 0 slices_IndexFuncF_l0_kill slices_IndexFuncF_l0_nx (bodyOf Try.f178 0) 0 (slices_IndexFuncF_l0_E v114 s) = (slices_IndexFuncF_l0_T v114 s).bind fun y => .leaf (outS (slices_IndexFuncF_l0_E v114) (slices_IndexFuncF_l0_X v114) y) := by kernel_rfl
theorem slices_IndexFuncF_l0_ok (v114 : List Nat) : LSound Try.prog 0 (slices_IndexFuncF_LO v114) 0 (bodyOf Try.f178 0) := by
  intro e L out h
  exact lo_ok (E := slices_IndexFuncF_l0_E v114) (gT := slices_IndexFuncF_l0_T v114) (X := slices_IndexFuncF_l0_X v114) (s0 := (gI (vAt e 8))) tok slices_IndexFuncF_hO mixed (LoopsOk_eq (l := []) (by kernel_rfl) trivial) (slices_IndexFuncF_l0_be v114) rfl (by intro x; (cases x with | inl b => rfl | inr x => exact rfl)) h
noncomputable def slices_IndexFuncF_T (v114 : List Nat) : Tree (Int) :=
  (.need (some (slices_IndexFuncF_l0_E v114 (0 : Int)) = some (slices_IndexFuncF_l0_E v114 (0 : Int))) <|
  (.call (slices_IndexFuncF_l0_g v114 (0 : Int)) fun v124 =>
  (.sum v124 (fun v125 =>
   .leaf v125
  ) (fun v126 =>
   .leaf (-1 : Int)
  ))))

noncomputable def slices_IndexFuncF_g (v114 : List Nat) : Option (Int) := (slices_IndexFuncF_T v114).run
def slices_IndexFuncF_enc (v114 : List Nat) (y : Int) : Rs := (.int .i64 y, [])
theorem slices_IndexFuncF_den (v114 : List Nat) : (den TT (tabD slices_IndexFuncF_tab) (tabM slices_IndexFuncF_tab) (slices_IndexFuncF_LO v114) (codeOf Try.f178) ([.bslc (BR.root 0) (.f32 v114), .fn 165 []] ++ List.replicate (Try.f178.ntmps - ([.bslc (BR.root 0) (.f32 v114), .fn 165 []] : List DV).length) .undef) []).bind (retD TT Try.f178.results.toList 0) = (slices_IndexFuncF_T v114).bind fun y => .leaf (slices_IndexFuncF_enc v114 y) := by kernel_rfl
theorem slices_IndexFuncF_fn (v114 : List Nat) (F : Fr) (hm : F.ids.length = 0) (h0 : St F [] F.H0) (hA : DVs.Ok F [] [.bslc (BR.root 0) (.f32 v114), .fn 165 []]) {y : Int} (hy : slices_IndexFuncF_g v114 = some y) : ∃ H', FnOk Try.prog 178 (DVs.av F [.bslc (BR.root 0) (.f32 v114), .fn 165 []]) F.H0 ((slices_IndexFuncF_enc v114 y).1.av F) H' ∧ St F (slices_IndexFuncF_enc v114 y).2 H' ∧ (slices_IndexFuncF_enc v114 y).1.Ok F (slices_IndexFuncF_enc v114 y).2 :=
  fn_fin tok slices_IndexFuncF_hO mixed Try.func178 Try.call178 (by kernel_rfl) (LoopsOk_eq (l := [(0, bodyOf Try.f178 0)]) (by kernel_rfl) ⟨slices_IndexFuncF_l0_ok v114, trivial⟩) (slices_IndexFuncF_den v114) hy hm h0 hA
noncomputable def slices_IndexFuncF_F : DFn := fun args L =>
  match args with
  | [a1, .fn 165 []] =>
    optT (rowF32 L a1) fun v114 =>
    .call (slices_IndexFuncF_g v114) fun y => .leaf (.int .i64 y, L)
  | _ => .fail
theorem slices_IndexFuncF_Fok : COk Try.prog 178 slices_IndexFuncF_F true := by
  intro F L H args r L' hs ha hr
  unfold slices_IndexFuncF_F at hr
  split at hr
  · rename_i a1
    obtain ⟨v114, hv114, hr⟩ := optT_run hr
    simp only [Tree.run] at hr
    obtain ⟨y, hy, hr⟩ := Option.bind_eq_some_iff.1 hr
    simp only [Tree.run, Option.some.injEq, Prod.mk.injEq] at hr
    obtain ⟨rfl, rfl⟩ := hr
    exact call_ok0 hs (fun k => (([a1.av F] : List AV)[k]?).getD .top) [a1, .fn 165 []] [.bslc (BR.root 0) (.f32 v114), .fn 165 []] (fun F' h0 hi hρ => ⟨by simp [DVs.av, DV.av, BR.av, hρ], slices_IndexFuncF_fn v114 F' (by rw [hi]; rfl) (st_nil hi) ⟨bslc_ok hi (by rw [h0, hρ]; exact rowF32_ok hs (DVs.okAt ha 0 rfl) hv114), trivial, trivial⟩ hy⟩) rfl
  · cases hr
/-! slices.ContainsFunc[list of float32,float32] -/
noncomputable def slices_ContainsFuncF_LO (v113 : List Nat) : LOr := fun id e L =>
  match id with
  | _ => .fail
noncomputable def slices_ContainsFuncF_tab : List (FuncId × DFn × Bool) := [(178, slices_IndexFuncF_F, true)]
theorem slices_ContainsFuncF_hO : OrcOk Try.prog (tabD slices_ContainsFuncF_tab) (tabM slices_ContainsFuncF_tab) := tabD_cons slices_IndexFuncF_Fok (tabD_nil _)
noncomputable def slices_ContainsFuncF_T (v113 : List Nat) : Tree (Bool) :=
  (.call (slices_IndexFuncF_g v113) fun v127 =>
  .leaf (decide ((0 : Int) ≤ v127)))

noncomputable def slices_ContainsFuncF_g (v113 : List Nat) : Option (Bool) := (slices_ContainsFuncF_T v113).run
def slices_ContainsFuncF_enc (v113 : List Nat) (y : Bool) : Rs := (.bool y, [])
theorem slices_ContainsFuncF_den (v113 : List Nat) : (den TT (tabD slices_ContainsFuncF_tab) (tabM slices_ContainsFuncF_tab) (slices_ContainsFuncF_LO v113) (codeOf Try.f164) ([.bslc (BR.root 0) (.f32 v113), .fn 165 []] ++ List.replicate (Try.f164.ntmps - ([.bslc (BR.root 0) (.f32 v113), .fn 165 []] : List DV).length) .undef) []).bind (retD TT Try.f164.results.toList 0) = (slices_ContainsFuncF_T v113).bind fun y => .leaf (slices_ContainsFuncF_enc v113 y) := by kernel_rfl
theorem slices_ContainsFuncF_fn (v113 : List Nat) (F : Fr) (hm : F.ids.length = 0) (h0 : St F [] F.H0) (hA : DVs.Ok F [] [.bslc (BR.root 0) (.f32 v113), .fn 165 []]) {y : Bool} (hy : slices_ContainsFuncF_g v113 = some y) : ∃ H', FnOk Try.prog 164 (DVs.av F [.bslc (BR.root 0) (.f32 v113), .fn 165 []]) F.H0 ((slices_ContainsFuncF_enc v113 y).1.av F) H' ∧ St F (slices_ContainsFuncF_enc v113 y).2 H' ∧ (slices_ContainsFuncF_enc v113 y).1.Ok F (slices_ContainsFuncF_enc v113 y).2 :=
  fn_fin tok slices_ContainsFuncF_hO mixed Try.func164 Try.call164 (by kernel_rfl) (LoopsOk_eq (l := []) (by kernel_rfl) trivial) (slices_ContainsFuncF_den v113) hy hm h0 hA
noncomputable def slices_ContainsFuncF_F : DFn := fun args L =>
  match args with
  | [a1, .fn 165 []] =>
    optT (rowF32 L a1) fun v113 =>
    .call (slices_ContainsFuncF_g v113) fun y => .leaf (.bool y, L)
  | _ => .fail
theorem slices_ContainsFuncF_Fok : COk Try.prog 164 slices_ContainsFuncF_F true := by
  intro F L H args r L' hs ha hr
  unfold slices_ContainsFuncF_F at hr
  split at hr
  · rename_i a1
    obtain ⟨v113, hv113, hr⟩ := optT_run hr
    simp only [Tree.run] at hr
    obtain ⟨y, hy, hr⟩ := Option.bind_eq_some_iff.1 hr
    simp only [Tree.run, Option.some.injEq, Prod.mk.injEq] at hr
    obtain ⟨rfl, rfl⟩ := hr
    exact call_ok0 hs (fun k => (([a1.av F] : List AV)[k]?).getD .top) [a1, .fn 165 []] [.bslc (BR.root 0) (.f32 v113), .fn 165 []] (fun F' h0 hi hρ => ⟨by simp [DVs.av, DV.av, BR.av, hρ], slices_ContainsFuncF_fn v113 F' (by rw [hi]; rfl) (st_nil hi) ⟨bslc_ok hi (by rw [h0, hρ]; exact rowF32_ok hs (DVs.okAt ha 0 rfl) hv113), trivial, trivial⟩ hy⟩) rfl
  · cases hr
/-! impl.areFinite -/
noncomputable def impl_areFinite_LO (v112 : List Nat) : LOr := fun id e L =>
  match id with
  | _ => .fail
noncomputable def impl_areFinite_tab : List (FuncId × DFn × Bool) := [(164, slices_ContainsFuncF_F, true)]
theorem impl_areFinite_hO : OrcOk Try.prog (tabD impl_areFinite_tab) (tabM impl_areFinite_tab) := tabD_cons slices_ContainsFuncF_Fok (tabD_nil _)
noncomputable def impl_areFinite_T (v112 : List Nat) : Tree (Bool) :=
  (.call (slices_ContainsFuncF_g v112) fun v128 =>
  .leaf (!v128))

noncomputable def impl_areFinite_g (v112 : List Nat) : Option (Bool) := (impl_areFinite_T v112).run
def impl_areFinite_enc (v112 : List Nat) (y : Bool) : Rs := (.bool y, [])
theorem impl_areFinite_den (v112 : List Nat) : (den TT (tabD impl_areFinite_tab) (tabM impl_areFinite_tab) (impl_areFinite_LO v112) (codeOf Try.f135) ([.bslc (BR.root 0) (.f32 v112)] ++ List.replicate (Try.f135.ntmps - ([.bslc (BR.root 0) (.f32 v112)] : List DV).length) .undef) []).bind (retD TT Try.f135.results.toList 0) = (impl_areFinite_T v112).bind fun y => .leaf (impl_areFinite_enc v112 y) := by kernel_rfl
theorem impl_areFinite_fn (v112 : List Nat) (F : Fr) (hm : F.ids.length = 0) (h0 : St F [] F.H0) (hA : DVs.Ok F [] [.bslc (BR.root 0) (.f32 v112)]) {y : Bool} (hy : impl_areFinite_g v112 = some y) : ∃ H', FnOk Try.prog 135 (DVs.av F [.bslc (BR.root 0) (.f32 v112)]) F.H0 ((impl_areFinite_enc v112 y).1.av F) H' ∧ St F (impl_areFinite_enc v112 y).2 H' ∧ (impl_areFinite_enc v112 y).1.Ok F (impl_areFinite_enc v112 y).2 :=
  fn_fin tok impl_areFinite_hO mixed Try.func135 Try.call135 (by kernel_rfl) (LoopsOk_eq (l := []) (by kernel_rfl) trivial) (impl_areFinite_den v112) hy hm h0 hA
noncomputable def impl_areFinite_F : DFn := fun args L =>
  match args with
  | [a1] =>
    optT (rowF32 L a1) fun v112 =>
    .call (impl_areFinite_g v112) fun y => .leaf (.bool y, L)
  | _ => .fail
theorem impl_areFinite_Fok : COk Try.prog 135 impl_areFinite_F true := by
  intro F L H args r L' hs ha hr
  unfold impl_areFinite_F at hr
  split at hr
  · rename_i a1
    obtain ⟨v112, hv112, hr⟩ := optT_run hr
    simp only [Tree.run] at hr
    obtain ⟨y, hy, hr⟩ := Option.bind_eq_some_iff.1 hr
    simp only [Tree.run, Option.some.injEq, Prod.mk.injEq] at hr
    obtain ⟨rfl, rfl⟩ := hr
    exact call_ok0 hs (fun k => (([a1.av F] : List AV)[k]?).getD .top) [a1] [.bslc (BR.root 0) (.f32 v112)] (fun F' h0 hi hρ => ⟨by simp [DVs.av, DV.av, BR.av, hρ], impl_areFinite_fn v112 F' (by rw [hi]; rfl) (st_nil hi) ⟨bslc_ok hi (by rw [h0, hρ]; exact rowF32_ok hs (DVs.okAt ha 0 rfl) hv112), trivial⟩ hy⟩) rfl
  · cases hr
/-! impl.ValidMatrix -/
noncomputable def impl_ValidMatrix_LO (v104 : Int) (v105 : Int) (v106 : List Nat) : LOr := fun id e L =>
  match id with
  | _ => .fail
noncomputable def impl_ValidMatrix_tab : List (FuncId × DFn × Bool) := [(146, impl_isSide_F, true), (134, impl_lengthF_F, true), (135, impl_areFinite_F, true)]
theorem impl_ValidMatrix_hO : OrcOk Try.prog (tabD impl_ValidMatrix_tab) (tabM impl_ValidMatrix_tab) := tabD_cons impl_isSide_Fok (tabD_cons impl_lengthF_Fok (tabD_cons impl_areFinite_Fok (tabD_nil _)))
noncomputable def impl_ValidMatrix_T (v104 : Int) (v105 : Int) (v106 : List Nat) : Tree (Bool) :=
  (.br (impl_isSide_v v104) (
   (.br (impl_isSide_v v105) (
    (.br (decide ((impl_lengthF_v v106) = IntKind.i64.wrap (v104 * v105))) (
     (.call (impl_areFinite_g v106) fun v129 =>
     .leaf v129)
    ) (
     .leaf false
    ))
   ) (
    .leaf false
   ))
  ) (
   .leaf false
  ))

noncomputable def impl_ValidMatrix_g (v104 : Int) (v105 : Int) (v106 : List Nat) : Option (Bool) := (impl_ValidMatrix_T v104 v105 v106).run
def impl_ValidMatrix_enc (v104 : Int) (v105 : Int) (v106 : List Nat) (y : Bool) : Rs := (.bool y, [])
theorem impl_ValidMatrix_den (v104 : Int) (v105 : Int) (v106 : List Nat) : (den TT (tabD impl_ValidMatrix_tab) (tabM impl_ValidMatrix_tab) (impl_ValidMatrix_LO v104 v105 v106) (codeOf Try.f98) ([.agg [.int .i64 v104, .int .i64 v105, .bslc (BR.root 0) (.f32 v106)]] ++ List.replicate (Try.f98.ntmps - ([.agg [.int .i64 v104, .int .i64 v105, .bslc (BR.root 0) (.f32 v106)]] : List DV).length) .undef) []).bind (retD TT Try.f98.results.toList 0) = (impl_ValidMatrix_T v104 v105 v106).bind fun y => .leaf (impl_ValidMatrix_enc v104 v105 v106 y) := by kernel_rfl
theorem impl_ValidMatrix_fn (v104 : Int) (v105 : Int) (v106 : List Nat) (F : Fr) (hm : F.ids.length = 0) (h0 : St F [] F.H0) (hA : DVs.Ok F [] [.agg [.int .i64 v104, .int .i64 v105, .bslc (BR.root 0) (.f32 v106)]]) {y : Bool} (hy : impl_ValidMatrix_g v104 v105 v106 = some y) : ∃ H', FnOk Try.prog 98 (DVs.av F [.agg [.int .i64 v104, .int .i64 v105, .bslc (BR.root 0) (.f32 v106)]]) F.H0 ((impl_ValidMatrix_enc v104 v105 v106 y).1.av F) H' ∧ St F (impl_ValidMatrix_enc v104 v105 v106 y).2 H' ∧ (impl_ValidMatrix_enc v104 v105 v106 y).1.Ok F (impl_ValidMatrix_enc v104 v105 v106 y).2 :=
  fn_fin tok impl_ValidMatrix_hO mixed Try.func98 Try.call98 (by kernel_rfl) (LoopsOk_eq (l := []) (by kernel_rfl) trivial) (impl_ValidMatrix_den v104 v105 v106) hy hm h0 hA
noncomputable def impl_ValidMatrix_F : DFn := fun args L =>
  match args with
  | [.agg [.int .i64 v104, .int .i64 v105, a1]] =>
    optT (rowF32 L a1) fun v106 =>
    .call (impl_ValidMatrix_g v104 v105 v106) fun y => .leaf (.bool y, L)
  | _ => .fail
theorem impl_ValidMatrix_Fok : COk Try.prog 98 impl_ValidMatrix_F true := by
  intro F L H args r L' hs ha hr
  unfold impl_ValidMatrix_F at hr
  split at hr
  · rename_i v104 v105 a1
    obtain ⟨v106, hv106, hr⟩ := optT_run hr
    simp only [Tree.run] at hr
    obtain ⟨y, hy, hr⟩ := Option.bind_eq_some_iff.1 hr
    simp only [Tree.run, Option.some.injEq, Prod.mk.injEq] at hr
    obtain ⟨rfl, rfl⟩ := hr
    exact call_ok0 hs (fun k => (([a1.av F] : List AV)[k]?).getD .top) [.agg [.int .i64 v104, .int .i64 v105, a1]] [.agg [.int .i64 v104, .int .i64 v105, .bslc (BR.root 0) (.f32 v106)]] (fun F' h0 hi hρ => ⟨by simp [DVs.av, DV.av, BR.av, hρ], impl_ValidMatrix_fn v104 v105 v106 F' (by rw [hi]; rfl) (st_nil hi) ⟨⟨trivial, trivial, bslc_ok hi (by rw [h0, hρ]; exact rowF32_ok hs (DVs.okAt (DVs.okAt ha 0 rfl) 2 rfl) hv106), trivial⟩, trivial⟩ hy⟩) rfl
  · cases hr
/-! impl.mul -/
noncomputable def impl_mul_LO (v132 : Nat) (v133 : Nat) : LOr := fun id e L =>
  match id with
  | _ => .fail
noncomputable def impl_mul_tab : List (FuncId × DFn × Bool) := []
theorem impl_mul_hO : OrcOk Try.prog (tabD impl_mul_tab) (tabM impl_mul_tab) := tabD_nil _
noncomputable def impl_mul_T (v132 : Nat) (v133 : Nat) : Tree (Nat) :=
  .leaf (fmul .f32 v132 v133)

noncomputable def impl_mul_g (v132 : Nat) (v133 : Nat) : Option (Nat) := (impl_mul_T v132 v133).run
def impl_mul_enc (v132 : Nat) (v133 : Nat) (y : Nat) : Rs := (.flt .f32 y, [])
theorem impl_mul_den (v132 : Nat) (v133 : Nat) : (den TT (tabD impl_mul_tab) (tabM impl_mul_tab) (impl_mul_LO v132 v133) (codeOf Try.f80) ([.flt .f32 v132, .flt .f32 v133] ++ List.replicate (Try.f80.ntmps - ([.flt .f32 v132, .flt .f32 v133] : List DV).length) .undef) []).bind (retD TT Try.f80.results.toList 0) = (impl_mul_T v132 v133).bind fun y => .leaf (impl_mul_enc v132 v133 y) := by kernel_rfl
theorem impl_mul_fn (v132 : Nat) (v133 : Nat) (F : Fr) (hm : F.ids.length = 0) (h0 : St F [] F.H0) (hA : DVs.Ok F [] [.flt .f32 v132, .flt .f32 v133]) {y : Nat} (hy : impl_mul_g v132 v133 = some y) : ∃ H', FnOk Try.prog 80 (DVs.av F [.flt .f32 v132, .flt .f32 v133]) F.H0 ((impl_mul_enc v132 v133 y).1.av F) H' ∧ St F (impl_mul_enc v132 v133 y).2 H' ∧ (impl_mul_enc v132 v133 y).1.Ok F (impl_mul_enc v132 v133 y).2 :=
  fn_fin tok impl_mul_hO mixed Try.func80 Try.call80 (by kernel_rfl) (LoopsOk_eq (l := []) (by kernel_rfl) trivial) (impl_mul_den v132 v133) hy hm h0 hA
def impl_mul_v (v132 : Nat) (v133 : Nat) : Nat :=
  fmul .f32 v132 v133
theorem impl_mul_tot (v132 : Nat) (v133 : Nat) : impl_mul_g v132 v133 = some (impl_mul_v v132 v133) := by
  unfold impl_mul_g impl_mul_T impl_mul_v
  simp only [Tree.run]
  repeat' (first | rfl | split)
noncomputable def impl_mul_F : DFn := fun args L =>
  match args with
  | [.flt .f32 v132, .flt .f32 v133] =>
    .leaf (.flt .f32 (impl_mul_v v132 v133), L)
  | _ => .fail
theorem impl_mul_Fok : COk Try.prog 80 impl_mul_F true := by
  intro F L H args r L' hs ha hr
  unfold impl_mul_F at hr
  split at hr
  · rename_i v132 v133
    have hy := impl_mul_tot v132 v133
    generalize impl_mul_v v132 v133 = y at hy hr
    simp only [Tree.run, Option.some.injEq, Prod.mk.injEq] at hr
    obtain ⟨rfl, rfl⟩ := hr
    exact call_ok0 hs (fun k => (([] : List AV)[k]?).getD .top) [.flt .f32 v132, .flt .f32 v133] [.flt .f32 v132, .flt .f32 v133] (fun F' h0 hi hρ => ⟨by simp [DVs.av, DV.av, BR.av, hρ], impl_mul_fn v132 v133 F' (by rw [hi]; rfl) (st_nil hi) ⟨trivial, trivial, trivial⟩ hy⟩) rfl
  · cases hr
/-! impl.WholeOf -/
noncomputable def impl_WholeOf_l0_T (v102 : List Nat) (v103 : Nat) (s : (Int) ⊕ (Int × (List Int))) : Tree (((Int) ⊕ (Int × (List Int))) ⊕ ((Unit) ⊕ ((Unit) ⊕ ((List Int))))) :=
  (match s with
  | .inl s => (
  (.br (decide (s < ((v102.length : Nat) : Int))) (
   (.grd (inb s v102.length) <|
   (.call (math_Floor_g (wid (fadd .f32 (impl_mul_v (nth v102 (Int.toNat s)) v103) (1056964608 : Nat)))) fun v151 =>
   (.br (!(fless .f64 (fabs v151) (4696837146684686336 : Nat) || feq .f64 (fabs v151) (4696837146684686336 : Nat))) (
    .leaf (.inr (.inl ()))
   ) (
    (.call (ftoint .f64 v151 .i64) fun v152 =>
    (.grd (fits ([v152] : List Int).length) <|
    (.br (decide (([v152] : List Int).length = 0)) (
     .fail
    ) (
     .leaf (.inl (.inr (IntKind.i64.wrap (s + (1 : Int)), ([v152] : List Int))))
    ))))
   ))))
  ) (
   .leaf (.inr (.inr (.inl ())))
  )))
  | .inr s => (
  (.br (decide (s.1 < ((v102.length : Nat) : Int))) (
   (.grd (inb s.1 v102.length) <|
   (.call (math_Floor_g (wid (fadd .f32 (impl_mul_v (nth v102 (Int.toNat s.1)) v103) (1056964608 : Nat)))) fun v153 =>
   (.br (!(fless .f64 (fabs v153) (4696837146684686336 : Nat) || feq .f64 (fabs v153) (4696837146684686336 : Nat))) (
    .leaf (.inr (.inl ()))
   ) (
    (.call (ftoint .f64 v153 .i64) fun v154 =>
    (.grd (fits (s.2 ++ ([v154] : List Int)).length) <|
    .leaf (.inl (.inr (IntKind.i64.wrap (s.1 + (1 : Int)), s.2 ++ ([v154] : List Int))))))
   ))))
  ) (
   .leaf (.inr (.inr (.inr s.2)))
  ))))

noncomputable def impl_WholeOf_l0_g (v102 : List Nat) (v103 : Nat) (s0 : (Int) ⊕ (Int × (List Int))) : Option ((Unit) ⊕ ((Unit) ⊕ ((List Int)))) := whileM (fun s => (impl_WholeOf_l0_T v102 v103 s).run) s0
def impl_WholeOf_l0_E (v100 : Int) (v101 : Int) (v102 : List Nat) (v103 : Nat) (s : (Int) ⊕ (Int × (List Int))) : Sd := (match s with | .inl s => ( ([.top, .flt .f32 v103, .top, .top, .ptr 0 (0 : Nat) 0 (3 : Nat), .top, .ptr 1 (0 : Nat) 0 (3 : Nat), .top, .top, .top, .top, .top, .top, .top, .top, .top, .top, .top, .top, .top, .top, .top, .top, .top, .top, .top, .top, .top, .top, .top, .top, .top, .top, .top, .top, .top, .top, .bslc (BR.root 0) (.f32 v102), .int .i64 ((v102.length : Nat) : Int), .int .i64 s, .top, .top, .top, .top, .top, .top, .top, .top, .top, .top, .top, .top, .top, .top, .top, .top, .top, .top, .top, .top, .top, .top, .top], [.gen [.int .i64 (0 : Int), .int .i64 (0 : Int), .nilslc] false 0, .gen [.int .i64 v100, .int .i64 v101, .nilslc] false 0])) | .inr s => ( ([.top, .flt .f32 v103, .top, .top, .ptr 0 (0 : Nat) 0 (3 : Nat), .top, .ptr 1 (0 : Nat) 0 (3 : Nat), .top, .top, .top, .top, .top, .top, .top, .top, .top, .top, .top, .top, .top, .top, .top, .top, .top, .top, .top, .top, .top, .top, .top, .top, .top, .top, .top, .top, .top, .top, .bslc (BR.root 0) (.f32 v102), .int .i64 ((v102.length : Nat) : Int), .int .i64 s.1, .top, .top, .top, .top, .top, .top, .top, .top, .top, .top, .top, .top, .top, .top, .top, .top, .top, .top, .top, .top, .top, .top, .top], [.gen [.int .i64 (0 : Int), .int .i64 (0 : Int), .nilslc] false 0, .gen [.int .i64 v100, .int .i64 v101, .own 2 0 ((s.2).length)] false 0, .row (.i64 s.2) 0]))) 
def impl_WholeOf_l0_X (v100 : Int) (v101 : Int) (v102 : List Nat) (v103 : Nat) (x : (Unit) ⊕ ((Unit) ⊕ ((List Int)))) : Out := (match x with | .inl x => (.ret, [.top, .top, .top, .top, .ptr 0 (0 : Nat) 0 (3 : Nat), .lit false, .top, .top, .top, .top, .top, .top, .top, .top, .top, .top, .top, .top, .top, .top, .top, .top, .top, .top, .top, .top, .top, .top, .top, .top, .top, .top, .top, .top, .top, .top, .top, .top, .top, .top, .top, .top, .top, .top, .top, .top, .top, .top, .top, .top, .top, .top, .top, .top, .top, .top, .top, .top, .top, .top, .top, .top, .top], [.gen [.int .i64 (0 : Int), .int .i64 (0 : Int), .nilslc] false 0]) | .inr x => (match x with | .inl x => (.normal, [.top, .top, .top, .top, .ptr 0 (0 : Nat) 0 (3 : Nat), .top, .ptr 1 (0 : Nat) 0 (3 : Nat), .top, .top, .top, .top, .top, .top, .top, .top, .top, .top, .top, .top, .top, .top, .top, .top, .top, .top, .top, .top, .top, .top, .top, .top, .top, .top, .top, .top, .top, .top, .top, .top, .top, .top, .top, .top, .top, .top, .top, .top, .top, .top, .top, .top, .top, .top, .top, .top, .top, .top, .top, .top, .top, .top, .top, .top], [.gen [.int .i64 (0 : Int), .int .i64 (0 : Int), .nilslc] false 0, .gen [.int .i64 v100, .int .i64 v101, .nilslc] false 0]) | .inr x => (.normal, [.top, .top, .top, .top, .ptr 0 (0 : Nat) 0 (3 : Nat), .top, .ptr 1 (0 : Nat) 0 (3 : Nat), .top, .top, .top, .top, .top, .top, .top, .top, .top, .top, .top, .top, .top, .top, .top, .top, .top, .top, .top, .top, .top, .top, .top, .top, .top, .top, .top, .top, .top, .top, .top, .top, .top, .top, .top, .top, .top, .top, .top, .top, .top, .top, .top, .top, .top, .top, .top, .top, .top, .top, .top, .top, .top, .top, .top, .top], [.gen [.int .i64 (0 : Int), .int .i64 (0 : Int), .nilslc] false 0, .gen [.int .i64 v100, .int .i64 v101, .own 2 0 ((x).length)] false 0, .row (.i64 x) 0])))
def impl_WholeOf_l0_kill : List Nat := [1, 0, 1, 1, 0, 1, 0, 1, 1, 1, 1, 1, 1, 1, 1, 1, 1, 1, 1, 1, 1, 1, 1, 1, 1, 1, 1, 1, 1, 1, 1, 1, 1, 1, 1, 1, 1, 0, 0, 0, 1, 1, 1, 1, 1, 1, 1, 1, 1, 1, 1, 1, 1, 1, 1, 1, 1, 1, 1, 1, 1, 1, 1]
def impl_WholeOf_l0_nx : Exit → List Nat
  | .exit 0 => [1, 1, 1, 1, 0, 1, 0, 1, 1, 1, 1, 1, 1, 1, 1, 1, 1, 1, 1, 1, 1, 1, 1, 1, 1, 1, 1, 1, 1, 1, 1, 1, 1, 1, 1, 1, 1, 1, 1, 1, 1, 1, 1, 1, 1, 1, 1, 1, 1, 1, 1, 1, 1, 1, 1, 1, 1, 1, 1, 1, 1, 1, 1]
  | .ret => [1, 1, 1, 1, 0, 0, 1, 1, 1, 1, 1, 1, 1, 1, 1, 1, 1, 1, 1, 1, 1, 1, 1, 1, 1, 1, 1, 1, 1, 1, 1, 1, 1, 1, 1, 1, 1, 1, 1, 1, 1, 1, 1, 1, 1, 1, 1, 1, 1, 1, 1, 1, 1, 1, 1, 1, 1, 1, 1, 1, 1, 1, 1]
  | _ => []
noncomputable def impl_WholeOf_LO (v100 : Int) (v101 : Int) (v102 : List Nat) (v103 : Nat) : LOr := fun id e L =>
  match id with
  | 0 => .need (normA 0 impl_WholeOf_l0_kill e L = some (impl_WholeOf_l0_E v100 v101 v102 v103 (.inl (gI (vAt e 39))))) (.call (impl_WholeOf_l0_g v102 v103 (.inl (gI (vAt e 39)))) fun x => .sum x (fun b0 => .leaf (impl_WholeOf_l0_X v100 v101 v102 v103 (.inl b0))) (fun c0 => .sum c0 (fun b1 => .leaf (impl_WholeOf_l0_X v100 v101 v102 v103 (.inr (.inl b1)))) (fun c1 => .leaf (impl_WholeOf_l0_X v100 v101 v102 v103 (.inr (.inr c1))))))
  | _ => .fail
noncomputable def impl_WholeOf_tab : List (FuncId × DFn × Bool) := [(98, impl_ValidMatrix_F, true), (103, impl_IsFinite_F, true), (72, impl_inRange_F, true), (80, impl_mul_F, true), (101, math_Floor_F, true), (104, Abs_F, true)]
theorem impl_WholeOf_hO : OrcOk Try.prog (tabD impl_WholeOf_tab) (tabM impl_WholeOf_tab) := tabD_cons impl_ValidMatrix_Fok (tabD_cons impl_IsFinite_Fok (tabD_cons impl_inRange_Fok (tabD_cons impl_mul_Fok (tabD_cons math_Floor_Fok (tabD_cons Abs_Fok (tabD_nil _))))))
theorem impl_WholeOf_l0_be0 (v100 : Int) (v101 : Int) (v102 : List Nat) (v103 : Nat) (s : Int) : bodyT TT (tabD impl_WholeOf_tab) (tabM impl_WholeOf_tab) (impl_WholeOf_LO v100 v101 v102 v103) 0 impl_WholeOf_l0_kill impl_WholeOf_l0_nx (bodyOf Try.f37 0) 0 (impl_WholeOf_l0_E v100 v101 v102 v103 (.inl s)) = (impl_WholeOf_l0_T v102 v103 (.inl s)).bind fun y => .leaf (outS (impl_WholeOf_l0_E v100 v101 v102 v103) (impl_WholeOf_l0_X v100 v101 v102 v103) y) := by kernel_rfl
theorem impl_WholeOf_l0_be1 (v100 : Int) (v101 : Int) (v102 : List Nat) (v103 : Nat) (s : Int × (List Int)) : bodyT TT (tabD impl_WholeOf_tab) (tabM impl_WholeOf_tab) (impl_WholeOf_LO v100 v101 v102 v103) 0 impl_WholeOf_l0_kill impl_WholeOf_l0_nx (bodyOf Try.f37 0) 0 (impl_WholeOf_l0_E v100 v101 v102 v103 (.inr s)) = (impl_WholeOf_l0_T v102 v103 (.inr s)).bind fun y => .leaf (outS (impl_WholeOf_l0_E v100 v101 v102 v103) (impl_WholeOf_l0_X v100 v101 v102 v103) y) := by kernel_rfl
theorem impl_WholeOf_l0_be (v100 : Int) (v101 : Int) (v102 : List Nat) (v103 : Nat) (s : (Int) ⊕ (Int × (List Int))) : bodyT TT (tabD impl_WholeOf_tab) (tabM impl_WholeOf_tab) (impl_WholeOf_LO v100 v101 v102 v103) 0 impl_WholeOf_l0_kill impl_WholeOf_l0_nx (bodyOf Try.f37 0) 0 (impl_WholeOf_l0_E v100 v101 v102 v103 s) = (impl_WholeOf_l0_T v102 v103 s).bind fun y => .leaf (outS (impl_WholeOf_l0_E v100 v101 v102 v103) (impl_WholeOf_l0_X v100 v101 v102 v103) y) := by 
  rcases s with s | s
  · exact impl_WholeOf_l0_be0 v100 v101 v102 v103 s
  · exact impl_WholeOf_l0_be1 v100 v101 v102 v103 s
theorem impl_WholeOf_l0_ok (v100 : Int) (v101 : Int) (v102 : List Nat) (v103 : Nat) : LSound Try.prog 0 (impl_WholeOf_LO v100 v101 v102 v103) 0 (bodyOf Try.f37 0) := by
  intro e L out h
  exact lo_ok (E := impl_WholeOf_l0_E v100 v101 v102 v103) (gT := impl_WholeOf_l0_T v102 v103) (X := impl_WholeOf_l0_X v100 v101 v102 v103) (s0 := .inl (gI (vAt e 39))) tok impl_WholeOf_hO mixed (LoopsOk_eq (l := []) (by kernel_rfl) trivial) (impl_WholeOf_l0_be v100 v101 v102 v103) rfl (by intro x; (cases x with | inl b => rfl | inr x => (cases x with | inl b => rfl | inr x => exact rfl))) h
noncomputable def impl_WholeOf_T (v100 : Int) (v101 : Int) (v102 : List Nat) (v103 : Nat) : Tree ((Unit) ⊕ ((Int × Int) ⊕ (Int × Int × (List Int)))) :=
  (.call (impl_ValidMatrix_g v100 v101 v102) fun v130 =>
  (.br (!v130) (
   .leaf (.inl ())
  ) (
   (.br (!(impl_IsFinite_v v103)) (
    .leaf (.inl ())
   ) (
    (.br (!(impl_inRange_v v100 (1 : Int) (6 : Int))) (
     .leaf (.inl ())
    ) (
     (.br (!(impl_inRange_v v101 (1 : Int) (6 : Int))) (
      .leaf (.inl ())
     ) (
      (.need (some (impl_WholeOf_l0_E v100 v101 v102 v103 (.inl (0 : Int))) = some (impl_WholeOf_l0_E v100 v101 v102 v103 (.inl (0 : Int)))) <|
      (.call (impl_WholeOf_l0_g v102 v103 (.inl (0 : Int))) fun v155 =>
      (.sum v155 (fun v156 =>
       .leaf (.inl ())
      ) (fun v157 =>
       (.sum v157 (fun v158 =>
        .leaf (.inr (.inl (v100, v101)))
       ) (fun v159 =>
        .leaf (.inr (.inr (v100, v101, v159)))
       ))
      ))))
     ))
    ))
   ))
  )))

noncomputable def impl_WholeOf_g (v100 : Int) (v101 : Int) (v102 : List Nat) (v103 : Nat) : Option ((Unit) ⊕ ((Int × Int) ⊕ (Int × Int × (List Int)))) := (impl_WholeOf_T v100 v101 v102 v103).run
def impl_WholeOf_enc (v100 : Int) (v101 : Int) (v102 : List Nat) (v103 : Nat) (y : (Unit) ⊕ ((Int × Int) ⊕ (Int × Int × (List Int)))) : Rs := (match y with | .inl y => (.tup [.agg [.int .i64 (0 : Int), .int .i64 (0 : Int), .nilslc], .lit false], []) | .inr y => (match y with | .inl y => (.tup [.agg [.int .i64 y.1, .int .i64 y.2, .nilslc], .lit true], []) | .inr y => (.tup [.agg [.int .i64 y.1, .int .i64 y.2.1, .own 0 0 ((y.2.2).length)], .lit true], [.row (.i64 y.2.2) 0])))
theorem impl_WholeOf_den (v100 : Int) (v101 : Int) (v102 : List Nat) (v103 : Nat) : (den TT (tabD impl_WholeOf_tab) (tabM impl_WholeOf_tab) (impl_WholeOf_LO v100 v101 v102 v103) (codeOf Try.f37) ([.agg [.int .i64 v100, .int .i64 v101, .bslc (BR.root 0) (.f32 v102)], .flt .f32 v103] ++ List.replicate (Try.f37.ntmps - ([.agg [.int .i64 v100, .int .i64 v101, .bslc (BR.root 0) (.f32 v102)], .flt .f32 v103] : List DV).length) .undef) []).bind (retD TT Try.f37.results.toList 0) = (impl_WholeOf_T v100 v101 v102 v103).bind fun y => .leaf (impl_WholeOf_enc v100 v101 v102 v103 y) := by kernel_rfl
theorem impl_WholeOf_fn (v100 : Int) (v101 : Int) (v102 : List Nat) (v103 : Nat) (F : Fr) (hm : F.ids.length = 0) (h0 : St F [] F.H0) (hA : DVs.Ok F [] [.agg [.int .i64 v100, .int .i64 v101, .bslc (BR.root 0) (.f32 v102)], .flt .f32 v103]) {y : (Unit) ⊕ ((Int × Int) ⊕ (Int × Int × (List Int)))} (hy : impl_WholeOf_g v100 v101 v102 v103 = some y) : ∃ H', FnOk Try.prog 37 (DVs.av F [.agg [.int .i64 v100, .int .i64 v101, .bslc (BR.root 0) (.f32 v102)], .flt .f32 v103]) F.H0 ((impl_WholeOf_enc v100 v101 v102 v103 y).1.av F) H' ∧ St F (impl_WholeOf_enc v100 v101 v102 v103 y).2 H' ∧ (impl_WholeOf_enc v100 v101 v102 v103 y).1.Ok F (impl_WholeOf_enc v100 v101 v102 v103 y).2 :=
  fn_fin tok impl_WholeOf_hO mixed Try.func37 Try.call37 (by kernel_rfl) (LoopsOk_eq (l := [(0, bodyOf Try.f37 0)]) (by kernel_rfl) ⟨impl_WholeOf_l0_ok v100 v101 v102 v103, trivial⟩) (impl_WholeOf_den v100 v101 v102 v103) hy hm h0 hA
noncomputable def impl_WholeOf_F : DFn := fun args L =>
  match args with
  | [.agg [.int .i64 v100, .int .i64 v101, a1], .flt .f32 v103] =>
    optT (rowF32 L a1) fun v102 =>
    .call (impl_WholeOf_g v100 v101 v102 v103) fun y => .sum y (fun y0 => .leaf (.tup [.agg [.int .i64 (0 : Int), .int .i64 (0 : Int), .nilslc], .lit false], L)) (fun z0 => .sum z0 (fun y1 => .leaf (.tup [.agg [.int .i64 y1.1, .int .i64 y1.2, .nilslc], .lit true], L)) (fun z1 => .leaf (.tup [.agg [.int .i64 z1.1, .int .i64 z1.2.1, .own (L.length + 0) 0 ((z1.2.2).length)], .lit true], L ++ [.row (.i64 z1.2.2) 0])))
  | _ => .fail
theorem impl_WholeOf_Fok : COk Try.prog 37 impl_WholeOf_F true := by
  intro F L H args r L' hs ha hr
  unfold impl_WholeOf_F at hr
  split at hr
  · rename_i v100 v101 a1 v103
    obtain ⟨v102, hv102, hr⟩ := optT_run hr
    simp only [Tree.run] at hr
    obtain ⟨y, hy, hr⟩ := Option.bind_eq_some_iff.1 hr
    cases y with
    | inl y =>
      simp only [Tree.run, Option.some.injEq, Prod.mk.injEq] at hr
      obtain ⟨rfl, rfl⟩ := hr
      exact call_ok0 hs (fun k => (([a1.av F] : List AV)[k]?).getD .top) [.agg [.int .i64 v100, .int .i64 v101, a1], .flt .f32 v103] [.agg [.int .i64 v100, .int .i64 v101, .bslc (BR.root 0) (.f32 v102)], .flt .f32 v103] (fun F' h0 hi hρ => ⟨by simp [DVs.av, DV.av, BR.av, hρ], impl_WholeOf_fn v100 v101 v102 v103 F' (by rw [hi]; rfl) (st_nil hi) ⟨⟨trivial, trivial, bslc_ok hi (by rw [h0, hρ]; exact rowF32_ok hs (DVs.okAt (DVs.okAt ha 0 rfl) 2 rfl) hv102), trivial⟩, trivial, trivial⟩ hy⟩) rfl
    | inr y =>
      cases y with
      | inl y =>
        simp only [Tree.run, Option.some.injEq, Prod.mk.injEq] at hr
        obtain ⟨rfl, rfl⟩ := hr
        exact call_ok0 hs (fun k => (([a1.av F] : List AV)[k]?).getD .top) [.agg [.int .i64 v100, .int .i64 v101, a1], .flt .f32 v103] [.agg [.int .i64 v100, .int .i64 v101, .bslc (BR.root 0) (.f32 v102)], .flt .f32 v103] (fun F' h0 hi hρ => ⟨by simp [DVs.av, DV.av, BR.av, hρ], impl_WholeOf_fn v100 v101 v102 v103 F' (by rw [hi]; rfl) (st_nil hi) ⟨⟨trivial, trivial, bslc_ok hi (by rw [h0, hρ]; exact rowF32_ok hs (DVs.okAt (DVs.okAt ha 0 rfl) 2 rfl) hv102), trivial⟩, trivial, trivial⟩ hy⟩) rfl
      | inr y =>
        simp only [Tree.run, Option.some.injEq, Prod.mk.injEq] at hr
        obtain ⟨rfl, rfl⟩ := hr
        exact call_ok1 hs (fun k => (([a1.av F] : List AV)[k]?).getD .top) [.agg [.int .i64 v100, .int .i64 v101, a1], .flt .f32 v103] [.agg [.int .i64 v100, .int .i64 v101, .bslc (BR.root 0) (.f32 v102)], .flt .f32 v103] (fun F' h0 hi hρ => ⟨by simp [DVs.av, DV.av, BR.av, hρ], impl_WholeOf_fn v100 v101 v102 v103 F' (by rw [hi]; rfl) (st_nil hi) ⟨⟨trivial, trivial, bslc_ok hi (by rw [h0, hρ]; exact rowF32_ok hs (DVs.okAt (DVs.okAt ha 0 rfl) 2 rfl) hv102), trivial⟩, trivial, trivial⟩ hy⟩) rfl rfl
  · cases hr
/-! laws.eqInt64S -/
noncomputable def laws_eqInt64S_l0_T (v169 : List Int) (v170 : List Int) (s : Int) : Tree ((Int) ⊕ ((Unit) ⊕ (Unit))) :=
  (.br (decide (s < ((v169.length : Nat) : Int))) (
   (.grd (inb s v169.length) <|
   (.grd (inb s v170.length) <|
   (.br (!decide (nth v169 (Int.toNat s) = nth v170 (Int.toNat s))) (
    .leaf (.inr (.inl ()))
   ) (
    .leaf (.inl (IntKind.i64.wrap (s + (1 : Int))))
   ))))
  ) (
   .leaf (.inr (.inr ()))
  ))

noncomputable def laws_eqInt64S_l0_g (v169 : List Int) (v170 : List Int) (s0 : Int) : Option ((Unit) ⊕ (Unit)) := whileM (fun s => (laws_eqInt64S_l0_T v169 v170 s).run) s0
def laws_eqInt64S_l0_E (v169 : List Int) (v170 : List Int) (s : Int) : Sd := ([.bslc (BR.root 0) (.i64 v169), .bslc (BR.root 1) (.i64 v170), .top, .top, .top, .int .i64 s, .top, .top, .top, .top, .top, .top, .top, .top, .top, .top, .top, .top, .top, .top, .top, .top, .top, .top, .top, .top], [])
def laws_eqInt64S_l0_X (v169 : List Int) (v170 : List Int) (x : (Unit) ⊕ (Unit)) : Out := (match x with | .inl x => (.ret, [.top, .top, .top, .top, .lit false, .top, .top, .top, .top, .top, .top, .top, .top, .top, .top, .top, .top, .top, .top, .top, .top, .top, .top, .top, .top, .top], []) | .inr x => (.normal, [.top, .top, .top, .top, .top, .top, .top, .top, .top, .top, .top, .top, .top, .top, .top, .top, .top, .top, .top, .top, .top, .top, .top, .top, .top, .top], []))
def laws_eqInt64S_l0_kill : List Nat := [0, 0, 1, 1, 1, 0, 1, 1, 1, 1, 1, 1, 1, 1, 1, 1, 1, 1, 1, 1, 1, 1, 1, 1, 1, 1]
def laws_eqInt64S_l0_nx : Exit → List Nat
  | .exit 0 => [1, 1, 1, 1, 1, 1, 1, 1, 1, 1, 1, 1, 1, 1, 1, 1, 1, 1, 1, 1, 1, 1, 1, 1, 1, 1]
  | .ret => [1, 1, 1, 1, 0, 1, 1, 1, 1, 1, 1, 1, 1, 1, 1, 1, 1, 1, 1, 1, 1, 1, 1, 1, 1, 1]
  | _ => []
noncomputable def laws_eqInt64S_LO (v169 : List Int) (v170 : List Int) : LOr := fun id e L =>
  match id with
  | 0 => .need (normA 0 laws_eqInt64S_l0_kill e L = some (laws_eqInt64S_l0_E v169 v170 (gI (vAt e 5)))) (.call (laws_eqInt64S_l0_g v169 v170 (gI (vAt e 5))) fun x => .sum x (fun b0 => .leaf (laws_eqInt64S_l0_X v169 v170 (.inl b0))) (fun c0 => .leaf (laws_eqInt64S_l0_X v169 v170 (.inr c0))))
  | _ => .fail
noncomputable def laws_eqInt64S_tab : List (FuncId × DFn × Bool) := []
theorem laws_eqInt64S_hO : OrcOk Try.prog (tabD laws_eqInt64S_tab) (tabM laws_eqInt64S_tab) := tabD_nil _
theorem laws_eqInt64S_l0_be (v169 : List Int) (v170 : List Int) (s : Int) : bodyT TT (tabD laws_eqInt64S_tab) (tabM laws_eqInt64S_tab) (laws_eqInt64S_LO v169 v170) 0 laws_eqInt64S_l0_kill laws_eqInt64S_l0_nx (bodyOf Try.f44 0) 0 (laws_eqInt64S_l0_E v169 v170 s) = (laws_eqInt64S_l0_T v169 v170 s).bind fun y => .leaf (outS (laws_eqInt64S_l0_E v169 v170) (laws_eqInt64S_l0_X v169 v170) y) := by kernel_rfl
theorem laws_eqInt64S_l0_ok (v169 : List Int) (v170 : List Int) : LSound Try.prog 0 (laws_eqInt64S_LO v169 v170) 0 (bodyOf Try.f44 0) := by
  intro e L out h
  exact lo_ok (E := laws_eqInt64S_l0_E v169 v170) (gT := laws_eqInt64S_l0_T v169 v170) (X := laws_eqInt64S_l0_X v169 v170) (s0 := (gI (vAt e 5))) tok laws_eqInt64S_hO mixed (LoopsOk_eq (l := []) (by kernel_rfl) trivial) (laws_eqInt64S_l0_be v169 v170) rfl (by intro x; (cases x with | inl b => rfl | inr x => exact rfl)) h
noncomputable def laws_eqInt64S_T (v169 : List Int) (v170 : List Int) : Tree (Bool) :=
  (.br (!decide (((v169.length : Nat) : Int) = ((v170.length : Nat) : Int))) (
   .leaf false
  ) (
   (.need (some (laws_eqInt64S_l0_E v169 v170 (0 : Int)) = some (laws_eqInt64S_l0_E v169 v170 (0 : Int))) <|
   (.call (laws_eqInt64S_l0_g v169 v170 (0 : Int)) fun v174 =>
   (.sum v174 (fun v175 =>
    .leaf false
   ) (fun v176 =>
    .leaf true
   ))))
  ))

noncomputable def laws_eqInt64S_g (v169 : List Int) (v170 : List Int) : Option (Bool) := (laws_eqInt64S_T v169 v170).run
def laws_eqInt64S_enc (v169 : List Int) (v170 : List Int) (y : Bool) : Rs := (.bool y, [])
theorem laws_eqInt64S_den (v169 : List Int) (v170 : List Int) : (den TT (tabD laws_eqInt64S_tab) (tabM laws_eqInt64S_tab) (laws_eqInt64S_LO v169 v170) (codeOf Try.f44) ([.bslc (BR.root 0) (.i64 v169), .bslc (BR.root 1) (.i64 v170)] ++ List.replicate (Try.f44.ntmps - ([.bslc (BR.root 0) (.i64 v169), .bslc (BR.root 1) (.i64 v170)] : List DV).length) .undef) []).bind (retD TT Try.f44.results.toList 0) = (laws_eqInt64S_T v169 v170).bind fun y => .leaf (laws_eqInt64S_enc v169 v170 y) := by kernel_rfl
theorem laws_eqInt64S_fn (v169 : List Int) (v170 : List Int) (F : Fr) (hm : F.ids.length = 0) (h0 : St F [] F.H0) (hA : DVs.Ok F [] [.bslc (BR.root 0) (.i64 v169), .bslc (BR.root 1) (.i64 v170)]) {y : Bool} (hy : laws_eqInt64S_g v169 v170 = some y) : ∃ H', FnOk Try.prog 44 (DVs.av F [.bslc (BR.root 0) (.i64 v169), .bslc (BR.root 1) (.i64 v170)]) F.H0 ((laws_eqInt64S_enc v169 v170 y).1.av F) H' ∧ St F (laws_eqInt64S_enc v169 v170 y).2 H' ∧ (laws_eqInt64S_enc v169 v170 y).1.Ok F (laws_eqInt64S_enc v169 v170 y).2 :=
  fn_fin tok laws_eqInt64S_hO mixed Try.func44 Try.call44 (by kernel_rfl) (LoopsOk_eq (l := [(0, bodyOf Try.f44 0)]) (by kernel_rfl) ⟨laws_eqInt64S_l0_ok v169 v170, trivial⟩) (laws_eqInt64S_den v169 v170) hy hm h0 hA
noncomputable def laws_eqInt64S_F : DFn := fun args L =>
  match args with
  | [a1, a2] =>
    optT (rowI64 L a1) fun v169 =>
    optT (rowI64 L a2) fun v170 =>
    .call (laws_eqInt64S_g v169 v170) fun y => .leaf (.bool y, L)
  | _ => .fail
theorem laws_eqInt64S_Fok : COk Try.prog 44 laws_eqInt64S_F true := by
  intro F L H args r L' hs ha hr
  unfold laws_eqInt64S_F at hr
  split at hr
  · rename_i a1 a2
    obtain ⟨v169, hv169, hr⟩ := optT_run hr
    obtain ⟨v170, hv170, hr⟩ := optT_run hr
    simp only [Tree.run] at hr
    obtain ⟨y, hy, hr⟩ := Option.bind_eq_some_iff.1 hr
    simp only [Tree.run, Option.some.injEq, Prod.mk.injEq] at hr
    obtain ⟨rfl, rfl⟩ := hr
    exact call_ok0 hs (fun k => (([a1.av F, a2.av F] : List AV)[k]?).getD .top) [a1, a2] [.bslc (BR.root 0) (.i64 v169), .bslc (BR.root 1) (.i64 v170)] (fun F' h0 hi hρ => ⟨by simp [DVs.av, DV.av, BR.av, hρ], laws_eqInt64S_fn v169 v170 F' (by rw [hi]; rfl) (st_nil hi) ⟨bslc_ok hi (by rw [h0, hρ]; exact rowI64_ok hs (DVs.okAt ha 0 rfl) hv169), bslc_ok hi (by rw [h0, hρ]; exact rowI64_ok hs (DVs.okAt ha 1 rfl) hv170), trivial⟩ hy⟩) rfl
  · cases hr
/-! laws.eqWhole -/
noncomputable def laws_eqWhole_LO (v163 : Int) (v164 : Int) (v165 : List Int) (v166 : Int) (v167 : Int) (v168 : List Int) : LOr := fun id e L =>
  match id with
  | _ => .fail
noncomputable def laws_eqWhole_tab : List (FuncId × DFn × Bool) := [(44, laws_eqInt64S_F, true)]
theorem laws_eqWhole_hO : OrcOk Try.prog (tabD laws_eqWhole_tab) (tabM laws_eqWhole_tab) := tabD_cons laws_eqInt64S_Fok (tabD_nil _)
noncomputable def laws_eqWhole_T (v163 : Int) (v164 : Int) (v165 : List Int) (v166 : Int) (v167 : Int) (v168 : List Int) : Tree (Bool) :=
  (.br (!decide (v163 = v166)) (
   .leaf false
  ) (
   (.br (!decide (v164 = v167)) (
    .leaf false
   ) (
    (.call (laws_eqInt64S_g v165 v168) fun v177 =>
    (.br (!v177) (
     .leaf false
    ) (
     .leaf true
    )))
   ))
  ))

noncomputable def laws_eqWhole_g (v163 : Int) (v164 : Int) (v165 : List Int) (v166 : Int) (v167 : Int) (v168 : List Int) : Option (Bool) := (laws_eqWhole_T v163 v164 v165 v166 v167 v168).run
def laws_eqWhole_enc (v163 : Int) (v164 : Int) (v165 : List Int) (v166 : Int) (v167 : Int) (v168 : List Int) (y : Bool) : Rs := (.bool y, [])
theorem laws_eqWhole_den (v163 : Int) (v164 : Int) (v165 : List Int) (v166 : Int) (v167 : Int) (v168 : List Int) : (den TT (tabD laws_eqWhole_tab) (tabM laws_eqWhole_tab) (laws_eqWhole_LO v163 v164 v165 v166 v167 v168) (codeOf Try.f38) ([.agg [.int .i64 v163, .int .i64 v164, .bslc (BR.root 0) (.i64 v165)], .agg [.int .i64 v166, .int .i64 v167, .bslc (BR.root 1) (.i64 v168)]] ++ List.replicate (Try.f38.ntmps - ([.agg [.int .i64 v163, .int .i64 v164, .bslc (BR.root 0) (.i64 v165)], .agg [.int .i64 v166, .int .i64 v167, .bslc (BR.root 1) (.i64 v168)]] : List DV).length) .undef) []).bind (retD TT Try.f38.results.toList 0) = (laws_eqWhole_T v163 v164 v165 v166 v167 v168).bind fun y => .leaf (laws_eqWhole_enc v163 v164 v165 v166 v167 v168 y) := by kernel_rfl
theorem laws_eqWhole_fn (v163 : Int) (v164 : Int) (v165 : List Int) (v166 : Int) (v167 : Int) (v168 : List Int) (F : Fr) (hm : F.ids.length = 0) (h0 : St F [] F.H0) (hA : DVs.Ok F [] [.agg [.int .i64 v163, .int .i64 v164, .bslc (BR.root 0) (.i64 v165)], .agg [.int .i64 v166, .int .i64 v167, .bslc (BR.root 1) (.i64 v168)]]) {y : Bool} (hy : laws_eqWhole_g v163 v164 v165 v166 v167 v168 = some y) : ∃ H', FnOk Try.prog 38 (DVs.av F [.agg [.int .i64 v163, .int .i64 v164, .bslc (BR.root 0) (.i64 v165)], .agg [.int .i64 v166, .int .i64 v167, .bslc (BR.root 1) (.i64 v168)]]) F.H0 ((laws_eqWhole_enc v163 v164 v165 v166 v167 v168 y).1.av F) H' ∧ St F (laws_eqWhole_enc v163 v164 v165 v166 v167 v168 y).2 H' ∧ (laws_eqWhole_enc v163 v164 v165 v166 v167 v168 y).1.Ok F (laws_eqWhole_enc v163 v164 v165 v166 v167 v168 y).2 :=
  fn_fin tok laws_eqWhole_hO mixed Try.func38 Try.call38 (by kernel_rfl) (LoopsOk_eq (l := []) (by kernel_rfl) trivial) (laws_eqWhole_den v163 v164 v165 v166 v167 v168) hy hm h0 hA
noncomputable def laws_eqWhole_F : DFn := fun args L =>
  match args with
  | [.agg [.int .i64 v163, .int .i64 v164, a1], .agg [.int .i64 v166, .int .i64 v167, a2]] =>
    optT (rowI64 L a1) fun v165 =>
    optT (rowI64 L a2) fun v168 =>
    .call (laws_eqWhole_g v163 v164 v165 v166 v167 v168) fun y => .leaf (.bool y, L)
  | _ => .fail
theorem laws_eqWhole_Fok : COk Try.prog 38 laws_eqWhole_F true := by
  intro F L H args r L' hs ha hr
  unfold laws_eqWhole_F at hr
  split at hr
  · rename_i v163 v164 a1 v166 v167 a2
    obtain ⟨v165, hv165, hr⟩ := optT_run hr
    obtain ⟨v168, hv168, hr⟩ := optT_run hr
    simp only [Tree.run] at hr
    obtain ⟨y, hy, hr⟩ := Option.bind_eq_some_iff.1 hr
    simp only [Tree.run, Option.some.injEq, Prod.mk.injEq] at hr
    obtain ⟨rfl, rfl⟩ := hr
    exact call_ok0 hs (fun k => (([a1.av F, a2.av F] : List AV)[k]?).getD .top) [.agg [.int .i64 v163, .int .i64 v164, a1], .agg [.int .i64 v166, .int .i64 v167, a2]] [.agg [.int .i64 v163, .int .i64 v164, .bslc (BR.root 0) (.i64 v165)], .agg [.int .i64 v166, .int .i64 v167, .bslc (BR.root 1) (.i64 v168)]] (fun F' h0 hi hρ => ⟨by simp [DVs.av, DV.av, BR.av, hρ], laws_eqWhole_fn v163 v164 v165 v166 v167 v168 F' (by rw [hi]; rfl) (st_nil hi) ⟨⟨trivial, trivial, bslc_ok hi (by rw [h0, hρ]; exact rowI64_ok hs (DVs.okAt (DVs.okAt ha 0 rfl) 2 rfl) hv165), trivial⟩, ⟨trivial, trivial, bslc_ok hi (by rw [h0, hρ]; exact rowI64_ok hs (DVs.okAt (DVs.okAt ha 1 rfl) 2 rfl) hv168), trivial⟩, trivial⟩ hy⟩) rfl
  · cases hr
/-! laws.sameFloat -/
noncomputable def laws_sameFloat_LO (v189 : Nat) (v190 : Nat) : LOr := fun id e L =>
  match id with
  | _ => .fail
noncomputable def laws_sameFloat_tab : List (FuncId × DFn × Bool) := []
theorem laws_sameFloat_hO : OrcOk Try.prog (tabD laws_sameFloat_tab) (tabM laws_sameFloat_tab) := tabD_nil _
noncomputable def laws_sameFloat_T (v189 : Nat) (v190 : Nat) : Tree (Bool) :=
  (.br (!feq .f64 v189 v189) (
   (.br (!feq .f64 v189 v189) (
    .leaf (!feq .f64 v190 v190)
   ) (
    .leaf false
   ))
  ) (
   (.br (!feq .f64 v190 v190) (
    (.br (!feq .f64 v189 v189) (
     .leaf (!feq .f64 v190 v190)
    ) (
     .leaf false
    ))
   ) (
    (.br (feq .f64 v189 (0 : Nat)) (
     (.br (feq .f64 v190 (0 : Nat)) (
      .leaf ((fgrt .f64 (fdiv .f64 (4607182418800017408 : Nat) v189) (0 : Nat)) == (fgrt .f64 (fdiv .f64 (4607182418800017408 : Nat) v190) (0 : Nat)))
     ) (
      .leaf (feq .f64 v189 v190)
     ))
    ) (
     .leaf (feq .f64 v189 v190)
    ))
   ))
  ))

noncomputable def laws_sameFloat_g (v189 : Nat) (v190 : Nat) : Option (Bool) := (laws_sameFloat_T v189 v190).run
def laws_sameFloat_enc (v189 : Nat) (v190 : Nat) (y : Bool) : Rs := (.bool y, [])
theorem laws_sameFloat_den (v189 : Nat) (v190 : Nat) : (den TT (tabD laws_sameFloat_tab) (tabM laws_sameFloat_tab) (laws_sameFloat_LO v189 v190) (codeOf Try.f53) ([.flt .f64 v189, .flt .f64 v190] ++ List.replicate (Try.f53.ntmps - ([.flt .f64 v189, .flt .f64 v190] : List DV).length) .undef) []).bind (retD TT Try.f53.results.toList 0) = (laws_sameFloat_T v189 v190).bind fun y => .leaf (laws_sameFloat_enc v189 v190 y) := by kernel_rfl
theorem laws_sameFloat_fn (v189 : Nat) (v190 : Nat) (F : Fr) (hm : F.ids.length = 0) (h0 : St F [] F.H0) (hA : DVs.Ok F [] [.flt .f64 v189, .flt .f64 v190]) {y : Bool} (hy : laws_sameFloat_g v189 v190 = some y) : ∃ H', FnOk Try.prog 53 (DVs.av F [.flt .f64 v189, .flt .f64 v190]) F.H0 ((laws_sameFloat_enc v189 v190 y).1.av F) H' ∧ St F (laws_sameFloat_enc v189 v190 y).2 H' ∧ (laws_sameFloat_enc v189 v190 y).1.Ok F (laws_sameFloat_enc v189 v190 y).2 :=
  fn_fin tok laws_sameFloat_hO mixed Try.func53 Try.call53 (by kernel_rfl) (LoopsOk_eq (l := []) (by kernel_rfl) trivial) (laws_sameFloat_den v189 v190) hy hm h0 hA
def laws_sameFloat_v (v189 : Nat) (v190 : Nat) : Bool :=
  if (!feq .f64 v189 v189) = true then (
   if (!feq .f64 v189 v189) = true then (
    !feq .f64 v190 v190
   ) else (
    false
   )
  ) else (
   if (!feq .f64 v190 v190) = true then (
    if (!feq .f64 v189 v189) = true then (
     !feq .f64 v190 v190
    ) else (
     false
    )
   ) else (
    if (feq .f64 v189 (0 : Nat)) = true then (
     if (feq .f64 v190 (0 : Nat)) = true then (
      (fgrt .f64 (fdiv .f64 (4607182418800017408 : Nat) v189) (0 : Nat)) == (fgrt .f64 (fdiv .f64 (4607182418800017408 : Nat) v190) (0 : Nat))
     ) else (
      feq .f64 v189 v190
     )
    ) else (
     feq .f64 v189 v190
    )
   )
  )
theorem laws_sameFloat_tot (v189 : Nat) (v190 : Nat) : laws_sameFloat_g v189 v190 = some (laws_sameFloat_v v189 v190) := by
  unfold laws_sameFloat_g laws_sameFloat_T laws_sameFloat_v
  simp only [Tree.run]
  repeat' (first | rfl | split)
noncomputable def laws_sameFloat_F : DFn := fun args L =>
  match args with
  | [.flt .f64 v189, .flt .f64 v190] =>
    .leaf (.bool (laws_sameFloat_v v189 v190), L)
  | _ => .fail
theorem laws_sameFloat_Fok : COk Try.prog 53 laws_sameFloat_F true := by
  intro F L H args r L' hs ha hr
  unfold laws_sameFloat_F at hr
  split at hr
  · rename_i v189 v190
    have hy := laws_sameFloat_tot v189 v190
    generalize laws_sameFloat_v v189 v190 = y at hy hr
    simp only [Tree.run, Option.some.injEq, Prod.mk.injEq] at hr
    obtain ⟨rfl, rfl⟩ := hr
    exact call_ok0 hs (fun k => (([] : List AV)[k]?).getD .top) [.flt .f64 v189, .flt .f64 v190] [.flt .f64 v189, .flt .f64 v190] (fun F' h0 hi hρ => ⟨by simp [DVs.av, DV.av, BR.av, hρ], laws_sameFloat_fn v189 v190 F' (by rw [hi]; rfl) (st_nil hi) ⟨trivial, trivial, trivial⟩ hy⟩) rfl
  · cases hr
/-! laws.eqFloat32S -/
noncomputable def laws_eqFloat32S_l0_T (v186 : List Nat) (v187 : List Nat) (s : Int) : Tree ((Int) ⊕ ((Unit) ⊕ (Unit))) :=
  (.br (decide (s < ((v186.length : Nat) : Int))) (
   (.grd (inb s v186.length) <|
   (.grd (inb s v187.length) <|
   (.br (!(laws_sameFloat_v (wid (nth v186 (Int.toNat s))) (wid (nth v187 (Int.toNat s))))) (
    .leaf (.inr (.inl ()))
   ) (
    .leaf (.inl (IntKind.i64.wrap (s + (1 : Int))))
   ))))
  ) (
   .leaf (.inr (.inr ()))
  ))

noncomputable def laws_eqFloat32S_l0_g (v186 : List Nat) (v187 : List Nat) (s0 : Int) : Option ((Unit) ⊕ (Unit)) := whileM (fun s => (laws_eqFloat32S_l0_T v186 v187 s).run) s0
def laws_eqFloat32S_l0_E (v186 : List Nat) (v187 : List Nat) (s : Int) : Sd := ([.bslc (BR.root 0) (.f32 v186), .bslc (BR.root 1) (.f32 v187), .top, .top, .top, .int .i64 s, .top, .top, .top, .top, .top, .top, .top, .top, .top, .top, .top, .top, .top, .top, .top, .top, .top, .top, .top, .top, .top, .top, .top], [])
def laws_eqFloat32S_l0_X (v186 : List Nat) (v187 : List Nat) (x : (Unit) ⊕ (Unit)) : Out := (match x with | .inl x => (.ret, [.top, .top, .top, .top, .lit false, .top, .top, .top, .top, .top, .top, .top, .top, .top, .top, .top, .top, .top, .top, .top, .top, .top, .top, .top, .top, .top, .top, .top, .top], []) | .inr x => (.normal, [.top, .top, .top, .top, .top, .top, .top, .top, .top, .top, .top, .top, .top, .top, .top, .top, .top, .top, .top, .top, .top, .top, .top, .top, .top, .top, .top, .top, .top], []))
def laws_eqFloat32S_l0_kill : List Nat := [0, 0, 1, 1, 1, 0, 1, 1, 1, 1, 1, 1, 1, 1, 1, 1, 1, 1, 1, 1, 1, 1, 1, 1, 1, 1, 1, 1, 1]
def laws_eqFloat32S_l0_nx : Exit → List Nat
  | .exit 0 => [1, 1, 1, 1, 1, 1, 1, 1, 1, 1, 1, 1, 1, 1, 1, 1, 1, 1, 1, 1, 1, 1, 1, 1, 1, 1, 1, 1, 1]
  | .ret => [1, 1, 1, 1, 0, 1, 1, 1, 1, 1, 1, 1, 1, 1, 1, 1, 1, 1, 1, 1, 1, 1, 1, 1, 1, 1, 1, 1, 1]
  | _ => []
noncomputable def laws_eqFloat32S_LO (v186 : List Nat) (v187 : List Nat) : LOr := fun id e L =>
  match id with
  | 0 => .need (normA 0 laws_eqFloat32S_l0_kill e L = some (laws_eqFloat32S_l0_E v186 v187 (gI (vAt e 5)))) (.call (laws_eqFloat32S_l0_g v186 v187 (gI (vAt e 5))) fun x => .sum x (fun b0 => .leaf (laws_eqFloat32S_l0_X v186 v187 (.inl b0))) (fun c0 => .leaf (laws_eqFloat32S_l0_X v186 v187 (.inr c0))))
  | _ => .fail
noncomputable def laws_eqFloat32S_tab : List (FuncId × DFn × Bool) := [(53, laws_sameFloat_F, true)]
theorem laws_eqFloat32S_hO : OrcOk Try.prog (tabD laws_eqFloat32S_tab) (tabM laws_eqFloat32S_tab) := tabD_cons laws_sameFloat_Fok (tabD_nil _)
theorem laws_eqFloat32S_l0_be (v186 : List Nat) (v187 : List Nat) (s : Int) : bodyT TT (tabD laws_eqFloat32S_tab) (tabM laws_eqFloat32S_tab) (laws_eqFloat32S_LO v186 v187) 0 laws_eqFloat32S_l0_kill laws_eqFloat32S_l0_nx (bodyOf Try.f20 0) 0 (laws_eqFloat32S_l0_E v186 v187 s) = (laws_eqFloat32S_l0_T v186 v187 s).bind fun y => .leaf (outS (laws_eqFloat32S_l0_E v186 v187) (laws_eqFloat32S_l0_X v186 v187) y) := by kernel_rfl
theorem laws_eqFloat32S_l0_ok (v186 : List Nat) (v187 : List Nat) : LSound Try.prog 0 (laws_eqFloat32S_LO v186 v187) 0 (bodyOf Try.f20 0) := by
  intro e L out h
  exact lo_ok (E := laws_eqFloat32S_l0_E v186 v187) (gT := laws_eqFloat32S_l0_T v186 v187) (X := laws_eqFloat32S_l0_X v186 v187) (s0 := (gI (vAt e 5))) tok laws_eqFloat32S_hO mixed (LoopsOk_eq (l := []) (by kernel_rfl) trivial) (laws_eqFloat32S_l0_be v186 v187) rfl (by intro x; (cases x with | inl b => rfl | inr x => exact rfl)) h
noncomputable def laws_eqFloat32S_T (v186 : List Nat) (v187 : List Nat) : Tree (Bool) :=
  (.br (!decide (((v186.length : Nat) : Int) = ((v187.length : Nat) : Int))) (
   .leaf false
  ) (
   (.need (some (laws_eqFloat32S_l0_E v186 v187 (0 : Int)) = some (laws_eqFloat32S_l0_E v186 v187 (0 : Int))) <|
   (.call (laws_eqFloat32S_l0_g v186 v187 (0 : Int)) fun v193 =>
   (.sum v193 (fun v194 =>
    .leaf false
   ) (fun v195 =>
    .leaf true
   ))))
  ))

noncomputable def laws_eqFloat32S_g (v186 : List Nat) (v187 : List Nat) : Option (Bool) := (laws_eqFloat32S_T v186 v187).run
def laws_eqFloat32S_enc (v186 : List Nat) (v187 : List Nat) (y : Bool) : Rs := (.bool y, [])
theorem laws_eqFloat32S_den (v186 : List Nat) (v187 : List Nat) : (den TT (tabD laws_eqFloat32S_tab) (tabM laws_eqFloat32S_tab) (laws_eqFloat32S_LO v186 v187) (codeOf Try.f20) ([.bslc (BR.root 0) (.f32 v186), .bslc (BR.root 1) (.f32 v187)] ++ List.replicate (Try.f20.ntmps - ([.bslc (BR.root 0) (.f32 v186), .bslc (BR.root 1) (.f32 v187)] : List DV).length) .undef) []).bind (retD TT Try.f20.results.toList 0) = (laws_eqFloat32S_T v186 v187).bind fun y => .leaf (laws_eqFloat32S_enc v186 v187 y) := by kernel_rfl
theorem laws_eqFloat32S_fn (v186 : List Nat) (v187 : List Nat) (F : Fr) (hm : F.ids.length = 0) (h0 : St F [] F.H0) (hA : DVs.Ok F [] [.bslc (BR.root 0) (.f32 v186), .bslc (BR.root 1) (.f32 v187)]) {y : Bool} (hy : laws_eqFloat32S_g v186 v187 = some y) : ∃ H', FnOk Try.prog 20 (DVs.av F [.bslc (BR.root 0) (.f32 v186), .bslc (BR.root 1) (.f32 v187)]) F.H0 ((laws_eqFloat32S_enc v186 v187 y).1.av F) H' ∧ St F (laws_eqFloat32S_enc v186 v187 y).2 H' ∧ (laws_eqFloat32S_enc v186 v187 y).1.Ok F (laws_eqFloat32S_enc v186 v187 y).2 :=
  fn_fin tok laws_eqFloat32S_hO mixed Try.func20 Try.call20 (by kernel_rfl) (LoopsOk_eq (l := [(0, bodyOf Try.f20 0)]) (by kernel_rfl) ⟨laws_eqFloat32S_l0_ok v186 v187, trivial⟩) (laws_eqFloat32S_den v186 v187) hy hm h0 hA
noncomputable def laws_eqFloat32S_F : DFn := fun args L =>
  match args with
  | [a1, a2] =>
    optT (rowF32 L a1) fun v186 =>
    optT (rowF32 L a2) fun v187 =>
    .call (laws_eqFloat32S_g v186 v187) fun y => .leaf (.bool y, L)
  | _ => .fail
theorem laws_eqFloat32S_Fok : COk Try.prog 20 laws_eqFloat32S_F true := by
  intro F L H args r L' hs ha hr
  unfold laws_eqFloat32S_F at hr
  split at hr
  · rename_i a1 a2
    obtain ⟨v186, hv186, hr⟩ := optT_run hr
    obtain ⟨v187, hv187, hr⟩ := optT_run hr
    simp only [Tree.run] at hr
    obtain ⟨y, hy, hr⟩ := Option.bind_eq_some_iff.1 hr
    simp only [Tree.run, Option.some.injEq, Prod.mk.injEq] at hr
    obtain ⟨rfl, rfl⟩ := hr
    exact call_ok0 hs (fun k => (([a1.av F, a2.av F] : List AV)[k]?).getD .top) [a1, a2] [.bslc (BR.root 0) (.f32 v186), .bslc (BR.root 1) (.f32 v187)] (fun F' h0 hi hρ => ⟨by simp [DVs.av, DV.av, BR.av, hρ], laws_eqFloat32S_fn v186 v187 F' (by rw [hi]; rfl) (st_nil hi) ⟨bslc_ok hi (by rw [h0, hρ]; exact rowF32_ok hs (DVs.okAt ha 0 rfl) hv186), bslc_ok hi (by rw [h0, hρ]; exact rowF32_ok hs (DVs.okAt ha 1 rfl) hv187), trivial⟩ hy⟩) rfl
  · cases hr
/-! laws.eqMatrix -/
noncomputable def laws_eqMatrix_LO (v180 : Int) (v181 : Int) (v182 : List Nat) (v183 : Int) (v184 : Int) (v185 : List Nat) : LOr := fun id e L =>
  match id with
  | _ => .fail
noncomputable def laws_eqMatrix_tab : List (FuncId × DFn × Bool) := [(20, laws_eqFloat32S_F, true)]
theorem laws_eqMatrix_hO : OrcOk Try.prog (tabD laws_eqMatrix_tab) (tabM laws_eqMatrix_tab) := tabD_cons laws_eqFloat32S_Fok (tabD_nil _)
noncomputable def laws_eqMatrix_T (v180 : Int) (v181 : Int) (v182 : List Nat) (v183 : Int) (v184 : Int) (v185 : List Nat) : Tree (Bool) :=
  (.br (!decide (v180 = v183)) (
   .leaf false
  ) (
   (.br (!decide (v181 = v184)) (
    .leaf false
   ) (
    (.call (laws_eqFloat32S_g v182 v185) fun v196 =>
    (.br (!v196) (
     .leaf false
    ) (
     .leaf true
    )))
   ))
  ))

noncomputable def laws_eqMatrix_g (v180 : Int) (v181 : Int) (v182 : List Nat) (v183 : Int) (v184 : Int) (v185 : List Nat) : Option (Bool) := (laws_eqMatrix_T v180 v181 v182 v183 v184 v185).run
def laws_eqMatrix_enc (v180 : Int) (v181 : Int) (v182 : List Nat) (v183 : Int) (v184 : Int) (v185 : List Nat) (y : Bool) : Rs := (.bool y, [])
theorem laws_eqMatrix_den (v180 : Int) (v181 : Int) (v182 : List Nat) (v183 : Int) (v184 : Int) (v185 : List Nat) : (den TT (tabD laws_eqMatrix_tab) (tabM laws_eqMatrix_tab) (laws_eqMatrix_LO v180 v181 v182 v183 v184 v185) (codeOf Try.f33) ([.agg [.int .i64 v180, .int .i64 v181, .bslc (BR.root 0) (.f32 v182)], .agg [.int .i64 v183, .int .i64 v184, .bslc (BR.root 1) (.f32 v185)]] ++ List.replicate (Try.f33.ntmps - ([.agg [.int .i64 v180, .int .i64 v181, .bslc (BR.root 0) (.f32 v182)], .agg [.int .i64 v183, .int .i64 v184, .bslc (BR.root 1) (.f32 v185)]] : List DV).length) .undef) []).bind (retD TT Try.f33.results.toList 0) = (laws_eqMatrix_T v180 v181 v182 v183 v184 v185).bind fun y => .leaf (laws_eqMatrix_enc v180 v181 v182 v183 v184 v185 y) := by kernel_rfl
theorem laws_eqMatrix_fn (v180 : Int) (v181 : Int) (v182 : List Nat) (v183 : Int) (v184 : Int) (v185 : List Nat) (F : Fr) (hm : F.ids.length = 0) (h0 : St F [] F.H0) (hA : DVs.Ok F [] [.agg [.int .i64 v180, .int .i64 v181, .bslc (BR.root 0) (.f32 v182)], .agg [.int .i64 v183, .int .i64 v184, .bslc (BR.root 1) (.f32 v185)]]) {y : Bool} (hy : laws_eqMatrix_g v180 v181 v182 v183 v184 v185 = some y) : ∃ H', FnOk Try.prog 33 (DVs.av F [.agg [.int .i64 v180, .int .i64 v181, .bslc (BR.root 0) (.f32 v182)], .agg [.int .i64 v183, .int .i64 v184, .bslc (BR.root 1) (.f32 v185)]]) F.H0 ((laws_eqMatrix_enc v180 v181 v182 v183 v184 v185 y).1.av F) H' ∧ St F (laws_eqMatrix_enc v180 v181 v182 v183 v184 v185 y).2 H' ∧ (laws_eqMatrix_enc v180 v181 v182 v183 v184 v185 y).1.Ok F (laws_eqMatrix_enc v180 v181 v182 v183 v184 v185 y).2 :=
  fn_fin tok laws_eqMatrix_hO mixed Try.func33 Try.call33 (by kernel_rfl) (LoopsOk_eq (l := []) (by kernel_rfl) trivial) (laws_eqMatrix_den v180 v181 v182 v183 v184 v185) hy hm h0 hA
noncomputable def laws_eqMatrix_F : DFn := fun args L =>
  match args with
  | [.agg [.int .i64 v180, .int .i64 v181, a1], .agg [.int .i64 v183, .int .i64 v184, a2]] =>
    optT (rowF32 L a1) fun v182 =>
    optT (rowF32 L a2) fun v185 =>
    .call (laws_eqMatrix_g v180 v181 v182 v183 v184 v185) fun y => .leaf (.bool y, L)
  | _ => .fail
theorem laws_eqMatrix_Fok : COk Try.prog 33 laws_eqMatrix_F true := by
  intro F L H args r L' hs ha hr
  unfold laws_eqMatrix_F at hr
  split at hr
  · rename_i v180 v181 a1 v183 v184 a2
    obtain ⟨v182, hv182, hr⟩ := optT_run hr
    obtain ⟨v185, hv185, hr⟩ := optT_run hr
    simp only [Tree.run] at hr
    obtain ⟨y, hy, hr⟩ := Option.bind_eq_some_iff.1 hr
    simp only [Tree.run, Option.some.injEq, Prod.mk.injEq] at hr
    obtain ⟨rfl, rfl⟩ := hr
    exact call_ok0 hs (fun k => (([a1.av F, a2.av F] : List AV)[k]?).getD .top) [.agg [.int .i64 v180, .int .i64 v181, a1], .agg [.int .i64 v183, .int .i64 v184, a2]] [.agg [.int .i64 v180, .int .i64 v181, .bslc (BR.root 0) (.f32 v182)], .agg [.int .i64 v183, .int .i64 v184, .bslc (BR.root 1) (.f32 v185)]] (fun F' h0 hi hρ => ⟨by simp [DVs.av, DV.av, BR.av, hρ], laws_eqMatrix_fn v180 v181 v182 v183 v184 v185 F' (by rw [hi]; rfl) (st_nil hi) ⟨⟨trivial, trivial, bslc_ok hi (by rw [h0, hρ]; exact rowF32_ok hs (DVs.okAt (DVs.okAt ha 0 rfl) 2 rfl) hv182), trivial⟩, ⟨trivial, trivial, bslc_ok hi (by rw [h0, hρ]; exact rowF32_ok hs (DVs.okAt (DVs.okAt ha 1 rfl) 2 rfl) hv185), trivial⟩, trivial⟩ hy⟩) rfl
  · cases hr
/-! laws.markFloat32S -/
noncomputable def laws_markFloat32S_l0_T (s : Int × Int × (List Nat)) : Tree ((Int × Int × (List Nat)) ⊕ (Int × (List Nat))) :=
  (.br (decide (s.2.1 < (((s.2.2).length : Nat) : Int))) (
   (.grd (inb s.2.1 ((s.2.2).length)) <|
   .leaf (.inl (IntKind.i64.wrap (s.1 + (1 : Int)), IntKind.i64.wrap (s.2.1 + (1 : Int)), List.set s.2.2 (Int.toNat s.2.1) (fofint .f32 s.1))))
  ) (
   .leaf (.inr (s.1, s.2.2))
  ))

noncomputable def laws_markFloat32S_l0_g (s0 : Int × Int × (List Nat)) : Option (Int × (List Nat)) := whileM (fun s => (laws_markFloat32S_l0_T s).run) s0
def laws_markFloat32S_l0_E (v206 : List Nat) (v207 : Int) (s : Int × Int × (List Nat)) : Sd := ([.own 0 0 ((s.2.2).length), .int .i64 s.1, .top, .top, .top, .int .i64 s.2.1, .top, .top, .top, .top, .top, .top, .top, .top, .top, .top, .top, .top, .top, .top], [.row (.f32 s.2.2) 0])
def laws_markFloat32S_l0_X (v206 : List Nat) (v207 : Int) (x : Int × (List Nat)) : Out := (.normal, [.top, .int .i64 x.1, .top, .top, .top, .top, .top, .top, .top, .top, .top, .top, .top, .top, .top, .top, .top, .top, .top, .top], [.row (.f32 x.2) 0])
def laws_markFloat32S_l0_kill : List Nat := [0, 0, 1, 1, 1, 0, 1, 1, 1, 1, 1, 1, 1, 1, 1, 1, 1, 1, 1, 1]
def laws_markFloat32S_l0_nx : Exit → List Nat
  | .exit 0 => [1, 0, 1, 1, 1, 1, 1, 1, 1, 1, 1, 1, 1, 1, 1, 1, 1, 1, 1, 1]
  | .ret => [1, 1, 1, 1, 0, 1, 1, 1, 1, 1, 1, 1, 1, 1, 1, 1, 1, 1, 1, 1]
  | _ => []
noncomputable def laws_markFloat32S_LO (v206 : List Nat) (v207 : Int) : LOr := fun id e L =>
  match id with
  | 0 => .need (normA 1 laws_markFloat32S_l0_kill e L = some (laws_markFloat32S_l0_E v206 v207 ((gI (vAt e 1)), (gI (vAt e 5)), (gRF L (vAt e 0))))) (.call (laws_markFloat32S_l0_g ((gI (vAt e 1)), (gI (vAt e 5)), (gRF L (vAt e 0)))) fun x => .leaf (laws_markFloat32S_l0_X v206 v207 x))
  | _ => .fail
noncomputable def laws_markFloat32S_tab : List (FuncId × DFn × Bool) := []
theorem laws_markFloat32S_hO : OrcOk Try.prog (tabD laws_markFloat32S_tab) (tabM laws_markFloat32S_tab) := tabD_nil _
theorem laws_markFloat32S_l0_be (v206 : List Nat) (v207 : Int) (s : Int × Int × (List Nat)) : bodyT TT (tabD laws_markFloat32S_tab) (tabM laws_markFloat32S_tab) (laws_markFloat32S_LO v206 v207) 1 laws_markFloat32S_l0_kill laws_markFloat32S_l0_nx (bodyOf Try.f23 0) 0 (laws_markFloat32S_l0_E v206 v207 s) = (laws_markFloat32S_l0_T s).bind fun y => .leaf (outS (laws_markFloat32S_l0_E v206 v207) (laws_markFloat32S_l0_X v206 v207) y) := by kernel_rfl
theorem laws_markFloat32S_l0_ok (v206 : List Nat) (v207 : Int) : LSound Try.prog 1 (laws_markFloat32S_LO v206 v207) 0 (bodyOf Try.f23 0) := by
  intro e L out h
  exact lo_ok (E := laws_markFloat32S_l0_E v206 v207) (gT := laws_markFloat32S_l0_T) (X := laws_markFloat32S_l0_X v206 v207) (s0 := ((gI (vAt e 1)), (gI (vAt e 5)), (gRF L (vAt e 0)))) tok laws_markFloat32S_hO mixed (LoopsOk_eq (l := []) (by kernel_rfl) trivial) (laws_markFloat32S_l0_be v206 v207) rfl (by intro x; rfl) h
noncomputable def laws_markFloat32S_T (v206 : List Nat) (v207 : Int) : Tree (Int × (List Nat)) :=
  (.need (some (laws_markFloat32S_l0_E v206 v207 (v207, (0 : Int), v206)) = some (laws_markFloat32S_l0_E v206 v207 (v207, (0 : Int), v206))) <|
  (.call (laws_markFloat32S_l0_g (v207, (0 : Int), v206)) fun v216 =>
  .leaf (v216.1, v216.2)))

noncomputable def laws_markFloat32S_g (v206 : List Nat) (v207 : Int) : Option (Int × (List Nat)) := (laws_markFloat32S_T v206 v207).run
def laws_markFloat32S_enc (v206 : List Nat) (v207 : Int) (y : Int × (List Nat)) : Rs := (.int .i64 y.1, [.row (.f32 y.2) 0])
theorem laws_markFloat32S_den (v206 : List Nat) (v207 : Int) : (den TT (tabD laws_markFloat32S_tab) (tabM laws_markFloat32S_tab) (laws_markFloat32S_LO v206 v207) (codeOf Try.f23) ([.own 0 0 v206.length, .int .i64 v207] ++ List.replicate (Try.f23.ntmps - ([.own 0 0 v206.length, .int .i64 v207] : List DV).length) .undef) [.row (.f32 v206) 0]).bind (retD TT Try.f23.results.toList 1) = (laws_markFloat32S_T v206 v207).bind fun y => .leaf (laws_markFloat32S_enc v206 v207 y) := by kernel_rfl
theorem laws_markFloat32S_fn (v206 : List Nat) (v207 : Int) (F : Fr) (hm : F.ids.length = 1) (h0 : St F [.row (.f32 v206) 0] F.H0) (hA : DVs.Ok F [.row (.f32 v206) 0] [.own 0 0 v206.length, .int .i64 v207]) {y : Int × (List Nat)} (hy : laws_markFloat32S_g v206 v207 = some y) : ∃ H', FnOk Try.prog 23 (DVs.av F [.own 0 0 v206.length, .int .i64 v207]) F.H0 ((laws_markFloat32S_enc v206 v207 y).1.av F) H' ∧ St F (laws_markFloat32S_enc v206 v207 y).2 H' ∧ (laws_markFloat32S_enc v206 v207 y).1.Ok F (laws_markFloat32S_enc v206 v207 y).2 :=
  fn_fin tok laws_markFloat32S_hO mixed Try.func23 Try.call23 (by kernel_rfl) (LoopsOk_eq (l := [(0, bodyOf Try.f23 0)]) (by kernel_rfl) ⟨laws_markFloat32S_l0_ok v206 v207, trivial⟩) (laws_markFloat32S_den v206 v207) hy hm h0 hA
noncomputable def laws_markFloat32S_F : DFn := fun args L =>
  match args with
  | [a1, .int .i64 v207] =>
    optT (ownF32 L a1) fun qv206 =>
    (match sepB [qv206.1] [] with
    | true =>
    .call (laws_markFloat32S_g qv206.2 v207) fun y => .grd (decide (y.2.length = qv206.2.length)) (.leaf (.int .i64 y.1, setRows L ([qv206.1].zip [.f32 y.2])))
    | false => .fail)
  | _ => .fail
theorem laws_markFloat32S_Fok : COk Try.prog 23 laws_markFloat32S_F false := by
  intro F L H args r L' hs ha hr
  unfold laws_markFloat32S_F at hr
  split at hr
  · rename_i a1 v207
    obtain ⟨⟨jv206, v206⟩, hqv206, hr⟩ := optT_run hr
    simp only at hr
    split at hr
    · rename_i hsep
      obtain ⟨hnd, hsepv⟩ := sepB_spec hsep
      simp only [Tree.run] at hr
      obtain ⟨y, hy, hr⟩ := Option.bind_eq_some_iff.1 hr
      try simp only [Tree.run] at hr
      obtain ⟨hl0, hr⟩ := ite_run hr
      simp only [Option.some.injEq, Prod.mk.injEq] at hr
      obtain ⟨rfl, rfl⟩ := hr
      obtain ⟨hr0, hu0, ha0, hb0⟩ := (ownR_spec (DVs.okAt ha 0 rfl) (ownF32_or hqv206))
      exact mut_ok hs (fun k => (([a1.av F] : List AV)[k]?).getD .top) [a1, .int .i64 v207] [.own 0 0 v206.length, .int .i64 v207] [jv206] [.f32 v206] [.f32 y.2] hnd rfl rfl (fun i j q h1 h2 => by
          rcases i with _ | i
          · simp at h1 h2; subst h1; subst h2; exact hr0
          · simp at h1) (fun i q q' h1 h2 => by
          rcases i with _ | i
          · simp at h1 h2; subst h1; subst h2; exact of_decide_eq_true hl0
          · simp at h1) (fun j hj => by simp at hj; subst hj; simp [DVs.refs, DV.refs, hu0]) (fun F' h0 hi hρ hst hS => ⟨by (have ab0 : F'.abs 0 = F.abs jv206 := (by simp [Fr.abs, hi]); simp [DVs.av, DV.av, BR.av, hρ, Row.len, ha0, ab0]), by
          obtain ⟨H1, k1, k2, _⟩ := laws_markFloat32S_fn v206 v207 F' (by rw [hi]; rfl) hst ⟨⟨_, rfl, Nat.le_refl _, Nat.le_refl _, fun _ => rfl, (ownR_spec (DVs.okAt ha 0 rfl) (ownF32_or hqv206)).2.2.2⟩, trivial, trivial⟩ hy
          exact ⟨H1, k1, k2⟩⟩) (fun F' => rfl) (fun L' => trivial)
    · cases hr
  · cases hr
/-! laws.markMatrix -/
noncomputable def laws_markMatrix_LO (v217 : Int) (v218 : Int) (v219 : List Nat) (v220 : Int) : LOr := fun id e L =>
  match id with
  | _ => .fail
noncomputable def laws_markMatrix_tab : List (FuncId × DFn × Bool) := [(23, laws_markFloat32S_F, false)]
theorem laws_markMatrix_hO : OrcOk Try.prog (tabD laws_markMatrix_tab) (tabM laws_markMatrix_tab) := tabD_cons laws_markFloat32S_Fok (tabD_nil _)
noncomputable def laws_markMatrix_T (v219 : List Nat) (v220 : Int) : Tree (Int × (List Nat)) :=
  (.call (laws_markFloat32S_g v219 v220) fun v221 =>
  (.grd (decide (v221.2.length = v219.length)) <|
  .leaf (v221.1, v221.2)))

noncomputable def laws_markMatrix_g (v219 : List Nat) (v220 : Int) : Option (Int × (List Nat)) := (laws_markMatrix_T v219 v220).run
def laws_markMatrix_enc (v217 : Int) (v218 : Int) (v219 : List Nat) (v220 : Int) (y : Int × (List Nat)) : Rs := (.int .i64 y.1, [.row (.f32 y.2) 0])
theorem laws_markMatrix_den (v217 : Int) (v218 : Int) (v219 : List Nat) (v220 : Int) : (den TT (tabD laws_markMatrix_tab) (tabM laws_markMatrix_tab) (laws_markMatrix_LO v217 v218 v219 v220) (codeOf Try.f34) ([.agg [.int .i64 v217, .int .i64 v218, .own 0 0 v219.length], .int .i64 v220] ++ List.replicate (Try.f34.ntmps - ([.agg [.int .i64 v217, .int .i64 v218, .own 0 0 v219.length], .int .i64 v220] : List DV).length) .undef) [.row (.f32 v219) 0]).bind (retD TT Try.f34.results.toList 1) = (laws_markMatrix_T v219 v220).bind fun y => .leaf (laws_markMatrix_enc v217 v218 v219 v220 y) := by kernel_rfl
theorem laws_markMatrix_fn (v217 : Int) (v218 : Int) (v219 : List Nat) (v220 : Int) (F : Fr) (hm : F.ids.length = 1) (h0 : St F [.row (.f32 v219) 0] F.H0) (hA : DVs.Ok F [.row (.f32 v219) 0] [.agg [.int .i64 v217, .int .i64 v218, .own 0 0 v219.length], .int .i64 v220]) {y : Int × (List Nat)} (hy : laws_markMatrix_g v219 v220 = some y) : ∃ H', FnOk Try.prog 34 (DVs.av F [.agg [.int .i64 v217, .int .i64 v218, .own 0 0 v219.length], .int .i64 v220]) F.H0 ((laws_markMatrix_enc v217 v218 v219 v220 y).1.av F) H' ∧ St F (laws_markMatrix_enc v217 v218 v219 v220 y).2 H' ∧ (laws_markMatrix_enc v217 v218 v219 v220 y).1.Ok F (laws_markMatrix_enc v217 v218 v219 v220 y).2 :=
  fn_fin tok laws_markMatrix_hO mixed Try.func34 Try.call34 (by kernel_rfl) (LoopsOk_eq (l := []) (by kernel_rfl) trivial) (laws_markMatrix_den v217 v218 v219 v220) hy hm h0 hA
noncomputable def laws_markMatrix_F : DFn := fun args L =>
  match args with
  | [.agg [.int .i64 v217, .int .i64 v218, a1], .int .i64 v220] =>
    optT (ownF32 L a1) fun qv219 =>
    (match sepB [qv219.1] [] with
    | true =>
    .call (laws_markMatrix_g qv219.2 v220) fun y => .grd (decide (y.2.length = qv219.2.length)) (.leaf (.int .i64 y.1, setRows L ([qv219.1].zip [.f32 y.2])))
    | false => .fail)
  | _ => .fail
theorem laws_markMatrix_Fok : COk Try.prog 34 laws_markMatrix_F false := by
  intro F L H args r L' hs ha hr
  unfold laws_markMatrix_F at hr
  split at hr
  · rename_i v217 v218 a1 v220
    obtain ⟨⟨jv219, v219⟩, hqv219, hr⟩ := optT_run hr
    simp only at hr
    split at hr
    · rename_i hsep
      obtain ⟨hnd, hsepv⟩ := sepB_spec hsep
      simp only [Tree.run] at hr
      obtain ⟨y, hy, hr⟩ := Option.bind_eq_some_iff.1 hr
      try simp only [Tree.run] at hr
      obtain ⟨hl0, hr⟩ := ite_run hr
      simp only [Option.some.injEq, Prod.mk.injEq] at hr
      obtain ⟨rfl, rfl⟩ := hr
      obtain ⟨hr0, hu0, ha0, hb0⟩ := (ownR_spec (DVs.okAt (DVs.okAt ha 0 rfl) 2 rfl) (ownF32_or hqv219))
      exact mut_ok hs (fun k => (([a1.av F] : List AV)[k]?).getD .top) [.agg [.int .i64 v217, .int .i64 v218, a1], .int .i64 v220] [.agg [.int .i64 v217, .int .i64 v218, .own 0 0 v219.length], .int .i64 v220] [jv219] [.f32 v219] [.f32 y.2] hnd rfl rfl (fun i j q h1 h2 => by
          rcases i with _ | i
          · simp at h1 h2; subst h1; subst h2; exact hr0
          · simp at h1) (fun i q q' h1 h2 => by
          rcases i with _ | i
          · simp at h1 h2; subst h1; subst h2; exact of_decide_eq_true hl0
          · simp at h1) (fun j hj => by simp at hj; subst hj; simp [DVs.refs, DV.refs, hu0]) (fun F' h0 hi hρ hst hS => ⟨by (have ab0 : F'.abs 0 = F.abs jv219 := (by simp [Fr.abs, hi]); simp [DVs.av, DV.av, BR.av, hρ, Row.len, ha0, ab0]), by
          obtain ⟨H1, k1, k2, _⟩ := laws_markMatrix_fn v217 v218 v219 v220 F' (by rw [hi]; rfl) hst ⟨⟨trivial, trivial, ⟨_, rfl, Nat.le_refl _, Nat.le_refl _, fun _ => rfl, (ownR_spec (DVs.okAt (DVs.okAt ha 0 rfl) 2 rfl) (ownF32_or hqv219)).2.2.2⟩, trivial⟩, trivial, trivial⟩ hy
          exact ⟨H1, k1, k2⟩⟩) (fun F' => rfl) (fun L' => trivial)
    · cases hr
  · cases hr
/-! laws.markInt64S -/
noncomputable def laws_markInt64S_l0_T (s : Int × Int × (List Int)) : Tree ((Int × Int × (List Int)) ⊕ (Int × (List Int))) :=
  (.br (decide (s.2.1 < (((s.2.2).length : Nat) : Int))) (
   (.grd (inb s.2.1 ((s.2.2).length)) <|
   .leaf (.inl (IntKind.i64.wrap (s.1 + (1 : Int)), IntKind.i64.wrap (s.2.1 + (1 : Int)), List.set s.2.2 (Int.toNat s.2.1) s.1)))
  ) (
   .leaf (.inr (s.1, s.2.2))
  ))

noncomputable def laws_markInt64S_l0_g (s0 : Int × Int × (List Int)) : Option (Int × (List Int)) := whileM (fun s => (laws_markInt64S_l0_T s).run) s0
def laws_markInt64S_l0_E (v232 : List Int) (v233 : Int) (s : Int × Int × (List Int)) : Sd := ([.own 0 0 ((s.2.2).length), .int .i64 s.1, .top, .top, .top, .int .i64 s.2.1, .top, .top, .top, .top, .top, .top, .top, .top, .top, .top, .top, .top, .top], [.row (.i64 s.2.2) 0])
def laws_markInt64S_l0_X (v232 : List Int) (v233 : Int) (x : Int × (List Int)) : Out := (.normal, [.top, .int .i64 x.1, .top, .top, .top, .top, .top, .top, .top, .top, .top, .top, .top, .top, .top, .top, .top, .top, .top], [.row (.i64 x.2) 0])
def laws_markInt64S_l0_kill : List Nat := [0, 0, 1, 1, 1, 0, 1, 1, 1, 1, 1, 1, 1, 1, 1, 1, 1, 1, 1]
def laws_markInt64S_l0_nx : Exit → List Nat
  | .exit 0 => [1, 0, 1, 1, 1, 1, 1, 1, 1, 1, 1, 1, 1, 1, 1, 1, 1, 1, 1]
  | .ret => [1, 1, 1, 1, 0, 1, 1, 1, 1, 1, 1, 1, 1, 1, 1, 1, 1, 1, 1]
  | _ => []
noncomputable def laws_markInt64S_LO (v232 : List Int) (v233 : Int) : LOr := fun id e L =>
  match id with
  | 0 => .need (normA 1 laws_markInt64S_l0_kill e L = some (laws_markInt64S_l0_E v232 v233 ((gI (vAt e 1)), (gI (vAt e 5)), (gRI L (vAt e 0))))) (.call (laws_markInt64S_l0_g ((gI (vAt e 1)), (gI (vAt e 5)), (gRI L (vAt e 0)))) fun x => .leaf (laws_markInt64S_l0_X v232 v233 x))
  | _ => .fail
noncomputable def laws_markInt64S_tab : List (FuncId × DFn × Bool) := []
theorem laws_markInt64S_hO : OrcOk Try.prog (tabD laws_markInt64S_tab) (tabM laws_markInt64S_tab) := tabD_nil _
theorem laws_markInt64S_l0_be (v232 : List Int) (v233 : Int) (s : Int × Int × (List Int)) : bodyT TT (tabD laws_markInt64S_tab) (tabM laws_markInt64S_tab) (laws_markInt64S_LO v232 v233) 1 laws_markInt64S_l0_kill laws_markInt64S_l0_nx (bodyOf Try.f45 0) 0 (laws_markInt64S_l0_E v232 v233 s) = (laws_markInt64S_l0_T s).bind fun y => .leaf (outS (laws_markInt64S_l0_E v232 v233) (laws_markInt64S_l0_X v232 v233) y) := by kernel_rfl
theorem laws_markInt64S_l0_ok (v232 : List Int) (v233 : Int) : LSound Try.prog 1 (laws_markInt64S_LO v232 v233) 0 (bodyOf Try.f45 0) := by
  intro e L out h
  exact lo_ok (E := laws_markInt64S_l0_E v232 v233) (gT := laws_markInt64S_l0_T) (X := laws_markInt64S_l0_X v232 v233) (s0 := ((gI (vAt e 1)), (gI (vAt e 5)), (gRI L (vAt e 0)))) tok laws_markInt64S_hO mixed (LoopsOk_eq (l := []) (by kernel_rfl) trivial) (laws_markInt64S_l0_be v232 v233) rfl (by intro x; rfl) h
noncomputable def laws_markInt64S_T (v232 : List Int) (v233 : Int) : Tree (Int × (List Int)) :=
  (.need (some (laws_markInt64S_l0_E v232 v233 (v233, (0 : Int), v232)) = some (laws_markInt64S_l0_E v232 v233 (v233, (0 : Int), v232))) <|
  (.call (laws_markInt64S_l0_g (v233, (0 : Int), v232)) fun v242 =>
  .leaf (v242.1, v242.2)))

noncomputable def laws_markInt64S_g (v232 : List Int) (v233 : Int) : Option (Int × (List Int)) := (laws_markInt64S_T v232 v233).run
def laws_markInt64S_enc (v232 : List Int) (v233 : Int) (y : Int × (List Int)) : Rs := (.int .i64 y.1, [.row (.i64 y.2) 0])
theorem laws_markInt64S_den (v232 : List Int) (v233 : Int) : (den TT (tabD laws_markInt64S_tab) (tabM laws_markInt64S_tab) (laws_markInt64S_LO v232 v233) (codeOf Try.f45) ([.own 0 0 v232.length, .int .i64 v233] ++ List.replicate (Try.f45.ntmps - ([.own 0 0 v232.length, .int .i64 v233] : List DV).length) .undef) [.row (.i64 v232) 0]).bind (retD TT Try.f45.results.toList 1) = (laws_markInt64S_T v232 v233).bind fun y => .leaf (laws_markInt64S_enc v232 v233 y) := by kernel_rfl
theorem laws_markInt64S_fn (v232 : List Int) (v233 : Int) (F : Fr) (hm : F.ids.length = 1) (h0 : St F [.row (.i64 v232) 0] F.H0) (hA : DVs.Ok F [.row (.i64 v232) 0] [.own 0 0 v232.length, .int .i64 v233]) {y : Int × (List Int)} (hy : laws_markInt64S_g v232 v233 = some y) : ∃ H', FnOk Try.prog 45 (DVs.av F [.own 0 0 v232.length, .int .i64 v233]) F.H0 ((laws_markInt64S_enc v232 v233 y).1.av F) H' ∧ St F (laws_markInt64S_enc v232 v233 y).2 H' ∧ (laws_markInt64S_enc v232 v233 y).1.Ok F (laws_markInt64S_enc v232 v233 y).2 :=
  fn_fin tok laws_markInt64S_hO mixed Try.func45 Try.call45 (by kernel_rfl) (LoopsOk_eq (l := [(0, bodyOf Try.f45 0)]) (by kernel_rfl) ⟨laws_markInt64S_l0_ok v232 v233, trivial⟩) (laws_markInt64S_den v232 v233) hy hm h0 hA
noncomputable def laws_markInt64S_F : DFn := fun args L =>
  match args with
  | [a1, .int .i64 v233] =>
    optT (ownI64 L a1) fun qv232 =>
    (match sepB [qv232.1] [] with
    | true =>
    .call (laws_markInt64S_g qv232.2 v233) fun y => .grd (decide (y.2.length = qv232.2.length)) (.leaf (.int .i64 y.1, setRows L ([qv232.1].zip [.i64 y.2])))
    | false => .fail)
  | _ => .fail
theorem laws_markInt64S_Fok : COk Try.prog 45 laws_markInt64S_F false := by
  intro F L H args r L' hs ha hr
  unfold laws_markInt64S_F at hr
  split at hr
  · rename_i a1 v233
    obtain ⟨⟨jv232, v232⟩, hqv232, hr⟩ := optT_run hr
    simp only at hr
    split at hr
    · rename_i hsep
      obtain ⟨hnd, hsepv⟩ := sepB_spec hsep
      simp only [Tree.run] at hr
      obtain ⟨y, hy, hr⟩ := Option.bind_eq_some_iff.1 hr
      try simp only [Tree.run] at hr
      obtain ⟨hl0, hr⟩ := ite_run hr
      simp only [Option.some.injEq, Prod.mk.injEq] at hr
      obtain ⟨rfl, rfl⟩ := hr
      obtain ⟨hr0, hu0, ha0, hb0⟩ := (ownR_spec (DVs.okAt ha 0 rfl) (ownI64_or hqv232))
      exact mut_ok hs (fun k => (([a1.av F] : List AV)[k]?).getD .top) [a1, .int .i64 v233] [.own 0 0 v232.length, .int .i64 v233] [jv232] [.i64 v232] [.i64 y.2] hnd rfl rfl (fun i j q h1 h2 => by
          rcases i with _ | i
          · simp at h1 h2; subst h1; subst h2; exact hr0
          · simp at h1) (fun i q q' h1 h2 => by
          rcases i with _ | i
          · simp at h1 h2; subst h1; subst h2; exact of_decide_eq_true hl0
          · simp at h1) (fun j hj => by simp at hj; subst hj; simp [DVs.refs, DV.refs, hu0]) (fun F' h0 hi hρ hst hS => ⟨by (have ab0 : F'.abs 0 = F.abs jv232 := (by simp [Fr.abs, hi]); simp [DVs.av, DV.av, BR.av, hρ, Row.len, ha0, ab0]), by
          obtain ⟨H1, k1, k2, _⟩ := laws_markInt64S_fn v232 v233 F' (by rw [hi]; rfl) hst ⟨⟨_, rfl, Nat.le_refl _, Nat.le_refl _, fun _ => rfl, (ownR_spec (DVs.okAt ha 0 rfl) (ownI64_or hqv232)).2.2.2⟩, trivial, trivial⟩ hy
          exact ⟨H1, k1, k2⟩⟩) (fun F' => rfl) (fun L' => trivial)
    · cases hr
  · cases hr
/-! laws.markWhole -/
noncomputable def laws_markWhole_LO (v243 : Int) (v244 : Int) (v245 : List Int) (v246 : Int) : LOr := fun id e L =>
  match id with
  | _ => .fail
noncomputable def laws_markWhole_tab : List (FuncId × DFn × Bool) := [(45, laws_markInt64S_F, false)]
theorem laws_markWhole_hO : OrcOk Try.prog (tabD laws_markWhole_tab) (tabM laws_markWhole_tab) := tabD_cons laws_markInt64S_Fok (tabD_nil _)
noncomputable def laws_markWhole_T (v245 : List Int) (v246 : Int) : Tree (Int × (List Int)) :=
  (.call (laws_markInt64S_g v245 v246) fun v247 =>
  (.grd (decide (v247.2.length = v245.length)) <|
  .leaf (v247.1, v247.2)))

noncomputable def laws_markWhole_g (v245 : List Int) (v246 : Int) : Option (Int × (List Int)) := (laws_markWhole_T v245 v246).run
def laws_markWhole_enc (v243 : Int) (v244 : Int) (v245 : List Int) (v246 : Int) (y : Int × (List Int)) : Rs := (.int .i64 y.1, [.row (.i64 y.2) 0])
theorem laws_markWhole_den (v243 : Int) (v244 : Int) (v245 : List Int) (v246 : Int) : (den TT (tabD laws_markWhole_tab) (tabM laws_markWhole_tab) (laws_markWhole_LO v243 v244 v245 v246) (codeOf Try.f39) ([.agg [.int .i64 v243, .int .i64 v244, .own 0 0 v245.length], .int .i64 v246] ++ List.replicate (Try.f39.ntmps - ([.agg [.int .i64 v243, .int .i64 v244, .own 0 0 v245.length], .int .i64 v246] : List DV).length) .undef) [.row (.i64 v245) 0]).bind (retD TT Try.f39.results.toList 1) = (laws_markWhole_T v245 v246).bind fun y => .leaf (laws_markWhole_enc v243 v244 v245 v246 y) := by kernel_rfl
theorem laws_markWhole_fn (v243 : Int) (v244 : Int) (v245 : List Int) (v246 : Int) (F : Fr) (hm : F.ids.length = 1) (h0 : St F [.row (.i64 v245) 0] F.H0) (hA : DVs.Ok F [.row (.i64 v245) 0] [.agg [.int .i64 v243, .int .i64 v244, .own 0 0 v245.length], .int .i64 v246]) {y : Int × (List Int)} (hy : laws_markWhole_g v245 v246 = some y) : ∃ H', FnOk Try.prog 39 (DVs.av F [.agg [.int .i64 v243, .int .i64 v244, .own 0 0 v245.length], .int .i64 v246]) F.H0 ((laws_markWhole_enc v243 v244 v245 v246 y).1.av F) H' ∧ St F (laws_markWhole_enc v243 v244 v245 v246 y).2 H' ∧ (laws_markWhole_enc v243 v244 v245 v246 y).1.Ok F (laws_markWhole_enc v243 v244 v245 v246 y).2 :=
  fn_fin tok laws_markWhole_hO mixed Try.func39 Try.call39 (by kernel_rfl) (LoopsOk_eq (l := []) (by kernel_rfl) trivial) (laws_markWhole_den v243 v244 v245 v246) hy hm h0 hA
noncomputable def laws_markWhole_F : DFn := fun args L =>
  match args with
  | [.agg [.int .i64 v243, .int .i64 v244, a1], .int .i64 v246] =>
    optT (ownI64 L a1) fun qv245 =>
    (match sepB [qv245.1] [] with
    | true =>
    .call (laws_markWhole_g qv245.2 v246) fun y => .grd (decide (y.2.length = qv245.2.length)) (.leaf (.int .i64 y.1, setRows L ([qv245.1].zip [.i64 y.2])))
    | false => .fail)
  | _ => .fail
theorem laws_markWhole_Fok : COk Try.prog 39 laws_markWhole_F false := by
  intro F L H args r L' hs ha hr
  unfold laws_markWhole_F at hr
  split at hr
  · rename_i v243 v244 a1 v246
    obtain ⟨⟨jv245, v245⟩, hqv245, hr⟩ := optT_run hr
    simp only at hr
    split at hr
    · rename_i hsep
      obtain ⟨hnd, hsepv⟩ := sepB_spec hsep
      simp only [Tree.run] at hr
      obtain ⟨y, hy, hr⟩ := Option.bind_eq_some_iff.1 hr
      try simp only [Tree.run] at hr
      obtain ⟨hl0, hr⟩ := ite_run hr
      simp only [Option.some.injEq, Prod.mk.injEq] at hr
      obtain ⟨rfl, rfl⟩ := hr
      obtain ⟨hr0, hu0, ha0, hb0⟩ := (ownR_spec (DVs.okAt (DVs.okAt ha 0 rfl) 2 rfl) (ownI64_or hqv245))
      exact mut_ok hs (fun k => (([a1.av F] : List AV)[k]?).getD .top) [.agg [.int .i64 v243, .int .i64 v244, a1], .int .i64 v246] [.agg [.int .i64 v243, .int .i64 v244, .own 0 0 v245.length], .int .i64 v246] [jv245] [.i64 v245] [.i64 y.2] hnd rfl rfl (fun i j q h1 h2 => by
          rcases i with _ | i
          · simp at h1 h2; subst h1; subst h2; exact hr0
          · simp at h1) (fun i q q' h1 h2 => by
          rcases i with _ | i
          · simp at h1 h2; subst h1; subst h2; exact of_decide_eq_true hl0
          · simp at h1) (fun j hj => by simp at hj; subst hj; simp [DVs.refs, DV.refs, hu0]) (fun F' h0 hi hρ hst hS => ⟨by (have ab0 : F'.abs 0 = F.abs jv245 := (by simp [Fr.abs, hi]); simp [DVs.av, DV.av, BR.av, hρ, Row.len, ha0, ab0]), by
          obtain ⟨H1, k1, k2, _⟩ := laws_markWhole_fn v243 v244 v245 v246 F' (by rw [hi]; rfl) hst ⟨⟨trivial, trivial, ⟨_, rfl, Nat.le_refl _, Nat.le_refl _, fun _ => rfl, (ownR_spec (DVs.okAt (DVs.okAt ha 0 rfl) 2 rfl) (ownI64_or hqv245)).2.2.2⟩, trivial⟩, trivial, trivial⟩ hy
          exact ⟨H1, k1, k2⟩⟩) (fun F' => rfl) (fun L' => trivial)
    · cases hr
  · cases hr
/-! laws.markInt64S -/
noncomputable def laws_markInt64S_i1_l0_T (s : Unit) : Tree ((Unit) ⊕ (Unit)) :=
  (.br (decide ((0 : Int) < (0 : Int))) (
   .fail
  ) (
   .leaf (.inr ())
  ))

noncomputable def laws_markInt64S_i1_l0_g (s0 : Unit) : Option (Unit) := whileM (fun s => (laws_markInt64S_i1_l0_T s).run) s0
def laws_markInt64S_i1_l0_E (v251 : Int) (s : Unit) : Sd := ([.nilslc, .int .i64 v251, .top, .top, .top, .int .i64 (0 : Int), .top, .top, .top, .top, .top, .top, .top, .top, .top, .top, .top, .top, .top], [])
def laws_markInt64S_i1_l0_X (v251 : Int) (x : Unit) : Out := (.normal, [.top, .int .i64 v251, .top, .top, .top, .top, .top, .top, .top, .top, .top, .top, .top, .top, .top, .top, .top, .top, .top], [])
def laws_markInt64S_i1_l0_kill : List Nat := [0, 0, 1, 1, 1, 0, 1, 1, 1, 1, 1, 1, 1, 1, 1, 1, 1, 1, 1]
def laws_markInt64S_i1_l0_nx : Exit → List Nat
  | .exit 0 => [1, 0, 1, 1, 1, 1, 1, 1, 1, 1, 1, 1, 1, 1, 1, 1, 1, 1, 1]
  | .ret => [1, 1, 1, 1, 0, 1, 1, 1, 1, 1, 1, 1, 1, 1, 1, 1, 1, 1, 1]
  | _ => []
noncomputable def laws_markInt64S_i1_LO (v251 : Int) : LOr := fun id e L =>
  match id with
  | 0 => .need (normA 0 laws_markInt64S_i1_l0_kill e L = some (laws_markInt64S_i1_l0_E v251 ())) (.call (laws_markInt64S_i1_l0_g ()) fun x => .leaf (laws_markInt64S_i1_l0_X v251 x))
  | _ => .fail
noncomputable def laws_markInt64S_i1_tab : List (FuncId × DFn × Bool) := []
theorem laws_markInt64S_i1_hO : OrcOk Try.prog (tabD laws_markInt64S_i1_tab) (tabM laws_markInt64S_i1_tab) := tabD_nil _
theorem laws_markInt64S_i1_l0_be (v251 : Int) (s : Unit) : bodyT TT (tabD laws_markInt64S_i1_tab) (tabM laws_markInt64S_i1_tab) (laws_markInt64S_i1_LO v251) 0 laws_markInt64S_i1_l0_kill laws_markInt64S_i1_l0_nx (bodyOf Try.f45 0) 0 (laws_markInt64S_i1_l0_E v251 s) = (laws_markInt64S_i1_l0_T s).bind fun y => .leaf (outS (laws_markInt64S_i1_l0_E v251) (laws_markInt64S_i1_l0_X v251) y) := by kernel_rfl
theorem laws_markInt64S_i1_l0_ok (v251 : Int) : LSound Try.prog 0 (laws_markInt64S_i1_LO v251) 0 (bodyOf Try.f45 0) := by
  intro e L out h
  exact lo_ok (E := laws_markInt64S_i1_l0_E v251) (gT := laws_markInt64S_i1_l0_T) (X := laws_markInt64S_i1_l0_X v251) (s0 := ()) tok laws_markInt64S_i1_hO mixed (LoopsOk_eq (l := []) (by kernel_rfl) trivial) (laws_markInt64S_i1_l0_be v251) rfl (by intro x; rfl) h
noncomputable def laws_markInt64S_i1_T (v251 : Int) : Tree (Int) :=
  (.need (some (laws_markInt64S_i1_l0_E v251 ()) = some (laws_markInt64S_i1_l0_E v251 ())) <|
  (.call (laws_markInt64S_i1_l0_g ()) fun v254 =>
  .leaf v251))

noncomputable def laws_markInt64S_i1_g (v251 : Int) : Option (Int) := (laws_markInt64S_i1_T v251).run
def laws_markInt64S_i1_enc (v251 : Int) (y : Int) : Rs := (.int .i64 y, [])
theorem laws_markInt64S_i1_den (v251 : Int) : (den TT (tabD laws_markInt64S_i1_tab) (tabM laws_markInt64S_i1_tab) (laws_markInt64S_i1_LO v251) (codeOf Try.f45) ([.nilslc, .int .i64 v251] ++ List.replicate (Try.f45.ntmps - ([.nilslc, .int .i64 v251] : List DV).length) .undef) []).bind (retD TT Try.f45.results.toList 0) = (laws_markInt64S_i1_T v251).bind fun y => .leaf (laws_markInt64S_i1_enc v251 y) := by kernel_rfl
theorem laws_markInt64S_i1_fn (v251 : Int) (F : Fr) (hm : F.ids.length = 0) (h0 : St F [] F.H0) (hA : DVs.Ok F [] [.nilslc, .int .i64 v251]) {y : Int} (hy : laws_markInt64S_i1_g v251 = some y) : ∃ H', FnOk Try.prog 45 (DVs.av F [.nilslc, .int .i64 v251]) F.H0 ((laws_markInt64S_i1_enc v251 y).1.av F) H' ∧ St F (laws_markInt64S_i1_enc v251 y).2 H' ∧ (laws_markInt64S_i1_enc v251 y).1.Ok F (laws_markInt64S_i1_enc v251 y).2 :=
  fn_fin tok laws_markInt64S_i1_hO mixed Try.func45 Try.call45 (by kernel_rfl) (LoopsOk_eq (l := [(0, bodyOf Try.f45 0)]) (by kernel_rfl) ⟨laws_markInt64S_i1_l0_ok v251, trivial⟩) (laws_markInt64S_i1_den v251) hy hm h0 hA
noncomputable def laws_markInt64S_i1_F : DFn := fun args L =>
  match args with
  | [.nilslc, .int .i64 v251] =>
    .call (laws_markInt64S_i1_g v251) fun y => .leaf (.int .i64 y, L)
  | _ => .fail
theorem laws_markInt64S_i1_Fok : COk Try.prog 45 laws_markInt64S_i1_F true := by
  intro F L H args r L' hs ha hr
  unfold laws_markInt64S_i1_F at hr
  split at hr
  · rename_i v251
    simp only [Tree.run] at hr
    obtain ⟨y, hy, hr⟩ := Option.bind_eq_some_iff.1 hr
    simp only [Tree.run, Option.some.injEq, Prod.mk.injEq] at hr
    obtain ⟨rfl, rfl⟩ := hr
    exact call_ok0 hs (fun k => (([] : List AV)[k]?).getD .top) [.nilslc, .int .i64 v251] [.nilslc, .int .i64 v251] (fun F' h0 hi hρ => ⟨by simp [DVs.av, DV.av, BR.av, hρ], laws_markInt64S_i1_fn v251 F' (by rw [hi]; rfl) (st_nil hi) ⟨trivial, trivial, trivial⟩ hy⟩) rfl
  · cases hr
/-! laws.markWhole -/
noncomputable def laws_markWhole_i1_LO (v248 : Int) (v249 : Int) (v250 : Int) : LOr := fun id e L =>
  match id with
  | _ => .fail
noncomputable def laws_markWhole_i1_tab : List (FuncId × DFn × Bool) := [(45, laws_markInt64S_i1_F, true)]
theorem laws_markWhole_i1_hO : OrcOk Try.prog (tabD laws_markWhole_i1_tab) (tabM laws_markWhole_i1_tab) := tabD_cons laws_markInt64S_i1_Fok (tabD_nil _)
noncomputable def laws_markWhole_i1_T (v250 : Int) : Tree (Int) :=
  (.call (laws_markInt64S_i1_g v250) fun v255 =>
  .leaf v255)

noncomputable def laws_markWhole_i1_g (v250 : Int) : Option (Int) := (laws_markWhole_i1_T v250).run
def laws_markWhole_i1_enc (v248 : Int) (v249 : Int) (v250 : Int) (y : Int) : Rs := (.int .i64 y, [])
theorem laws_markWhole_i1_den (v248 : Int) (v249 : Int) (v250 : Int) : (den TT (tabD laws_markWhole_i1_tab) (tabM laws_markWhole_i1_tab) (laws_markWhole_i1_LO v248 v249 v250) (codeOf Try.f39) ([.agg [.int .i64 v248, .int .i64 v249, .nilslc], .int .i64 v250] ++ List.replicate (Try.f39.ntmps - ([.agg [.int .i64 v248, .int .i64 v249, .nilslc], .int .i64 v250] : List DV).length) .undef) []).bind (retD TT Try.f39.results.toList 0) = (laws_markWhole_i1_T v250).bind fun y => .leaf (laws_markWhole_i1_enc v248 v249 v250 y) := by kernel_rfl
theorem laws_markWhole_i1_fn (v248 : Int) (v249 : Int) (v250 : Int) (F : Fr) (hm : F.ids.length = 0) (h0 : St F [] F.H0) (hA : DVs.Ok F [] [.agg [.int .i64 v248, .int .i64 v249, .nilslc], .int .i64 v250]) {y : Int} (hy : laws_markWhole_i1_g v250 = some y) : ∃ H', FnOk Try.prog 39 (DVs.av F [.agg [.int .i64 v248, .int .i64 v249, .nilslc], .int .i64 v250]) F.H0 ((laws_markWhole_i1_enc v248 v249 v250 y).1.av F) H' ∧ St F (laws_markWhole_i1_enc v248 v249 v250 y).2 H' ∧ (laws_markWhole_i1_enc v248 v249 v250 y).1.Ok F (laws_markWhole_i1_enc v248 v249 v250 y).2 :=
  fn_fin tok laws_markWhole_i1_hO mixed Try.func39 Try.call39 (by kernel_rfl) (LoopsOk_eq (l := []) (by kernel_rfl) trivial) (laws_markWhole_i1_den v248 v249 v250) hy hm h0 hA
noncomputable def laws_markWhole_i1_F : DFn := fun args L =>
  match args with
  | [.agg [.int .i64 v248, .int .i64 v249, .nilslc], .int .i64 v250] =>
    .call (laws_markWhole_i1_g v250) fun y => .leaf (.int .i64 y, L)
  | _ => .fail
theorem laws_markWhole_i1_Fok : COk Try.prog 39 laws_markWhole_i1_F true := by
  intro F L H args r L' hs ha hr
  unfold laws_markWhole_i1_F at hr
  split at hr
  · rename_i v248 v249 v250
    simp only [Tree.run] at hr
    obtain ⟨y, hy, hr⟩ := Option.bind_eq_some_iff.1 hr
    simp only [Tree.run, Option.some.injEq, Prod.mk.injEq] at hr
    obtain ⟨rfl, rfl⟩ := hr
    exact call_ok0 hs (fun k => (([] : List AV)[k]?).getD .top) [.agg [.int .i64 v248, .int .i64 v249, .nilslc], .int .i64 v250] [.agg [.int .i64 v248, .int .i64 v249, .nilslc], .int .i64 v250] (fun F' h0 hi hρ => ⟨by simp [DVs.av, DV.av, BR.av, hρ], laws_markWhole_i1_fn v248 v249 v250 F' (by rw [hi]; rfl) (st_nil hi) ⟨⟨trivial, trivial, trivial, trivial⟩, trivial, trivial⟩ hy⟩) rfl
  · cases hr
/-! laws.heldInt64S -/
noncomputable def laws_heldInt64S_l0_T (v261 : List Int) (s : Int × Int) : Tree ((Int × Int) ⊕ ((Unit) ⊕ (Int))) :=
  (.br (decide (s.2 < ((v261.length : Nat) : Int))) (
   (.grd (inb s.2 v261.length) <|
   (.br (!decide (nth v261 (Int.toNat s.2) = s.1)) (
    .leaf (.inr (.inl ()))
   ) (
    .leaf (.inl (IntKind.i64.wrap (s.1 + (1 : Int)), IntKind.i64.wrap (s.2 + (1 : Int))))
   )))
  ) (
   .leaf (.inr (.inr s.1))
  ))

noncomputable def laws_heldInt64S_l0_g (v261 : List Int) (s0 : Int × Int) : Option ((Unit) ⊕ (Int)) := whileM (fun s => (laws_heldInt64S_l0_T v261 s).run) s0
def laws_heldInt64S_l0_E (v261 : List Int) (v262 : Int) (s : Int × Int) : Sd := ([.bslc (BR.root 0) (.i64 v261), .int .i64 s.1, .top, .top, .top, .int .i64 s.2, .top, .top, .top, .top, .top, .top, .top, .top, .top, .top, .top, .top, .top, .top, .top], [])
def laws_heldInt64S_l0_X (v261 : List Int) (v262 : Int) (x : (Unit) ⊕ (Int)) : Out := (match x with | .inl x => (.ret, [.top, .top, .top, .top, .int .i64 (-1 : Int), .top, .top, .top, .top, .top, .top, .top, .top, .top, .top, .top, .top, .top, .top, .top, .top], []) | .inr x => (.normal, [.top, .int .i64 x, .top, .top, .top, .top, .top, .top, .top, .top, .top, .top, .top, .top, .top, .top, .top, .top, .top, .top, .top], []))
def laws_heldInt64S_l0_kill : List Nat := [0, 0, 1, 1, 1, 0, 1, 1, 1, 1, 1, 1, 1, 1, 1, 1, 1, 1, 1, 1, 1]
def laws_heldInt64S_l0_nx : Exit → List Nat
  | .exit 0 => [1, 0, 1, 1, 1, 1, 1, 1, 1, 1, 1, 1, 1, 1, 1, 1, 1, 1, 1, 1, 1]
  | .ret => [1, 1, 1, 1, 0, 1, 1, 1, 1, 1, 1, 1, 1, 1, 1, 1, 1, 1, 1, 1, 1]
  | _ => []
noncomputable def laws_heldInt64S_LO (v261 : List Int) (v262 : Int) : LOr := fun id e L =>
  match id with
  | 0 => .need (normA 0 laws_heldInt64S_l0_kill e L = some (laws_heldInt64S_l0_E v261 v262 ((gI (vAt e 1)), (gI (vAt e 5))))) (.call (laws_heldInt64S_l0_g v261 ((gI (vAt e 1)), (gI (vAt e 5)))) fun x => .sum x (fun b0 => .leaf (laws_heldInt64S_l0_X v261 v262 (.inl b0))) (fun c0 => .leaf (laws_heldInt64S_l0_X v261 v262 (.inr c0))))
  | _ => .fail
noncomputable def laws_heldInt64S_tab : List (FuncId × DFn × Bool) := []
theorem laws_heldInt64S_hO : OrcOk Try.prog (tabD laws_heldInt64S_tab) (tabM laws_heldInt64S_tab) := tabD_nil _
theorem laws_heldInt64S_l0_be (v261 : List Int) (v262 : Int) (s : Int × Int) : bodyT TT (tabD laws_heldInt64S_tab) (tabM laws_heldInt64S_tab) (laws_heldInt64S_LO v261 v262) 0 laws_heldInt64S_l0_kill laws_heldInt64S_l0_nx (bodyOf Try.f105 0) 0 (laws_heldInt64S_l0_E v261 v262 s) = (laws_heldInt64S_l0_T v261 s).bind fun y => .leaf (outS (laws_heldInt64S_l0_E v261 v262) (laws_heldInt64S_l0_X v261 v262) y) := by kernel_rfl
theorem laws_heldInt64S_l0_ok (v261 : List Int) (v262 : Int) : LSound Try.prog 0 (laws_heldInt64S_LO v261 v262) 0 (bodyOf Try.f105 0) := by
  intro e L out h
  exact lo_ok (E := laws_heldInt64S_l0_E v261 v262) (gT := laws_heldInt64S_l0_T v261) (X := laws_heldInt64S_l0_X v261 v262) (s0 := ((gI (vAt e 1)), (gI (vAt e 5)))) tok laws_heldInt64S_hO mixed (LoopsOk_eq (l := []) (by kernel_rfl) trivial) (laws_heldInt64S_l0_be v261 v262) rfl (by intro x; (cases x with | inl b => rfl | inr x => exact rfl)) h
noncomputable def laws_heldInt64S_T (v261 : List Int) (v262 : Int) : Tree (Int) :=
  (.need (some (laws_heldInt64S_l0_E v261 v262 (v262, (0 : Int))) = some (laws_heldInt64S_l0_E v261 v262 (v262, (0 : Int)))) <|
  (.call (laws_heldInt64S_l0_g v261 (v262, (0 : Int))) fun v269 =>
  (.sum v269 (fun v270 =>
   .leaf (-1 : Int)
  ) (fun v271 =>
   .leaf v271
  ))))

noncomputable def laws_heldInt64S_g (v261 : List Int) (v262 : Int) : Option (Int) := (laws_heldInt64S_T v261 v262).run
def laws_heldInt64S_enc (v261 : List Int) (v262 : Int) (y : Int) : Rs := (.int .i64 y, [])
theorem laws_heldInt64S_den (v261 : List Int) (v262 : Int) : (den TT (tabD laws_heldInt64S_tab) (tabM laws_heldInt64S_tab) (laws_heldInt64S_LO v261 v262) (codeOf Try.f105) ([.bslc (BR.root 0) (.i64 v261), .int .i64 v262] ++ List.replicate (Try.f105.ntmps - ([.bslc (BR.root 0) (.i64 v261), .int .i64 v262] : List DV).length) .undef) []).bind (retD TT Try.f105.results.toList 0) = (laws_heldInt64S_T v261 v262).bind fun y => .leaf (laws_heldInt64S_enc v261 v262 y) := by kernel_rfl
theorem laws_heldInt64S_fn (v261 : List Int) (v262 : Int) (F : Fr) (hm : F.ids.length = 0) (h0 : St F [] F.H0) (hA : DVs.Ok F [] [.bslc (BR.root 0) (.i64 v261), .int .i64 v262]) {y : Int} (hy : laws_heldInt64S_g v261 v262 = some y) : ∃ H', FnOk Try.prog 105 (DVs.av F [.bslc (BR.root 0) (.i64 v261), .int .i64 v262]) F.H0 ((laws_heldInt64S_enc v261 v262 y).1.av F) H' ∧ St F (laws_heldInt64S_enc v261 v262 y).2 H' ∧ (laws_heldInt64S_enc v261 v262 y).1.Ok F (laws_heldInt64S_enc v261 v262 y).2 :=
  fn_fin tok laws_heldInt64S_hO mixed Try.func105 Try.call105 (by kernel_rfl) (LoopsOk_eq (l := [(0, bodyOf Try.f105 0)]) (by kernel_rfl) ⟨laws_heldInt64S_l0_ok v261 v262, trivial⟩) (laws_heldInt64S_den v261 v262) hy hm h0 hA
noncomputable def laws_heldInt64S_F : DFn := fun args L =>
  match args with
  | [a1, .int .i64 v262] =>
    optT (rowI64 L a1) fun v261 =>
    .call (laws_heldInt64S_g v261 v262) fun y => .leaf (.int .i64 y, L)
  | _ => .fail
theorem laws_heldInt64S_Fok : COk Try.prog 105 laws_heldInt64S_F true := by
  intro F L H args r L' hs ha hr
  unfold laws_heldInt64S_F at hr
  split at hr
  · rename_i a1 v262
    obtain ⟨v261, hv261, hr⟩ := optT_run hr
    simp only [Tree.run] at hr
    obtain ⟨y, hy, hr⟩ := Option.bind_eq_some_iff.1 hr
    simp only [Tree.run, Option.some.injEq, Prod.mk.injEq] at hr
    obtain ⟨rfl, rfl⟩ := hr
    exact call_ok0 hs (fun k => (([a1.av F] : List AV)[k]?).getD .top) [a1, .int .i64 v262] [.bslc (BR.root 0) (.i64 v261), .int .i64 v262] (fun F' h0 hi hρ => ⟨by simp [DVs.av, DV.av, BR.av, hρ], laws_heldInt64S_fn v261 v262 F' (by rw [hi]; rfl) (st_nil hi) ⟨bslc_ok hi (by rw [h0, hρ]; exact rowI64_ok hs (DVs.okAt ha 0 rfl) hv261), trivial, trivial⟩ hy⟩) rfl
  · cases hr
/-! laws.heldWhole -/
noncomputable def laws_heldWhole_LO (v257 : Int) (v258 : Int) (v259 : List Int) (v260 : Int) : LOr := fun id e L =>
  match id with
  | _ => .fail
noncomputable def laws_heldWhole_tab : List (FuncId × DFn × Bool) := [(105, laws_heldInt64S_F, true)]
theorem laws_heldWhole_hO : OrcOk Try.prog (tabD laws_heldWhole_tab) (tabM laws_heldWhole_tab) := tabD_cons laws_heldInt64S_Fok (tabD_nil _)
noncomputable def laws_heldWhole_T (v259 : List Int) (v260 : Int) : Tree (Int) :=
  (.call (laws_heldInt64S_g v259 v260) fun v272 =>
  (.br (decide (v272 < (0 : Int))) (
   .leaf (-1 : Int)
  ) (
   .leaf v272
  )))

noncomputable def laws_heldWhole_g (v259 : List Int) (v260 : Int) : Option (Int) := (laws_heldWhole_T v259 v260).run
def laws_heldWhole_enc (v257 : Int) (v258 : Int) (v259 : List Int) (v260 : Int) (y : Int) : Rs := (.int .i64 y, [])
theorem laws_heldWhole_den (v257 : Int) (v258 : Int) (v259 : List Int) (v260 : Int) : (den TT (tabD laws_heldWhole_tab) (tabM laws_heldWhole_tab) (laws_heldWhole_LO v257 v258 v259 v260) (codeOf Try.f40) ([.agg [.int .i64 v257, .int .i64 v258, .bslc (BR.root 0) (.i64 v259)], .int .i64 v260] ++ List.replicate (Try.f40.ntmps - ([.agg [.int .i64 v257, .int .i64 v258, .bslc (BR.root 0) (.i64 v259)], .int .i64 v260] : List DV).length) .undef) []).bind (retD TT Try.f40.results.toList 0) = (laws_heldWhole_T v259 v260).bind fun y => .leaf (laws_heldWhole_enc v257 v258 v259 v260 y) := by kernel_rfl
theorem laws_heldWhole_fn (v257 : Int) (v258 : Int) (v259 : List Int) (v260 : Int) (F : Fr) (hm : F.ids.length = 0) (h0 : St F [] F.H0) (hA : DVs.Ok F [] [.agg [.int .i64 v257, .int .i64 v258, .bslc (BR.root 0) (.i64 v259)], .int .i64 v260]) {y : Int} (hy : laws_heldWhole_g v259 v260 = some y) : ∃ H', FnOk Try.prog 40 (DVs.av F [.agg [.int .i64 v257, .int .i64 v258, .bslc (BR.root 0) (.i64 v259)], .int .i64 v260]) F.H0 ((laws_heldWhole_enc v257 v258 v259 v260 y).1.av F) H' ∧ St F (laws_heldWhole_enc v257 v258 v259 v260 y).2 H' ∧ (laws_heldWhole_enc v257 v258 v259 v260 y).1.Ok F (laws_heldWhole_enc v257 v258 v259 v260 y).2 :=
  fn_fin tok laws_heldWhole_hO mixed Try.func40 Try.call40 (by kernel_rfl) (LoopsOk_eq (l := []) (by kernel_rfl) trivial) (laws_heldWhole_den v257 v258 v259 v260) hy hm h0 hA
noncomputable def laws_heldWhole_F : DFn := fun args L =>
  match args with
  | [.agg [.int .i64 v257, .int .i64 v258, a1], .int .i64 v260] =>
    optT (rowI64 L a1) fun v259 =>
    .call (laws_heldWhole_g v259 v260) fun y => .leaf (.int .i64 y, L)
  | _ => .fail
theorem laws_heldWhole_Fok : COk Try.prog 40 laws_heldWhole_F true := by
  intro F L H args r L' hs ha hr
  unfold laws_heldWhole_F at hr
  split at hr
  · rename_i v257 v258 a1 v260
    obtain ⟨v259, hv259, hr⟩ := optT_run hr
    simp only [Tree.run] at hr
    obtain ⟨y, hy, hr⟩ := Option.bind_eq_some_iff.1 hr
    simp only [Tree.run, Option.some.injEq, Prod.mk.injEq] at hr
    obtain ⟨rfl, rfl⟩ := hr
    exact call_ok0 hs (fun k => (([a1.av F] : List AV)[k]?).getD .top) [.agg [.int .i64 v257, .int .i64 v258, a1], .int .i64 v260] [.agg [.int .i64 v257, .int .i64 v258, .bslc (BR.root 0) (.i64 v259)], .int .i64 v260] (fun F' h0 hi hρ => ⟨by simp [DVs.av, DV.av, BR.av, hρ], laws_heldWhole_fn v257 v258 v259 v260 F' (by rw [hi]; rfl) (st_nil hi) ⟨⟨trivial, trivial, bslc_ok hi (by rw [h0, hρ]; exact rowI64_ok hs (DVs.okAt (DVs.okAt ha 0 rfl) 2 rfl) hv259), trivial⟩, trivial, trivial⟩ hy⟩) rfl
  · cases hr
/-! laws.FnExactWholeOf -/
noncomputable def laws_FnExactWholeOf_LO (v1 : Int) (v2 : Int) (v3 : List Nat) (v4 : Nat) : LOr := fun id e L =>
  match id with
  | _ => .fail
noncomputable def laws_FnExactWholeOf_tab : List (FuncId × DFn × Bool) := [(29, laws_szMatrix_F, true), (31, laws_toMatrix_F, true), (36, spec_WholeOf_F, true), (37, impl_WholeOf_F, true), (38, laws_eqWhole_F, true), (33, laws_eqMatrix_F, true), (34, laws_markMatrix_F, false), (39, (orD (fun args => match args with | [.agg [_, _, .nilslc], _] => true | _ => false) laws_markWhole_i1_F laws_markWhole_F), false), (40, laws_heldWhole_F, true)]
theorem laws_FnExactWholeOf_hO : OrcOk Try.prog (tabD laws_FnExactWholeOf_tab) (tabM laws_FnExactWholeOf_tab) := tabD_cons laws_szMatrix_Fok (tabD_cons laws_toMatrix_Fok (tabD_cons spec_WholeOf_Fok (tabD_cons impl_WholeOf_Fok (tabD_cons laws_eqWhole_Fok (tabD_cons laws_eqMatrix_Fok (tabD_cons laws_markMatrix_Fok (tabD_cons (orD_ok (COk.weak laws_markWhole_i1_Fok) laws_markWhole_Fok) (tabD_cons laws_heldWhole_Fok (tabD_nil _)))))))))
noncomputable def laws_FnExactWholeOf_T (v1 : Int) (v2 : Int) (v3 : List Nat) (v4 : Nat) : Tree (Bool) :=
  (.br (decide ((laws_szMatrix_v v3 (1048576 : Int)) < (0 : Int))) (
   .leaf true
  ) (
   (.call (laws_toMatrix_g v1 v2 v3) fun v22 =>
   (.call (spec_WholeOf_g v22.1 v22.2.1 v22.2.2 v4) fun v96 =>
   (.sum v96 (fun v97 =>
    (.call (laws_toMatrix_g v1 v2 v3) fun v99 =>
    (.call (impl_WholeOf_g v99.1 v99.2.1 v99.2.2 v4) fun v160 =>
    (.sum v160 (fun v161 =>
     (.call (laws_eqWhole_g (0 : Int) (0 : Int) ([] : List Int) (0 : Int) (0 : Int) ([] : List Int)) fun v178 =>
     (.br (!v178) (
      .leaf false
     ) (
      (.br (!(false == false)) (
       .leaf false
      ) (
       (.call (laws_toMatrix_g v1 v2 v3) fun v179 =>
       (.call (laws_eqMatrix_g v99.1 v99.2.1 v99.2.2 v179.1 v179.2.1 v179.2.2) fun v197 =>
       (.br (!v197) (
        .leaf false
       ) (
        (.call (laws_markMatrix_g v99.2.2 (1 : Int)) fun v222 =>
        (.grd (decide (v222.2.length = v99.2.2.length)) <|
        (.br (decide (v222.1 < (0 : Int))) (
         .leaf false
        ) (
         (.call (laws_eqWhole_g (0 : Int) (0 : Int) ([] : List Int) (0 : Int) (0 : Int) ([] : List Int)) fun v223 =>
         (.br (!v223) (
          .leaf false
         ) (
          (.br (!(false == false)) (
           .leaf false
          ) (
           (.call (laws_markWhole_i1_g (1 : Int)) fun v256 =>
           (.call (laws_heldWhole_g ([] : List Int) (1 : Int)) fun v273 =>
           (.br (decide (v273 < (0 : Int))) (
            .leaf false
           ) (
            (.br (!decide (v273 = v256)) (
             .leaf false
            ) (
             (.call (laws_toMatrix_g v1 v2 v3) fun v274 =>
             (.call (impl_WholeOf_g v274.1 v274.2.1 v274.2.2 v4) fun v275 =>
             (.sum v275 (fun v276 =>
              (.call (laws_eqWhole_g (0 : Int) (0 : Int) ([] : List Int) (0 : Int) (0 : Int) ([] : List Int)) fun v278 =>
              (.br (!v278) (
               .leaf false
              ) (
               (.br (!(false == false)) (
                .leaf false
               ) (
                (.call (laws_heldWhole_g ([] : List Int) (1 : Int)) fun v279 =>
                (.br (decide (v279 < (0 : Int))) (
                 .leaf false
                ) (
                 (.br (!decide (v279 = v256)) (
                  .leaf false
                 ) (
                  .leaf true
                 ))
                )))
               ))
              )))
             ) (fun v277 =>
              (.sum v277 (fun v280 =>
               (.call (laws_eqWhole_g v280.1 v280.2 ([] : List Int) (0 : Int) (0 : Int) ([] : List Int)) fun v282 =>
               (.br (!v282) (
                .leaf false
               ) (
                (.br (!(true == false)) (
                 .leaf false
                ) (
                 (.call (laws_heldWhole_g ([] : List Int) (1 : Int)) fun v283 =>
                 (.br (decide (v283 < (0 : Int))) (
                  .leaf false
                 ) (
                  (.br (!decide (v283 = v256)) (
                   .leaf false
                  ) (
                   .leaf true
                  ))
                 )))
                ))
               )))
              ) (fun v281 =>
               (.call (laws_eqWhole_g v281.1 v281.2.1 v281.2.2 (0 : Int) (0 : Int) ([] : List Int)) fun v284 =>
               (.br (!v284) (
                .leaf false
               ) (
                (.br (!(true == false)) (
                 .leaf false
                ) (
                 (.call (laws_heldWhole_g ([] : List Int) (1 : Int)) fun v285 =>
                 (.br (decide (v285 < (0 : Int))) (
                  .leaf false
                 ) (
                  (.br (!decide (v285 = v256)) (
                   .leaf false
                  ) (
                   .leaf true
                  ))
                 )))
                ))
               )))
              ))
             ))))
            ))
           ))))
          ))
         )))
        ))))
       ))))
      ))
     )))
    ) (fun v162 =>
     (.sum v162 (fun v286 =>
      (.call (laws_eqWhole_g v286.1 v286.2 ([] : List Int) (0 : Int) (0 : Int) ([] : List Int)) fun v288 =>
      (.br (!v288) (
       .leaf false
      ) (
       (.br (!(true == false)) (
        .leaf false
       ) (
        (.call (laws_toMatrix_g v1 v2 v3) fun v289 =>
        (.call (laws_eqMatrix_g v99.1 v99.2.1 v99.2.2 v289.1 v289.2.1 v289.2.2) fun v290 =>
        (.br (!v290) (
         .leaf false
        ) (
         (.call (laws_markMatrix_g v99.2.2 (1 : Int)) fun v291 =>
         (.grd (decide (v291.2.length = v99.2.2.length)) <|
         (.br (decide (v291.1 < (0 : Int))) (
          .leaf false
         ) (
          (.call (laws_eqWhole_g v286.1 v286.2 ([] : List Int) (0 : Int) (0 : Int) ([] : List Int)) fun v292 =>
          (.br (!v292) (
           .leaf false
          ) (
           (.br (!(true == false)) (
            .leaf false
           ) (
            (.call (laws_markWhole_i1_g (1 : Int)) fun v293 =>
            (.call (laws_heldWhole_g ([] : List Int) (1 : Int)) fun v294 =>
            (.br (decide (v294 < (0 : Int))) (
             .leaf false
            ) (
             (.br (!decide (v294 = v293)) (
              .leaf false
             ) (
              (.call (laws_toMatrix_g v1 v2 v3) fun v295 =>
              (.call (impl_WholeOf_g v295.1 v295.2.1 v295.2.2 v4) fun v296 =>
              (.sum v296 (fun v297 =>
               (.call (laws_eqWhole_g (0 : Int) (0 : Int) ([] : List Int) (0 : Int) (0 : Int) ([] : List Int)) fun v299 =>
               (.br (!v299) (
                .leaf false
               ) (
                (.br (!(false == false)) (
                 .leaf false
                ) (
                 (.call (laws_heldWhole_g ([] : List Int) (1 : Int)) fun v300 =>
                 (.br (decide (v300 < (0 : Int))) (
                  .leaf false
                 ) (
                  (.br (!decide (v300 = v293)) (
                   .leaf false
                  ) (
                   .leaf true
                  ))
                 )))
                ))
               )))
              ) (fun v298 =>
               (.sum v298 (fun v301 =>
                (.call (laws_eqWhole_g v301.1 v301.2 ([] : List Int) (0 : Int) (0 : Int) ([] : List Int)) fun v303 =>
                (.br (!v303) (
                 .leaf false
                ) (
                 (.br (!(true == false)) (
                  .leaf false
                 ) (
                  (.call (laws_heldWhole_g ([] : List Int) (1 : Int)) fun v304 =>
                  (.br (decide (v304 < (0 : Int))) (
                   .leaf false
                  ) (
                   (.br (!decide (v304 = v293)) (
                    .leaf false
                   ) (
                    .leaf true
                   ))
                  )))
                 ))
                )))
               ) (fun v302 =>
                (.call (laws_eqWhole_g v302.1 v302.2.1 v302.2.2 (0 : Int) (0 : Int) ([] : List Int)) fun v305 =>
                (.br (!v305) (
                 .leaf false
                ) (
                 (.br (!(true == false)) (
                  .leaf false
                 ) (
                  (.call (laws_heldWhole_g ([] : List Int) (1 : Int)) fun v306 =>
                  (.br (decide (v306 < (0 : Int))) (
                   .leaf false
                  ) (
                   (.br (!decide (v306 = v293)) (
                    .leaf false
                   ) (
                    .leaf true
                   ))
                  )))
                 ))
                )))
               ))
              ))))
             ))
            ))))
           ))
          )))
         ))))
        ))))
       ))
      )))
     ) (fun v287 =>
      (.call (laws_eqWhole_g v287.1 v287.2.1 v287.2.2 (0 : Int) (0 : Int) ([] : List Int)) fun v307 =>
      (.br (!v307) (
       .leaf false
      ) (
       (.br (!(true == false)) (
        .leaf false
       ) (
        (.call (laws_toMatrix_g v1 v2 v3) fun v308 =>
        (.call (laws_eqMatrix_g v99.1 v99.2.1 v99.2.2 v308.1 v308.2.1 v308.2.2) fun v309 =>
        (.br (!v309) (
         .leaf false
        ) (
         (.call (laws_markMatrix_g v99.2.2 (1 : Int)) fun v310 =>
         (.grd (decide (v310.2.length = v99.2.2.length)) <|
         (.br (decide (v310.1 < (0 : Int))) (
          .leaf false
         ) (
          (.call (laws_eqWhole_g v287.1 v287.2.1 v287.2.2 (0 : Int) (0 : Int) ([] : List Int)) fun v311 =>
          (.br (!v311) (
           .leaf false
          ) (
           (.br (!(true == false)) (
            .leaf false
           ) (
            (.call (laws_markWhole_g v287.2.2 (1 : Int)) fun v312 =>
            (.grd (decide (v312.2.length = v287.2.2.length)) <|
            (.call (laws_heldWhole_g v312.2 (1 : Int)) fun v313 =>
            (.br (decide (v313 < (0 : Int))) (
             .leaf false
            ) (
             (.br (!decide (v313 = v312.1)) (
              .leaf false
             ) (
              (.call (laws_toMatrix_g v1 v2 v3) fun v314 =>
              (.call (impl_WholeOf_g v314.1 v314.2.1 v314.2.2 v4) fun v315 =>
              (.sum v315 (fun v316 =>
               (.call (laws_eqWhole_g (0 : Int) (0 : Int) ([] : List Int) (0 : Int) (0 : Int) ([] : List Int)) fun v318 =>
               (.br (!v318) (
                .leaf false
               ) (
                (.br (!(false == false)) (
                 .leaf false
                ) (
                 (.call (laws_heldWhole_g v312.2 (1 : Int)) fun v319 =>
                 (.br (decide (v319 < (0 : Int))) (
                  .leaf false
                 ) (
                  (.br (!decide (v319 = v312.1)) (
                   .leaf false
                  ) (
                   .leaf true
                  ))
                 )))
                ))
               )))
              ) (fun v317 =>
               (.sum v317 (fun v320 =>
                (.call (laws_eqWhole_g v320.1 v320.2 ([] : List Int) (0 : Int) (0 : Int) ([] : List Int)) fun v322 =>
                (.br (!v322) (
                 .leaf false
                ) (
                 (.br (!(true == false)) (
                  .leaf false
                 ) (
                  (.call (laws_heldWhole_g v312.2 (1 : Int)) fun v323 =>
                  (.br (decide (v323 < (0 : Int))) (
                   .leaf false
                  ) (
                   (.br (!decide (v323 = v312.1)) (
                    .leaf false
                   ) (
                    .leaf true
                   ))
                  )))
                 ))
                )))
               ) (fun v321 =>
                (.call (laws_eqWhole_g v321.1 v321.2.1 v321.2.2 (0 : Int) (0 : Int) ([] : List Int)) fun v324 =>
                (.br (!v324) (
                 .leaf false
                ) (
                 (.br (!(true == false)) (
                  .leaf false
                 ) (
                  (.call (laws_heldWhole_g v312.2 (1 : Int)) fun v325 =>
                  (.br (decide (v325 < (0 : Int))) (
                   .leaf false
                  ) (
                   (.br (!decide (v325 = v312.1)) (
                    .leaf false
                   ) (
                    .leaf true
                   ))
                  )))
                 ))
                )))
               ))
              ))))
             ))
            )))))
           ))
          )))
         ))))
        ))))
       ))
      )))
     ))
    ))))
   ) (fun v98 =>
    (.sum v98 (fun v326 =>
     (.call (laws_toMatrix_g v1 v2 v3) fun v328 =>
     (.call (impl_WholeOf_g v328.1 v328.2.1 v328.2.2 v4) fun v329 =>
     (.sum v329 (fun v330 =>
      (.call (laws_eqWhole_g (0 : Int) (0 : Int) ([] : List Int) v326.1 v326.2 ([] : List Int)) fun v332 =>
      (.br (!v332) (
       .leaf false
      ) (
       (.br (!(false == true)) (
        .leaf false
       ) (
        (.call (laws_toMatrix_g v1 v2 v3) fun v333 =>
        (.call (laws_eqMatrix_g v328.1 v328.2.1 v328.2.2 v333.1 v333.2.1 v333.2.2) fun v334 =>
        (.br (!v334) (
         .leaf false
        ) (
         (.call (laws_markMatrix_g v328.2.2 (1 : Int)) fun v335 =>
         (.grd (decide (v335.2.length = v328.2.2.length)) <|
         (.br (decide (v335.1 < (0 : Int))) (
          .leaf false
         ) (
          (.call (laws_eqWhole_g (0 : Int) (0 : Int) ([] : List Int) v326.1 v326.2 ([] : List Int)) fun v336 =>
          (.br (!v336) (
           .leaf false
          ) (
           (.br (!(false == true)) (
            .leaf false
           ) (
            (.call (laws_markWhole_i1_g (1 : Int)) fun v337 =>
            (.call (laws_heldWhole_g ([] : List Int) (1 : Int)) fun v338 =>
            (.br (decide (v338 < (0 : Int))) (
             .leaf false
            ) (
             (.br (!decide (v338 = v337)) (
              .leaf false
             ) (
              (.call (laws_toMatrix_g v1 v2 v3) fun v339 =>
              (.call (impl_WholeOf_g v339.1 v339.2.1 v339.2.2 v4) fun v340 =>
              (.sum v340 (fun v341 =>
               (.call (laws_eqWhole_g (0 : Int) (0 : Int) ([] : List Int) v326.1 v326.2 ([] : List Int)) fun v343 =>
               (.br (!v343) (
                .leaf false
               ) (
                (.br (!(false == true)) (
                 .leaf false
                ) (
                 (.call (laws_heldWhole_g ([] : List Int) (1 : Int)) fun v344 =>
                 (.br (decide (v344 < (0 : Int))) (
                  .leaf false
                 ) (
                  (.br (!decide (v344 = v337)) (
                   .leaf false
                  ) (
                   .leaf true
                  ))
                 )))
                ))
               )))
              ) (fun v342 =>
               (.sum v342 (fun v345 =>
                (.call (laws_eqWhole_g v345.1 v345.2 ([] : List Int) v326.1 v326.2 ([] : List Int)) fun v347 =>
                (.br (!v347) (
                 .leaf false
                ) (
                 (.br (!(true == true)) (
                  .leaf false
                 ) (
                  (.call (laws_heldWhole_g ([] : List Int) (1 : Int)) fun v348 =>
                  (.br (decide (v348 < (0 : Int))) (
                   .leaf false
                  ) (
                   (.br (!decide (v348 = v337)) (
                    .leaf false
                   ) (
                    .leaf true
                   ))
                  )))
                 ))
                )))
               ) (fun v346 =>
                (.call (laws_eqWhole_g v346.1 v346.2.1 v346.2.2 v326.1 v326.2 ([] : List Int)) fun v349 =>
                (.br (!v349) (
                 .leaf false
                ) (
                 (.br (!(true == true)) (
                  .leaf false
                 ) (
                  (.call (laws_heldWhole_g ([] : List Int) (1 : Int)) fun v350 =>
                  (.br (decide (v350 < (0 : Int))) (
                   .leaf false
                  ) (
                   (.br (!decide (v350 = v337)) (
                    .leaf false
                   ) (
                    .leaf true
                   ))
                  )))
                 ))
                )))
               ))
              ))))
             ))
            ))))
           ))
          )))
         ))))
        ))))
       ))
      )))
     ) (fun v331 =>
      (.sum v331 (fun v351 =>
       (.call (laws_eqWhole_g v351.1 v351.2 ([] : List Int) v326.1 v326.2 ([] : List Int)) fun v353 =>
       (.br (!v353) (
        .leaf false
       ) (
        (.br (!(true == true)) (
         .leaf false
        ) (
         (.call (laws_toMatrix_g v1 v2 v3) fun v354 =>
         (.call (laws_eqMatrix_g v328.1 v328.2.1 v328.2.2 v354.1 v354.2.1 v354.2.2) fun v355 =>
         (.br (!v355) (
          .leaf false
         ) (
          (.call (laws_markMatrix_g v328.2.2 (1 : Int)) fun v356 =>
          (.grd (decide (v356.2.length = v328.2.2.length)) <|
          (.br (decide (v356.1 < (0 : Int))) (
           .leaf false
          ) (
           (.call (laws_eqWhole_g v351.1 v351.2 ([] : List Int) v326.1 v326.2 ([] : List Int)) fun v357 =>
           (.br (!v357) (
            .leaf false
           ) (
            (.br (!(true == true)) (
             .leaf false
            ) (
             (.call (laws_markWhole_i1_g (1 : Int)) fun v358 =>
             (.call (laws_heldWhole_g ([] : List Int) (1 : Int)) fun v359 =>
             (.br (decide (v359 < (0 : Int))) (
              .leaf false
             ) (
              (.br (!decide (v359 = v358)) (
               .leaf false
              ) (
               (.call (laws_toMatrix_g v1 v2 v3) fun v360 =>
               (.call (impl_WholeOf_g v360.1 v360.2.1 v360.2.2 v4) fun v361 =>
               (.sum v361 (fun v362 =>
                (.call (laws_eqWhole_g (0 : Int) (0 : Int) ([] : List Int) v326.1 v326.2 ([] : List Int)) fun v364 =>
                (.br (!v364) (
                 .leaf false
                ) (
                 (.br (!(false == true)) (
                  .leaf false
                 ) (
                  (.call (laws_heldWhole_g ([] : List Int) (1 : Int)) fun v365 =>
                  (.br (decide (v365 < (0 : Int))) (
                   .leaf false
                  ) (
                   (.br (!decide (v365 = v358)) (
                    .leaf false
                   ) (
                    .leaf true
                   ))
                  )))
                 ))
                )))
               ) (fun v363 =>
                (.sum v363 (fun v366 =>
                 (.call (laws_eqWhole_g v366.1 v366.2 ([] : List Int) v326.1 v326.2 ([] : List Int)) fun v368 =>
                 (.br (!v368) (
                  .leaf false
                 ) (
                  (.br (!(true == true)) (
                   .leaf false
                  ) (
                   (.call (laws_heldWhole_g ([] : List Int) (1 : Int)) fun v369 =>
                   (.br (decide (v369 < (0 : Int))) (
                    .leaf false
                   ) (
                    (.br (!decide (v369 = v358)) (
                     .leaf false
                    ) (
                     .leaf true
                    ))
                   )))
                  ))
                 )))
                ) (fun v367 =>
                 (.call (laws_eqWhole_g v367.1 v367.2.1 v367.2.2 v326.1 v326.2 ([] : List Int)) fun v370 =>
                 (.br (!v370) (
                  .leaf false
                 ) (
                  (.br (!(true == true)) (
                   .leaf false
                  ) (
                   (.call (laws_heldWhole_g ([] : List Int) (1 : Int)) fun v371 =>
                   (.br (decide (v371 < (0 : Int))) (
                    .leaf false
                   ) (
                    (.br (!decide (v371 = v358)) (
                     .leaf false
                    ) (
                     .leaf true
                    ))
                   )))
                  ))
                 )))
                ))
               ))))
              ))
             ))))
            ))
           )))
          ))))
         ))))
        ))
       )))
      ) (fun v352 =>
       (.call (laws_eqWhole_g v352.1 v352.2.1 v352.2.2 v326.1 v326.2 ([] : List Int)) fun v372 =>
       (.br (!v372) (
        .leaf false
       ) (
        (.br (!(true == true)) (
         .leaf false
        ) (
         (.call (laws_toMatrix_g v1 v2 v3) fun v373 =>
         (.call (laws_eqMatrix_g v328.1 v328.2.1 v328.2.2 v373.1 v373.2.1 v373.2.2) fun v374 =>
         (.br (!v374) (
          .leaf false
         ) (
          (.call (laws_markMatrix_g v328.2.2 (1 : Int)) fun v375 =>
          (.grd (decide (v375.2.length = v328.2.2.length)) <|
          (.br (decide (v375.1 < (0 : Int))) (
           .leaf false
          ) (
           (.call (laws_eqWhole_g v352.1 v352.2.1 v352.2.2 v326.1 v326.2 ([] : List Int)) fun v376 =>
           (.br (!v376) (
            .leaf false
           ) (
            (.br (!(true == true)) (
             .leaf false
            ) (
             (.call (laws_markWhole_g v352.2.2 (1 : Int)) fun v377 =>
             (.grd (decide (v377.2.length = v352.2.2.length)) <|
             (.call (laws_heldWhole_g v377.2 (1 : Int)) fun v378 =>
             (.br (decide (v378 < (0 : Int))) (
              .leaf false
             ) (
              (.br (!decide (v378 = v377.1)) (
               .leaf false
              ) (
               (.call (laws_toMatrix_g v1 v2 v3) fun v379 =>
               (.call (impl_WholeOf_g v379.1 v379.2.1 v379.2.2 v4) fun v380 =>
               (.sum v380 (fun v381 =>
                (.call (laws_eqWhole_g (0 : Int) (0 : Int) ([] : List Int) v326.1 v326.2 ([] : List Int)) fun v383 =>
                (.br (!v383) (
                 .leaf false
                ) (
                 (.br (!(false == true)) (
                  .leaf false
                 ) (
                  (.call (laws_heldWhole_g v377.2 (1 : Int)) fun v384 =>
                  (.br (decide (v384 < (0 : Int))) (
                   .leaf false
                  ) (
                   (.br (!decide (v384 = v377.1)) (
                    .leaf false
                   ) (
                    .leaf true
                   ))
                  )))
                 ))
                )))
               ) (fun v382 =>
                (.sum v382 (fun v385 =>
                 (.call (laws_eqWhole_g v385.1 v385.2 ([] : List Int) v326.1 v326.2 ([] : List Int)) fun v387 =>
                 (.br (!v387) (
                  .leaf false
                 ) (
                  (.br (!(true == true)) (
                   .leaf false
                  ) (
                   (.call (laws_heldWhole_g v377.2 (1 : Int)) fun v388 =>
                   (.br (decide (v388 < (0 : Int))) (
                    .leaf false
                   ) (
                    (.br (!decide (v388 = v377.1)) (
                     .leaf false
                    ) (
                     .leaf true
                    ))
                   )))
                  ))
                 )))
                ) (fun v386 =>
                 (.call (laws_eqWhole_g v386.1 v386.2.1 v386.2.2 v326.1 v326.2 ([] : List Int)) fun v389 =>
                 (.br (!v389) (
                  .leaf false
                 ) (
                  (.br (!(true == true)) (
                   .leaf false
                  ) (
                   (.call (laws_heldWhole_g v377.2 (1 : Int)) fun v390 =>
                   (.br (decide (v390 < (0 : Int))) (
                    .leaf false
                   ) (
                    (.br (!decide (v390 = v377.1)) (
                     .leaf false
                    ) (
                     .leaf true
                    ))
                   )))
                  ))
                 )))
                ))
               ))))
              ))
             )))))
            ))
           )))
          ))))
         ))))
        ))
       )))
      ))
     ))))
    ) (fun v327 =>
     (.call (laws_toMatrix_g v1 v2 v3) fun v391 =>
     (.call (impl_WholeOf_g v391.1 v391.2.1 v391.2.2 v4) fun v392 =>
     (.sum v392 (fun v393 =>
      (.call (laws_eqWhole_g (0 : Int) (0 : Int) ([] : List Int) v327.1 v327.2.1 v327.2.2) fun v395 =>
      (.br (!v395) (
       .leaf false
      ) (
       (.br (!(false == true)) (
        .leaf false
       ) (
        (.call (laws_toMatrix_g v1 v2 v3) fun v396 =>
        (.call (laws_eqMatrix_g v391.1 v391.2.1 v391.2.2 v396.1 v396.2.1 v396.2.2) fun v397 =>
        (.br (!v397) (
         .leaf false
        ) (
         (.call (laws_markMatrix_g v391.2.2 (1 : Int)) fun v398 =>
         (.grd (decide (v398.2.length = v391.2.2.length)) <|
         (.br (decide (v398.1 < (0 : Int))) (
          .leaf false
         ) (
          (.call (laws_eqWhole_g (0 : Int) (0 : Int) ([] : List Int) v327.1 v327.2.1 v327.2.2) fun v399 =>
          (.br (!v399) (
           .leaf false
          ) (
           (.br (!(false == true)) (
            .leaf false
           ) (
            (.call (laws_markWhole_i1_g (1 : Int)) fun v400 =>
            (.call (laws_heldWhole_g ([] : List Int) (1 : Int)) fun v401 =>
            (.br (decide (v401 < (0 : Int))) (
             .leaf false
            ) (
             (.br (!decide (v401 = v400)) (
              .leaf false
             ) (
              (.call (laws_toMatrix_g v1 v2 v3) fun v402 =>
              (.call (impl_WholeOf_g v402.1 v402.2.1 v402.2.2 v4) fun v403 =>
              (.sum v403 (fun v404 =>
               (.call (laws_eqWhole_g (0 : Int) (0 : Int) ([] : List Int) v327.1 v327.2.1 v327.2.2) fun v406 =>
               (.br (!v406) (
                .leaf false
               ) (
                (.br (!(false == true)) (
                 .leaf false
                ) (
                 (.call (laws_heldWhole_g ([] : List Int) (1 : Int)) fun v407 =>
                 (.br (decide (v407 < (0 : Int))) (
                  .leaf false
                 ) (
                  (.br (!decide (v407 = v400)) (
                   .leaf false
                  ) (
                   .leaf true
                  ))
                 )))
                ))
               )))
              ) (fun v405 =>
               (.sum v405 (fun v408 =>
                (.call (laws_eqWhole_g v408.1 v408.2 ([] : List Int) v327.1 v327.2.1 v327.2.2) fun v410 =>
                (.br (!v410) (
                 .leaf false
                ) (
                 (.br (!(true == true)) (
                  .leaf false
                 ) (
                  (.call (laws_heldWhole_g ([] : List Int) (1 : Int)) fun v411 =>
                  (.br (decide (v411 < (0 : Int))) (
                   .leaf false
                  ) (
                   (.br (!decide (v411 = v400)) (
                    .leaf false
                   ) (
                    .leaf true
                   ))
                  )))
                 ))
                )))
               ) (fun v409 =>
                (.call (laws_eqWhole_g v409.1 v409.2.1 v409.2.2 v327.1 v327.2.1 v327.2.2) fun v412 =>
                (.br (!v412) (
                 .leaf false
                ) (
                 (.br (!(true == true)) (
                  .leaf false
                 ) (
                  (.call (laws_heldWhole_g ([] : List Int) (1 : Int)) fun v413 =>
                  (.br (decide (v413 < (0 : Int))) (
                   .leaf false
                  ) (
                   (.br (!decide (v413 = v400)) (
                    .leaf false
                   ) (
                    .leaf true
                   ))
                  )))
                 ))
                )))
               ))
              ))))
             ))
            ))))
           ))
          )))
         ))))
        ))))
       ))
      )))
     ) (fun v394 =>
      (.sum v394 (fun v414 =>
       (.call (laws_eqWhole_g v414.1 v414.2 ([] : List Int) v327.1 v327.2.1 v327.2.2) fun v416 =>
       (.br (!v416) (
        .leaf false
       ) (
        (.br (!(true == true)) (
         .leaf false
        ) (
         (.call (laws_toMatrix_g v1 v2 v3) fun v417 =>
         (.call (laws_eqMatrix_g v391.1 v391.2.1 v391.2.2 v417.1 v417.2.1 v417.2.2) fun v418 =>
         (.br (!v418) (
          .leaf false
         ) (
          (.call (laws_markMatrix_g v391.2.2 (1 : Int)) fun v419 =>
          (.grd (decide (v419.2.length = v391.2.2.length)) <|
          (.br (decide (v419.1 < (0 : Int))) (
           .leaf false
          ) (
           (.call (laws_eqWhole_g v414.1 v414.2 ([] : List Int) v327.1 v327.2.1 v327.2.2) fun v420 =>
           (.br (!v420) (
            .leaf false
           ) (
            (.br (!(true == true)) (
             .leaf false
            ) (
             (.call (laws_markWhole_i1_g (1 : Int)) fun v421 =>
             (.call (laws_heldWhole_g ([] : List Int) (1 : Int)) fun v422 =>
             (.br (decide (v422 < (0 : Int))) (
              .leaf false
             ) (
              (.br (!decide (v422 = v421)) (
               .leaf false
              ) (
               (.call (laws_toMatrix_g v1 v2 v3) fun v423 =>
               (.call (impl_WholeOf_g v423.1 v423.2.1 v423.2.2 v4) fun v424 =>
               (.sum v424 (fun v425 =>
                (.call (laws_eqWhole_g (0 : Int) (0 : Int) ([] : List Int) v327.1 v327.2.1 v327.2.2) fun v427 =>
                (.br (!v427) (
                 .leaf false
                ) (
                 (.br (!(false == true)) (
                  .leaf false
                 ) (
                  (.call (laws_heldWhole_g ([] : List Int) (1 : Int)) fun v428 =>
                  (.br (decide (v428 < (0 : Int))) (
                   .leaf false
                  ) (
                   (.br (!decide (v428 = v421)) (
                    .leaf false
                   ) (
                    .leaf true
                   ))
                  )))
                 ))
                )))
               ) (fun v426 =>
                (.sum v426 (fun v429 =>
                 (.call (laws_eqWhole_g v429.1 v429.2 ([] : List Int) v327.1 v327.2.1 v327.2.2) fun v431 =>
                 (.br (!v431) (
                  .leaf false
                 ) (
                  (.br (!(true == true)) (
                   .leaf false
                  ) (
                   (.call (laws_heldWhole_g ([] : List Int) (1 : Int)) fun v432 =>
                   (.br (decide (v432 < (0 : Int))) (
                    .leaf false
                   ) (
                    (.br (!decide (v432 = v421)) (
                     .leaf false
                    ) (
                     .leaf true
                    ))
                   )))
                  ))
                 )))
                ) (fun v430 =>
                 (.call (laws_eqWhole_g v430.1 v430.2.1 v430.2.2 v327.1 v327.2.1 v327.2.2) fun v433 =>
                 (.br (!v433) (
                  .leaf false
                 ) (
                  (.br (!(true == true)) (
                   .leaf false
                  ) (
                   (.call (laws_heldWhole_g ([] : List Int) (1 : Int)) fun v434 =>
                   (.br (decide (v434 < (0 : Int))) (
                    .leaf false
                   ) (
                    (.br (!decide (v434 = v421)) (
                     .leaf false
                    ) (
                     .leaf true
                    ))
                   )))
                  ))
                 )))
                ))
               ))))
              ))
             ))))
            ))
           )))
          ))))
         ))))
        ))
       )))
      ) (fun v415 =>
       (.call (laws_eqWhole_g v415.1 v415.2.1 v415.2.2 v327.1 v327.2.1 v327.2.2) fun v435 =>
       (.br (!v435) (
        .leaf false
       ) (
        (.br (!(true == true)) (
         .leaf false
        ) (
         (.call (laws_toMatrix_g v1 v2 v3) fun v436 =>
         (.call (laws_eqMatrix_g v391.1 v391.2.1 v391.2.2 v436.1 v436.2.1 v436.2.2) fun v437 =>
         (.br (!v437) (
          .leaf false
         ) (
          (.call (laws_markMatrix_g v391.2.2 (1 : Int)) fun v438 =>
          (.grd (decide (v438.2.length = v391.2.2.length)) <|
          (.br (decide (v438.1 < (0 : Int))) (
           .leaf false
          ) (
           (.call (laws_eqWhole_g v415.1 v415.2.1 v415.2.2 v327.1 v327.2.1 v327.2.2) fun v439 =>
           (.br (!v439) (
            .leaf false
           ) (
            (.br (!(true == true)) (
             .leaf false
            ) (
             (.call (laws_markWhole_g v415.2.2 (1 : Int)) fun v440 =>
             (.grd (decide (v440.2.length = v415.2.2.length)) <|
             (.call (laws_heldWhole_g v440.2 (1 : Int)) fun v441 =>
             (.br (decide (v441 < (0 : Int))) (
              .leaf false
             ) (
              (.br (!decide (v441 = v440.1)) (
               .leaf false
              ) (
               (.call (laws_toMatrix_g v1 v2 v3) fun v442 =>
               (.call (impl_WholeOf_g v442.1 v442.2.1 v442.2.2 v4) fun v443 =>
               (.sum v443 (fun v444 =>
                (.call (laws_eqWhole_g (0 : Int) (0 : Int) ([] : List Int) v327.1 v327.2.1 v327.2.2) fun v446 =>
                (.br (!v446) (
                 .leaf false
                ) (
                 (.br (!(false == true)) (
                  .leaf false
                 ) (
                  (.call (laws_heldWhole_g v440.2 (1 : Int)) fun v447 =>
                  (.br (decide (v447 < (0 : Int))) (
                   .leaf false
                  ) (
                   (.br (!decide (v447 = v440.1)) (
                    .leaf false
                   ) (
                    .leaf true
                   ))
                  )))
                 ))
                )))
               ) (fun v445 =>
                (.sum v445 (fun v448 =>
                 (.call (laws_eqWhole_g v448.1 v448.2 ([] : List Int) v327.1 v327.2.1 v327.2.2) fun v450 =>
                 (.br (!v450) (
                  .leaf false
                 ) (
                  (.br (!(true == true)) (
                   .leaf false
                  ) (
                   (.call (laws_heldWhole_g v440.2 (1 : Int)) fun v451 =>
                   (.br (decide (v451 < (0 : Int))) (
                    .leaf false
                   ) (
                    (.br (!decide (v451 = v440.1)) (
                     .leaf false
                    ) (
                     .leaf true
                    ))
                   )))
                  ))
                 )))
                ) (fun v449 =>
                 (.call (laws_eqWhole_g v449.1 v449.2.1 v449.2.2 v327.1 v327.2.1 v327.2.2) fun v452 =>
                 (.br (!v452) (
                  .leaf false
                 ) (
                  (.br (!(true == true)) (
                   .leaf false
                  ) (
                   (.call (laws_heldWhole_g v440.2 (1 : Int)) fun v453 =>
                   (.br (decide (v453 < (0 : Int))) (
                    .leaf false
                   ) (
                    (.br (!decide (v453 = v440.1)) (
                     .leaf false
                    ) (
                     .leaf true
                    ))
                   )))
                  ))
                 )))
                ))
               ))))
              ))
             )))))
            ))
           )))
          ))))
         ))))
        ))
       )))
      ))
     ))))
    ))
   ))))
  ))

noncomputable def laws_FnExactWholeOf_g (v1 : Int) (v2 : Int) (v3 : List Nat) (v4 : Nat) : Option (Bool) := (laws_FnExactWholeOf_T v1 v2 v3 v4).run
def laws_FnExactWholeOf_enc (v1 : Int) (v2 : Int) (v3 : List Nat) (v4 : Nat) (y : Bool) : Rs := (.bool y, [])
theorem laws_FnExactWholeOf_den (v1 : Int) (v2 : Int) (v3 : List Nat) (v4 : Nat) : (den TT (tabD laws_FnExactWholeOf_tab) (tabM laws_FnExactWholeOf_tab) (laws_FnExactWholeOf_LO v1 v2 v3 v4) (codeOf Try.f7) ([.agg [.int .i64 v1, .int .i64 v2, .bslc (BR.root 0) (.f32 v3)], .flt .f32 v4] ++ List.replicate (Try.f7.ntmps - ([.agg [.int .i64 v1, .int .i64 v2, .bslc (BR.root 0) (.f32 v3)], .flt .f32 v4] : List DV).length) .undef) []).bind (retD TT Try.f7.results.toList 0) = (laws_FnExactWholeOf_T v1 v2 v3 v4).bind fun y => .leaf (laws_FnExactWholeOf_enc v1 v2 v3 v4 y) := by kernel_rfl
theorem laws_FnExactWholeOf_fn (v1 : Int) (v2 : Int) (v3 : List Nat) (v4 : Nat) (F : Fr) (hm : F.ids.length = 0) (h0 : St F [] F.H0) (hA : DVs.Ok F [] [.agg [.int .i64 v1, .int .i64 v2, .bslc (BR.root 0) (.f32 v3)], .flt .f32 v4]) {y : Bool} (hy : laws_FnExactWholeOf_g v1 v2 v3 v4 = some y) : ∃ H', FnOk Try.prog 7 (DVs.av F [.agg [.int .i64 v1, .int .i64 v2, .bslc (BR.root 0) (.f32 v3)], .flt .f32 v4]) F.H0 ((laws_FnExactWholeOf_enc v1 v2 v3 v4 y).1.av F) H' ∧ St F (laws_FnExactWholeOf_enc v1 v2 v3 v4 y).2 H' ∧ (laws_FnExactWholeOf_enc v1 v2 v3 v4 y).1.Ok F (laws_FnExactWholeOf_enc v1 v2 v3 v4 y).2 :=
  fn_fin tok laws_FnExactWholeOf_hO mixed Try.func7 Try.call7 (by kernel_rfl) (LoopsOk_eq (l := []) (by kernel_rfl) trivial) (laws_FnExactWholeOf_den v1 v2 v3 v4) hy hm h0 hA
noncomputable def laws_FnExactWholeOf_F : DFn := fun args L =>
  match args with
  | [.agg [.int .i64 v1, .int .i64 v2, a1], .flt .f32 v4] =>
    optT (rowF32 L a1) fun v3 =>
    .call (laws_FnExactWholeOf_g v1 v2 v3 v4) fun y => .leaf (.bool y, L)
  | _ => .fail
theorem laws_FnExactWholeOf_Fok : COk Try.prog 7 laws_FnExactWholeOf_F true := by
  intro F L H args r L' hs ha hr
  unfold laws_FnExactWholeOf_F at hr
  split at hr
  · rename_i v1 v2 a1 v4
    obtain ⟨v3, hv3, hr⟩ := optT_run hr
    simp only [Tree.run] at hr
    obtain ⟨y, hy, hr⟩ := Option.bind_eq_some_iff.1 hr
    simp only [Tree.run, Option.some.injEq, Prod.mk.injEq] at hr
    obtain ⟨rfl, rfl⟩ := hr
    exact call_ok0 hs (fun k => (([a1.av F] : List AV)[k]?).getD .top) [.agg [.int .i64 v1, .int .i64 v2, a1], .flt .f32 v4] [.agg [.int .i64 v1, .int .i64 v2, .bslc (BR.root 0) (.f32 v3)], .flt .f32 v4] (fun F' h0 hi hρ => ⟨by simp [DVs.av, DV.av, BR.av, hρ], laws_FnExactWholeOf_fn v1 v2 v3 v4 F' (by rw [hi]; rfl) (st_nil hi) ⟨⟨trivial, trivial, bslc_ok hi (by rw [h0, hρ]; exact rowF32_ok hs (DVs.okAt (DVs.okAt ha 0 rfl) 2 rfl) hv3), trivial⟩, trivial, trivial⟩ hy⟩) rfl
  · cases hr
/-! laws.szFloat32S -/
noncomputable def laws_szFloat32S_len_LO (v462 : Nat) (v463 : Int) : LOr := fun id e L =>
  match id with
  | _ => .fail
noncomputable def laws_szFloat32S_len_tab : List (FuncId × DFn × Bool) := []
theorem laws_szFloat32S_len_hO : OrcOk Try.prog (tabD laws_szFloat32S_len_tab) (tabM laws_szFloat32S_len_tab) := tabD_nil _
noncomputable def laws_szFloat32S_len_T (v462 : Nat) (v463 : Int) : Tree (Int) :=
  (.br (decide (IntKind.i64.wrap (v463 - ((v462 : Nat) : Int)) < (0 : Int))) (
   .leaf (-1 : Int)
  ) (
   .leaf (IntKind.i64.wrap (v463 - ((v462 : Nat) : Int)))
  ))

noncomputable def laws_szFloat32S_len_g (v462 : Nat) (v463 : Int) : Option (Int) := (laws_szFloat32S_len_T v462 v463).run
def laws_szFloat32S_len_enc (v462 : Nat) (v463 : Int) (y : Int) : Rs := (.int .i64 y, [])
theorem laws_szFloat32S_len_den (v462 : Nat) (v463 : Int) : (den TT (tabD laws_szFloat32S_len_tab) (tabM laws_szFloat32S_len_tab) (laws_szFloat32S_len_LO v462 v463) (codeOf Try.f64) ([.hslc (BR.root 0) v462, .int .i64 v463] ++ List.replicate (Try.f64.ntmps - ([.hslc (BR.root 0) v462, .int .i64 v463] : List DV).length) .undef) []).bind (retD TT Try.f64.results.toList 0) = (laws_szFloat32S_len_T v462 v463).bind fun y => .leaf (laws_szFloat32S_len_enc v462 v463 y) := by kernel_rfl
theorem laws_szFloat32S_len_fn (v462 : Nat) (v463 : Int) (F : Fr) (hm : F.ids.length = 0) (h0 : St F [] F.H0) (hA : DVs.Ok F [] [.hslc (BR.root 0) v462, .int .i64 v463]) {y : Int} (hy : laws_szFloat32S_len_g v462 v463 = some y) : ∃ H', FnOk Try.prog 64 (DVs.av F [.hslc (BR.root 0) v462, .int .i64 v463]) F.H0 ((laws_szFloat32S_len_enc v462 v463 y).1.av F) H' ∧ St F (laws_szFloat32S_len_enc v462 v463 y).2 H' ∧ (laws_szFloat32S_len_enc v462 v463 y).1.Ok F (laws_szFloat32S_len_enc v462 v463 y).2 :=
  fn_fin tok laws_szFloat32S_len_hO mixed Try.func64 Try.call64 (by kernel_rfl) (LoopsOk_eq (l := []) (by kernel_rfl) trivial) (laws_szFloat32S_len_den v462 v463) hy hm h0 hA
def laws_szFloat32S_len_v (v462 : Nat) (v463 : Int) : Int :=
  if (decide (IntKind.i64.wrap (v463 - ((v462 : Nat) : Int)) < (0 : Int))) = true then (
   (-1 : Int)
  ) else (
   IntKind.i64.wrap (v463 - ((v462 : Nat) : Int))
  )
theorem laws_szFloat32S_len_tot (v462 : Nat) (v463 : Int) : laws_szFloat32S_len_g v462 v463 = some (laws_szFloat32S_len_v v462 v463) := by
  unfold laws_szFloat32S_len_g laws_szFloat32S_len_T laws_szFloat32S_len_v
  simp only [Tree.run]
  repeat' (first | rfl | split)
noncomputable def laws_szFloat32S_len_F : DFn := fun args L =>
  match args with
  | [a1, .int .i64 v463] =>
    optT (lenV L a1) fun v462 =>
    .leaf (.int .i64 (laws_szFloat32S_len_v v462 v463), L)
  | _ => .fail
theorem laws_szFloat32S_len_Fok : COk Try.prog 64 laws_szFloat32S_len_F true := by
  intro F L H args r L' hs ha hr
  unfold laws_szFloat32S_len_F at hr
  split at hr
  · rename_i a1 v463
    obtain ⟨v462, hv462, hr⟩ := optT_run hr
    have hy := laws_szFloat32S_len_tot v462 v463
    generalize laws_szFloat32S_len_v v462 v463 = y at hy hr
    simp only [Tree.run, Option.some.injEq, Prod.mk.injEq] at hr
    obtain ⟨rfl, rfl⟩ := hr
    exact call_ok0 hs (fun k => (([a1.av F] : List AV)[k]?).getD .top) [a1, .int .i64 v463] [.hslc (BR.root 0) v462, .int .i64 v463] (fun F' h0 hi hρ => ⟨by simp [DVs.av, DV.av, BR.av, hρ], laws_szFloat32S_len_fn v462 v463 F' (by rw [hi]; rfl) (st_nil hi) ⟨hslc_ok hi (by rw [h0, hρ]; exact lenV_ok hs (DVs.okAt ha 0 rfl) hv462), trivial, trivial⟩ hy⟩) rfl
  · cases hr
/-! laws.szMatrix -/
noncomputable def laws_szMatrix_len_LO (v458 : Int) (v459 : Int) (v460 : Nat) (v461 : Int) : LOr := fun id e L =>
  match id with
  | _ => .fail
noncomputable def laws_szMatrix_len_tab : List (FuncId × DFn × Bool) := [(64, laws_szFloat32S_len_F, true)]
theorem laws_szMatrix_len_hO : OrcOk Try.prog (tabD laws_szMatrix_len_tab) (tabM laws_szMatrix_len_tab) := tabD_cons laws_szFloat32S_len_Fok (tabD_nil _)
noncomputable def laws_szMatrix_len_T (v460 : Nat) (v461 : Int) : Tree (Int) :=
  (.br (decide ((laws_szFloat32S_len_v v460 v461) < (0 : Int))) (
   .leaf (-1 : Int)
  ) (
   .leaf (laws_szFloat32S_len_v v460 v461)
  ))

noncomputable def laws_szMatrix_len_g (v460 : Nat) (v461 : Int) : Option (Int) := (laws_szMatrix_len_T v460 v461).run
def laws_szMatrix_len_enc (v458 : Int) (v459 : Int) (v460 : Nat) (v461 : Int) (y : Int) : Rs := (.int .i64 y, [])
theorem laws_szMatrix_len_den (v458 : Int) (v459 : Int) (v460 : Nat) (v461 : Int) : (den TT (tabD laws_szMatrix_len_tab) (tabM laws_szMatrix_len_tab) (laws_szMatrix_len_LO v458 v459 v460 v461) (codeOf Try.f29) ([.agg [.int .i64 v458, .int .i64 v459, .hslc (BR.root 0) v460], .int .i64 v461] ++ List.replicate (Try.f29.ntmps - ([.agg [.int .i64 v458, .int .i64 v459, .hslc (BR.root 0) v460], .int .i64 v461] : List DV).length) .undef) []).bind (retD TT Try.f29.results.toList 0) = (laws_szMatrix_len_T v460 v461).bind fun y => .leaf (laws_szMatrix_len_enc v458 v459 v460 v461 y) := by kernel_rfl
theorem laws_szMatrix_len_fn (v458 : Int) (v459 : Int) (v460 : Nat) (v461 : Int) (F : Fr) (hm : F.ids.length = 0) (h0 : St F [] F.H0) (hA : DVs.Ok F [] [.agg [.int .i64 v458, .int .i64 v459, .hslc (BR.root 0) v460], .int .i64 v461]) {y : Int} (hy : laws_szMatrix_len_g v460 v461 = some y) : ∃ H', FnOk Try.prog 29 (DVs.av F [.agg [.int .i64 v458, .int .i64 v459, .hslc (BR.root 0) v460], .int .i64 v461]) F.H0 ((laws_szMatrix_len_enc v458 v459 v460 v461 y).1.av F) H' ∧ St F (laws_szMatrix_len_enc v458 v459 v460 v461 y).2 H' ∧ (laws_szMatrix_len_enc v458 v459 v460 v461 y).1.Ok F (laws_szMatrix_len_enc v458 v459 v460 v461 y).2 :=
  fn_fin tok laws_szMatrix_len_hO mixed Try.func29 Try.call29 (by kernel_rfl) (LoopsOk_eq (l := []) (by kernel_rfl) trivial) (laws_szMatrix_len_den v458 v459 v460 v461) hy hm h0 hA
def laws_szMatrix_len_v (v460 : Nat) (v461 : Int) : Int :=
  if (decide ((laws_szFloat32S_len_v v460 v461) < (0 : Int))) = true then (
   (-1 : Int)
  ) else (
   (laws_szFloat32S_len_v v460 v461)
  )
theorem laws_szMatrix_len_tot (v460 : Nat) (v461 : Int) : laws_szMatrix_len_g v460 v461 = some (laws_szMatrix_len_v v460 v461) := by
  unfold laws_szMatrix_len_g laws_szMatrix_len_T laws_szMatrix_len_v
  simp only [Tree.run]
  repeat' (first | rfl | split)
noncomputable def laws_szMatrix_len_F : DFn := fun args L =>
  match args with
  | [.agg [.int .i64 v458, .int .i64 v459, a1], .int .i64 v461] =>
    optT (lenV L a1) fun v460 =>
    .leaf (.int .i64 (laws_szMatrix_len_v v460 v461), L)
  | _ => .fail
theorem laws_szMatrix_len_Fok : COk Try.prog 29 laws_szMatrix_len_F true := by
  intro F L H args r L' hs ha hr
  unfold laws_szMatrix_len_F at hr
  split at hr
  · rename_i v458 v459 a1 v461
    obtain ⟨v460, hv460, hr⟩ := optT_run hr
    have hy := laws_szMatrix_len_tot v460 v461
    generalize laws_szMatrix_len_v v460 v461 = y at hy hr
    simp only [Tree.run, Option.some.injEq, Prod.mk.injEq] at hr
    obtain ⟨rfl, rfl⟩ := hr
    exact call_ok0 hs (fun k => (([a1.av F] : List AV)[k]?).getD .top) [.agg [.int .i64 v458, .int .i64 v459, a1], .int .i64 v461] [.agg [.int .i64 v458, .int .i64 v459, .hslc (BR.root 0) v460], .int .i64 v461] (fun F' h0 hi hρ => ⟨by simp [DVs.av, DV.av, BR.av, hρ], laws_szMatrix_len_fn v458 v459 v460 v461 F' (by rw [hi]; rfl) (st_nil hi) ⟨⟨trivial, trivial, hslc_ok hi (by rw [h0, hρ]; exact lenV_ok hs (DVs.okAt (DVs.okAt ha 0 rfl) 2 rfl) hv460), trivial⟩, trivial, trivial⟩ hy⟩) rfl
  · cases hr
/-! laws.FnExactWholeOf -/
noncomputable def laws_FnExactWholeOf_len_LO (v454 : Int) (v455 : Int) (v456 : Nat) (v457 : Nat) : LOr := fun id e L =>
  match id with
  | _ => .fail
noncomputable def laws_FnExactWholeOf_len_tab : List (FuncId × DFn × Bool) := [(29, laws_szMatrix_len_F, true)]
theorem laws_FnExactWholeOf_len_hO : OrcOk Try.prog (tabD laws_FnExactWholeOf_len_tab) (tabM laws_FnExactWholeOf_len_tab) := tabD_cons laws_szMatrix_len_Fok (tabD_nil _)
noncomputable def laws_FnExactWholeOf_len_T (v456 : Nat) : Tree (Bool) :=
  (.br (decide ((laws_szMatrix_len_v v456 (1048576 : Int)) < (0 : Int))) (
   .leaf true
  ) (
   .fail
  ))

noncomputable def laws_FnExactWholeOf_len_g (v456 : Nat) : Option (Bool) := (laws_FnExactWholeOf_len_T v456).run
def laws_FnExactWholeOf_len_enc (v454 : Int) (v455 : Int) (v456 : Nat) (v457 : Nat) (y : Bool) : Rs := (.bool y, [])
theorem laws_FnExactWholeOf_len_den (v454 : Int) (v455 : Int) (v456 : Nat) (v457 : Nat) : (den TT (tabD laws_FnExactWholeOf_len_tab) (tabM laws_FnExactWholeOf_len_tab) (laws_FnExactWholeOf_len_LO v454 v455 v456 v457) (codeOf Try.f7) ([.agg [.int .i64 v454, .int .i64 v455, .hslc (BR.root 0) v456], .flt .f32 v457] ++ List.replicate (Try.f7.ntmps - ([.agg [.int .i64 v454, .int .i64 v455, .hslc (BR.root 0) v456], .flt .f32 v457] : List DV).length) .undef) []).bind (retD TT Try.f7.results.toList 0) = (laws_FnExactWholeOf_len_T v456).bind fun y => .leaf (laws_FnExactWholeOf_len_enc v454 v455 v456 v457 y) := by kernel_rfl
theorem laws_FnExactWholeOf_len_fn (v454 : Int) (v455 : Int) (v456 : Nat) (v457 : Nat) (F : Fr) (hm : F.ids.length = 0) (h0 : St F [] F.H0) (hA : DVs.Ok F [] [.agg [.int .i64 v454, .int .i64 v455, .hslc (BR.root 0) v456], .flt .f32 v457]) {y : Bool} (hy : laws_FnExactWholeOf_len_g v456 = some y) : ∃ H', FnOk Try.prog 7 (DVs.av F [.agg [.int .i64 v454, .int .i64 v455, .hslc (BR.root 0) v456], .flt .f32 v457]) F.H0 ((laws_FnExactWholeOf_len_enc v454 v455 v456 v457 y).1.av F) H' ∧ St F (laws_FnExactWholeOf_len_enc v454 v455 v456 v457 y).2 H' ∧ (laws_FnExactWholeOf_len_enc v454 v455 v456 v457 y).1.Ok F (laws_FnExactWholeOf_len_enc v454 v455 v456 v457 y).2 :=
  fn_fin tok laws_FnExactWholeOf_len_hO mixed Try.func7 Try.call7 (by kernel_rfl) (LoopsOk_eq (l := []) (by kernel_rfl) trivial) (laws_FnExactWholeOf_len_den v454 v455 v456 v457) hy hm h0 hA
noncomputable def laws_FnExactWholeOf_len_F : DFn := fun args L =>
  match args with
  | [.agg [.int .i64 v454, .int .i64 v455, a1], .flt .f32 v457] =>
    optT (lenV L a1) fun v456 =>
    .call (laws_FnExactWholeOf_len_g v456) fun y => .leaf (.bool y, L)
  | _ => .fail
theorem laws_FnExactWholeOf_len_Fok : COk Try.prog 7 laws_FnExactWholeOf_len_F true := by
  intro F L H args r L' hs ha hr
  unfold laws_FnExactWholeOf_len_F at hr
  split at hr
  · rename_i v454 v455 a1 v457
    obtain ⟨v456, hv456, hr⟩ := optT_run hr
    simp only [Tree.run] at hr
    obtain ⟨y, hy, hr⟩ := Option.bind_eq_some_iff.1 hr
    simp only [Tree.run, Option.some.injEq, Prod.mk.injEq] at hr
    obtain ⟨rfl, rfl⟩ := hr
    exact call_ok0 hs (fun k => (([a1.av F] : List AV)[k]?).getD .top) [.agg [.int .i64 v454, .int .i64 v455, a1], .flt .f32 v457] [.agg [.int .i64 v454, .int .i64 v455, .hslc (BR.root 0) v456], .flt .f32 v457] (fun F' h0 hi hρ => ⟨by simp [DVs.av, DV.av, BR.av, hρ], laws_FnExactWholeOf_len_fn v454 v455 v456 v457 F' (by rw [hi]; rfl) (st_nil hi) ⟨⟨trivial, trivial, hslc_ok hi (by rw [h0, hρ]; exact lenV_ok hs (DVs.okAt (DVs.okAt ha 0 rfl) 2 rfl) hv456), trivial⟩, trivial, trivial⟩ hy⟩) rfl
  · cases hr
end Go.Proofs.Ytjadfgeemfdbmaa.AM
