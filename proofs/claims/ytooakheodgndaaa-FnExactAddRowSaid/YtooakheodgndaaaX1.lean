/- Functions: what they come to. -/
import Derived.Test.YtooakheodgndaaaBase
set_option maxRecDepth 100000
set_option maxHeartbeats 4000000
set_option linter.unusedSimpArgs false
set_option linter.unusedVariables false
namespace Go.Proofs.Ytooakheodgndaaa.AM
open Go.Proofs
/-! laws.szFloat32S -/
noncomputable def laws_szFloat32S_LO (v9 : List Nat) (v10 : Int) : LOr := fun id e L =>
  match id with
  | _ => .fail
noncomputable def laws_szFloat32S_tab : List (FuncId × DFn × Bool) := []
theorem laws_szFloat32S_hO : OrcOk Try.prog (tabD laws_szFloat32S_tab) (tabM laws_szFloat32S_tab) := tabD_nil _
noncomputable def laws_szFloat32S_T (v9 : List Nat) (v10 : Int) : Tree (Int) :=
  (.br (decide (IntKind.i64.wrap (v10 - ((v9.length : Nat) : Int)) < (0 : Int))) (
   .leaf (-1 : Int)
  ) (
   .leaf (IntKind.i64.wrap (v10 - ((v9.length : Nat) : Int)))
  ))

noncomputable def laws_szFloat32S_g (v9 : List Nat) (v10 : Int) : Option (Int) := (laws_szFloat32S_T v9 v10).run
def laws_szFloat32S_enc (v9 : List Nat) (v10 : Int) (y : Int) : Rs := (.int .i64 y, [])
theorem laws_szFloat32S_den (v9 : List Nat) (v10 : Int) : (den TT (tabD laws_szFloat32S_tab) (tabM laws_szFloat32S_tab) (laws_szFloat32S_LO v9 v10) (codeOf Try.f56) ([.bslc (BR.root 0) (.f32 v9), .int .i64 v10] ++ List.replicate (Try.f56.ntmps - ([.bslc (BR.root 0) (.f32 v9), .int .i64 v10] : List DV).length) .undef) []).bind (retD TT Try.f56.results.toList 0) = (laws_szFloat32S_T v9 v10).bind fun y => .leaf (laws_szFloat32S_enc v9 v10 y) := by kernel_rfl
theorem laws_szFloat32S_fn (v9 : List Nat) (v10 : Int) (F : Fr) (hm : F.ids.length = 0) (h0 : St F [] F.H0) (hA : DVs.Ok F [] [.bslc (BR.root 0) (.f32 v9), .int .i64 v10]) {y : Int} (hy : laws_szFloat32S_g v9 v10 = some y) : ∃ H', FnOk Try.prog 56 (DVs.av F [.bslc (BR.root 0) (.f32 v9), .int .i64 v10]) F.H0 ((laws_szFloat32S_enc v9 v10 y).1.av F) H' ∧ St F (laws_szFloat32S_enc v9 v10 y).2 H' ∧ (laws_szFloat32S_enc v9 v10 y).1.Ok F (laws_szFloat32S_enc v9 v10 y).2 :=
  fn_fin tok laws_szFloat32S_hO mixed Try.func56 Try.call56 (by kernel_rfl) (LoopsOk_eq (l := []) (by kernel_rfl) trivial) (laws_szFloat32S_den v9 v10) hy hm h0 hA
def laws_szFloat32S_v (v9 : List Nat) (v10 : Int) : Int :=
  if (decide (IntKind.i64.wrap (v10 - ((v9.length : Nat) : Int)) < (0 : Int))) = true then (
   (-1 : Int)
  ) else (
   IntKind.i64.wrap (v10 - ((v9.length : Nat) : Int))
  )
theorem laws_szFloat32S_tot (v9 : List Nat) (v10 : Int) : laws_szFloat32S_g v9 v10 = some (laws_szFloat32S_v v9 v10) := by
  unfold laws_szFloat32S_g laws_szFloat32S_T laws_szFloat32S_v
  simp only [Tree.run]
  repeat' (first | rfl | split)
noncomputable def laws_szFloat32S_F : DFn := fun args L =>
  match args with
  | [a1, .int .i64 v10] =>
    optT (rowF32 L a1) fun v9 =>
    .leaf (.int .i64 (laws_szFloat32S_v v9 v10), L)
  | _ => .fail
theorem laws_szFloat32S_Fok : COk Try.prog 56 laws_szFloat32S_F true := by
  intro F L H args r L' hs ha hr
  unfold laws_szFloat32S_F at hr
  split at hr
  · rename_i a1 v10
    obtain ⟨v9, hv9, hr⟩ := optT_run hr
    have hy := laws_szFloat32S_tot v9 v10
    generalize laws_szFloat32S_v v9 v10 = y at hy hr
    simp only [Tree.run, Option.some.injEq, Prod.mk.injEq] at hr
    obtain ⟨rfl, rfl⟩ := hr
    exact call_ok0 hs (fun k => (([a1.av F] : List AV)[k]?).getD .top) [a1, .int .i64 v10] [.bslc (BR.root 0) (.f32 v9), .int .i64 v10] (fun F' h0 hi hρ => ⟨by simp [DVs.av, DV.av, BR.av, hρ], laws_szFloat32S_fn v9 v10 F' (by rw [hi]; rfl) (st_nil hi) ⟨bslc_ok hi (by rw [h0, hρ]; exact rowF32_ok hs (DVs.okAt ha 0 rfl) hv9), trivial, trivial⟩ hy⟩) rfl
  · cases hr
/-! laws.szMatrix -/
noncomputable def laws_szMatrix_LO (v5 : Int) (v6 : Int) (v7 : List Nat) (v8 : Int) : LOr := fun id e L =>
  match id with
  | _ => .fail
noncomputable def laws_szMatrix_tab : List (FuncId × DFn × Bool) := [(56, laws_szFloat32S_F, true)]
theorem laws_szMatrix_hO : OrcOk Try.prog (tabD laws_szMatrix_tab) (tabM laws_szMatrix_tab) := tabD_cons laws_szFloat32S_Fok (tabD_nil _)
noncomputable def laws_szMatrix_T (v7 : List Nat) (v8 : Int) : Tree (Int) :=
  (.br (decide ((laws_szFloat32S_v v7 v8) < (0 : Int))) (
   .leaf (-1 : Int)
  ) (
   .leaf (laws_szFloat32S_v v7 v8)
  ))

noncomputable def laws_szMatrix_g (v7 : List Nat) (v8 : Int) : Option (Int) := (laws_szMatrix_T v7 v8).run
def laws_szMatrix_enc (v5 : Int) (v6 : Int) (v7 : List Nat) (v8 : Int) (y : Int) : Rs := (.int .i64 y, [])
theorem laws_szMatrix_den (v5 : Int) (v6 : Int) (v7 : List Nat) (v8 : Int) : (den TT (tabD laws_szMatrix_tab) (tabM laws_szMatrix_tab) (laws_szMatrix_LO v5 v6 v7 v8) (codeOf Try.f15) ([.agg [.int .i64 v5, .int .i64 v6, .bslc (BR.root 0) (.f32 v7)], .int .i64 v8] ++ List.replicate (Try.f15.ntmps - ([.agg [.int .i64 v5, .int .i64 v6, .bslc (BR.root 0) (.f32 v7)], .int .i64 v8] : List DV).length) .undef) []).bind (retD TT Try.f15.results.toList 0) = (laws_szMatrix_T v7 v8).bind fun y => .leaf (laws_szMatrix_enc v5 v6 v7 v8 y) := by kernel_rfl
theorem laws_szMatrix_fn (v5 : Int) (v6 : Int) (v7 : List Nat) (v8 : Int) (F : Fr) (hm : F.ids.length = 0) (h0 : St F [] F.H0) (hA : DVs.Ok F [] [.agg [.int .i64 v5, .int .i64 v6, .bslc (BR.root 0) (.f32 v7)], .int .i64 v8]) {y : Int} (hy : laws_szMatrix_g v7 v8 = some y) : ∃ H', FnOk Try.prog 15 (DVs.av F [.agg [.int .i64 v5, .int .i64 v6, .bslc (BR.root 0) (.f32 v7)], .int .i64 v8]) F.H0 ((laws_szMatrix_enc v5 v6 v7 v8 y).1.av F) H' ∧ St F (laws_szMatrix_enc v5 v6 v7 v8 y).2 H' ∧ (laws_szMatrix_enc v5 v6 v7 v8 y).1.Ok F (laws_szMatrix_enc v5 v6 v7 v8 y).2 :=
  fn_fin tok laws_szMatrix_hO mixed Try.func15 Try.call15 (by kernel_rfl) (LoopsOk_eq (l := []) (by kernel_rfl) trivial) (laws_szMatrix_den v5 v6 v7 v8) hy hm h0 hA
def laws_szMatrix_v (v7 : List Nat) (v8 : Int) : Int :=
  if (decide ((laws_szFloat32S_v v7 v8) < (0 : Int))) = true then (
   (-1 : Int)
  ) else (
   (laws_szFloat32S_v v7 v8)
  )
theorem laws_szMatrix_tot (v7 : List Nat) (v8 : Int) : laws_szMatrix_g v7 v8 = some (laws_szMatrix_v v7 v8) := by
  unfold laws_szMatrix_g laws_szMatrix_T laws_szMatrix_v
  simp only [Tree.run]
  repeat' (first | rfl | split)
noncomputable def laws_szMatrix_F : DFn := fun args L =>
  match args with
  | [.agg [.int .i64 v5, .int .i64 v6, a1], .int .i64 v8] =>
    optT (rowF32 L a1) fun v7 =>
    .leaf (.int .i64 (laws_szMatrix_v v7 v8), L)
  | _ => .fail
theorem laws_szMatrix_Fok : COk Try.prog 15 laws_szMatrix_F true := by
  intro F L H args r L' hs ha hr
  unfold laws_szMatrix_F at hr
  split at hr
  · rename_i v5 v6 a1 v8
    obtain ⟨v7, hv7, hr⟩ := optT_run hr
    have hy := laws_szMatrix_tot v7 v8
    generalize laws_szMatrix_v v7 v8 = y at hy hr
    simp only [Tree.run, Option.some.injEq, Prod.mk.injEq] at hr
    obtain ⟨rfl, rfl⟩ := hr
    exact call_ok0 hs (fun k => (([a1.av F] : List AV)[k]?).getD .top) [.agg [.int .i64 v5, .int .i64 v6, a1], .int .i64 v8] [.agg [.int .i64 v5, .int .i64 v6, .bslc (BR.root 0) (.f32 v7)], .int .i64 v8] (fun F' h0 hi hρ => ⟨by simp [DVs.av, DV.av, BR.av, hρ], laws_szMatrix_fn v5 v6 v7 v8 F' (by rw [hi]; rfl) (st_nil hi) ⟨⟨trivial, trivial, bslc_ok hi (by rw [h0, hρ]; exact rowF32_ok hs (DVs.okAt (DVs.okAt ha 0 rfl) 2 rfl) hv7), trivial⟩, trivial, trivial⟩ hy⟩) rfl
  · cases hr
/-! laws.toFloat32S -/
noncomputable def laws_toFloat32S_l0_T (v14 : List Nat) (s : Int × (List Nat)) : Tree ((Int × (List Nat)) ⊕ ((List Nat))) :=
  (.br (decide (s.1 < ((v14.length : Nat) : Int))) (
   (.grd (inb s.1 v14.length) <|
   (.grd (inb s.1 ((s.2).length)) <|
   .leaf (.inl (IntKind.i64.wrap (s.1 + (1 : Int)), List.set s.2 (Int.toNat s.1) (nth v14 (Int.toNat s.1))))))
  ) (
   .leaf (.inr s.2)
  ))

noncomputable def laws_toFloat32S_l0_g (v14 : List Nat) (s0 : Int × (List Nat)) : Option ((List Nat)) := whileM (fun s => (laws_toFloat32S_l0_T v14 s).run) s0
def laws_toFloat32S_l0_E (v14 : List Nat) (s : Int × (List Nat)) : Sd := ([.bslc (BR.root 0) (.f32 v14), .top, .top, .own 0 0 ((s.2).length), .int .i64 s.1, .top, .top, .top, .top, .top, .top, .top, .top, .top, .top, .top, .top, .top, .top, .top, .top, .top], [.row (.f32 s.2) 0])
def laws_toFloat32S_l0_X (v14 : List Nat) (x : (List Nat)) : Out := (.normal, [.top, .top, .top, .own 0 0 ((x).length), .top, .top, .top, .top, .top, .top, .top, .top, .top, .top, .top, .top, .top, .top, .top, .top, .top, .top], [.row (.f32 x) 0])
def laws_toFloat32S_l0_kill : List Nat := [0, 1, 1, 0, 0, 1, 1, 1, 1, 1, 1, 1, 1, 1, 1, 1, 1, 1, 1, 1, 1, 1]
def laws_toFloat32S_l0_nx : Exit → List Nat
  | .exit 0 => [1, 1, 1, 0, 1, 1, 1, 1, 1, 1, 1, 1, 1, 1, 1, 1, 1, 1, 1, 1, 1, 1]
  | .ret => [1, 1, 0, 1, 1, 1, 1, 1, 1, 1, 1, 1, 1, 1, 1, 1, 1, 1, 1, 1, 1, 1]
  | _ => []
noncomputable def laws_toFloat32S_LO (v14 : List Nat) : LOr := fun id e L =>
  match id with
  | 0 => .need (normA 0 laws_toFloat32S_l0_kill e L = some (laws_toFloat32S_l0_E v14 ((gI (vAt e 4)), (gRF L (vAt e 3))))) (.call (laws_toFloat32S_l0_g v14 ((gI (vAt e 4)), (gRF L (vAt e 3)))) fun x => .leaf (laws_toFloat32S_l0_X v14 x))
  | _ => .fail
noncomputable def laws_toFloat32S_tab : List (FuncId × DFn × Bool) := []
theorem laws_toFloat32S_hO : OrcOk Try.prog (tabD laws_toFloat32S_tab) (tabM laws_toFloat32S_tab) := tabD_nil _
theorem laws_toFloat32S_l0_be (v14 : List Nat) (s : Int × (List Nat)) : bodyT TT (tabD laws_toFloat32S_tab) (tabM laws_toFloat32S_tab) (laws_toFloat32S_LO v14) 0 laws_toFloat32S_l0_kill laws_toFloat32S_l0_nx (bodyOf Try.f33 0) 0 (laws_toFloat32S_l0_E v14 s) = (laws_toFloat32S_l0_T v14 s).bind fun y => .leaf (outS (laws_toFloat32S_l0_E v14) (laws_toFloat32S_l0_X v14) y) := by kernel_rfl
theorem laws_toFloat32S_l0_ok (v14 : List Nat) : LSound Try.prog 0 (laws_toFloat32S_LO v14) 0 (bodyOf Try.f33 0) := by
  intro e L out h
  exact lo_ok (E := laws_toFloat32S_l0_E v14) (gT := laws_toFloat32S_l0_T v14) (X := laws_toFloat32S_l0_X v14) (s0 := ((gI (vAt e 4)), (gRF L (vAt e 3)))) tok laws_toFloat32S_hO mixed (LoopsOk_eq (l := []) (by kernel_rfl) trivial) (laws_toFloat32S_l0_be v14) rfl (by intro x; rfl) h
noncomputable def laws_toFloat32S_T (v14 : List Nat) : Tree ((List Nat)) :=
  (.need (((v14.length : Nat) : Int) = ((v14.length : Nat) : Int)) <|
  (.grd (inb ((v14.length : Nat) : Int) (maxN + 1)) <|
  (.need (some (laws_toFloat32S_l0_E v14 ((0 : Int), List.replicate (Int.toNat ((v14.length : Nat) : Int)) (0 : Nat))) = some (laws_toFloat32S_l0_E v14 ((0 : Int), List.replicate (Int.toNat ((v14.length : Nat) : Int)) (0 : Nat)))) <|
  (.call (laws_toFloat32S_l0_g v14 ((0 : Int), List.replicate (Int.toNat ((v14.length : Nat) : Int)) (0 : Nat))) fun v20 =>
  .leaf v20))))

noncomputable def laws_toFloat32S_g (v14 : List Nat) : Option ((List Nat)) := (laws_toFloat32S_T v14).run
def laws_toFloat32S_enc (v14 : List Nat) (y : (List Nat)) : Rs := (.own 0 0 ((y).length), [.row (.f32 y) 0])
theorem laws_toFloat32S_den (v14 : List Nat) : (den TT (tabD laws_toFloat32S_tab) (tabM laws_toFloat32S_tab) (laws_toFloat32S_LO v14) (codeOf Try.f33) ([.bslc (BR.root 0) (.f32 v14)] ++ List.replicate (Try.f33.ntmps - ([.bslc (BR.root 0) (.f32 v14)] : List DV).length) .undef) []).bind (retD TT Try.f33.results.toList 0) = (laws_toFloat32S_T v14).bind fun y => .leaf (laws_toFloat32S_enc v14 y) := by kernel_rfl
theorem laws_toFloat32S_fn (v14 : List Nat) (F : Fr) (hm : F.ids.length = 0) (h0 : St F [] F.H0) (hA : DVs.Ok F [] [.bslc (BR.root 0) (.f32 v14)]) {y : (List Nat)} (hy : laws_toFloat32S_g v14 = some y) : ∃ H', FnOk Try.prog 33 (DVs.av F [.bslc (BR.root 0) (.f32 v14)]) F.H0 ((laws_toFloat32S_enc v14 y).1.av F) H' ∧ St F (laws_toFloat32S_enc v14 y).2 H' ∧ (laws_toFloat32S_enc v14 y).1.Ok F (laws_toFloat32S_enc v14 y).2 :=
  fn_fin tok laws_toFloat32S_hO mixed Try.func33 Try.call33 (by kernel_rfl) (LoopsOk_eq (l := [(0, bodyOf Try.f33 0)]) (by kernel_rfl) ⟨laws_toFloat32S_l0_ok v14, trivial⟩) (laws_toFloat32S_den v14) hy hm h0 hA
noncomputable def laws_toFloat32S_F : DFn := fun args L =>
  match args with
  | [a1] =>
    optT (rowF32 L a1) fun v14 =>
    .call (laws_toFloat32S_g v14) fun y => .leaf (.own (L.length + 0) 0 ((y).length), L ++ [.row (.f32 y) 0])
  | _ => .fail
theorem laws_toFloat32S_Fok : COk Try.prog 33 laws_toFloat32S_F true := by
  intro F L H args r L' hs ha hr
  unfold laws_toFloat32S_F at hr
  split at hr
  · rename_i a1
    obtain ⟨v14, hv14, hr⟩ := optT_run hr
    simp only [Tree.run] at hr
    obtain ⟨y, hy, hr⟩ := Option.bind_eq_some_iff.1 hr
    simp only [Tree.run, Option.some.injEq, Prod.mk.injEq] at hr
    obtain ⟨rfl, rfl⟩ := hr
    exact call_ok1 hs (fun k => (([a1.av F] : List AV)[k]?).getD .top) [a1] [.bslc (BR.root 0) (.f32 v14)] (fun F' h0 hi hρ => ⟨by simp [DVs.av, DV.av, BR.av, hρ], laws_toFloat32S_fn v14 F' (by rw [hi]; rfl) (st_nil hi) ⟨bslc_ok hi (by rw [h0, hρ]; exact rowF32_ok hs (DVs.okAt ha 0 rfl) hv14), trivial⟩ hy⟩) rfl rfl
  · cases hr
/-! laws.toMatrix -/
noncomputable def laws_toMatrix_LO (v11 : Int) (v12 : Int) (v13 : List Nat) : LOr := fun id e L =>
  match id with
  | _ => .fail
noncomputable def laws_toMatrix_tab : List (FuncId × DFn × Bool) := [(33, laws_toFloat32S_F, true)]
theorem laws_toMatrix_hO : OrcOk Try.prog (tabD laws_toMatrix_tab) (tabM laws_toMatrix_tab) := tabD_cons laws_toFloat32S_Fok (tabD_nil _)
noncomputable def laws_toMatrix_T (v11 : Int) (v12 : Int) (v13 : List Nat) : Tree (Int × Int × (List Nat)) :=
  (.call (laws_toFloat32S_g v13) fun v21 =>
  .leaf (v11, v12, v21))

noncomputable def laws_toMatrix_g (v11 : Int) (v12 : Int) (v13 : List Nat) : Option (Int × Int × (List Nat)) := (laws_toMatrix_T v11 v12 v13).run
def laws_toMatrix_enc (v11 : Int) (v12 : Int) (v13 : List Nat) (y : Int × Int × (List Nat)) : Rs := (.agg [.int .i64 y.1, .int .i64 y.2.1, .own 0 0 ((y.2.2).length)], [.row (.f32 y.2.2) 0])
theorem laws_toMatrix_den (v11 : Int) (v12 : Int) (v13 : List Nat) : (den TT (tabD laws_toMatrix_tab) (tabM laws_toMatrix_tab) (laws_toMatrix_LO v11 v12 v13) (codeOf Try.f17) ([.agg [.int .i64 v11, .int .i64 v12, .bslc (BR.root 0) (.f32 v13)]] ++ List.replicate (Try.f17.ntmps - ([.agg [.int .i64 v11, .int .i64 v12, .bslc (BR.root 0) (.f32 v13)]] : List DV).length) .undef) []).bind (retD TT Try.f17.results.toList 0) = (laws_toMatrix_T v11 v12 v13).bind fun y => .leaf (laws_toMatrix_enc v11 v12 v13 y) := by kernel_rfl
theorem laws_toMatrix_fn (v11 : Int) (v12 : Int) (v13 : List Nat) (F : Fr) (hm : F.ids.length = 0) (h0 : St F [] F.H0) (hA : DVs.Ok F [] [.agg [.int .i64 v11, .int .i64 v12, .bslc (BR.root 0) (.f32 v13)]]) {y : Int × Int × (List Nat)} (hy : laws_toMatrix_g v11 v12 v13 = some y) : ∃ H', FnOk Try.prog 17 (DVs.av F [.agg [.int .i64 v11, .int .i64 v12, .bslc (BR.root 0) (.f32 v13)]]) F.H0 ((laws_toMatrix_enc v11 v12 v13 y).1.av F) H' ∧ St F (laws_toMatrix_enc v11 v12 v13 y).2 H' ∧ (laws_toMatrix_enc v11 v12 v13 y).1.Ok F (laws_toMatrix_enc v11 v12 v13 y).2 :=
  fn_fin tok laws_toMatrix_hO mixed Try.func17 Try.call17 (by kernel_rfl) (LoopsOk_eq (l := []) (by kernel_rfl) trivial) (laws_toMatrix_den v11 v12 v13) hy hm h0 hA
noncomputable def laws_toMatrix_F : DFn := fun args L =>
  match args with
  | [.agg [.int .i64 v11, .int .i64 v12, a1]] =>
    optT (rowF32 L a1) fun v13 =>
    .call (laws_toMatrix_g v11 v12 v13) fun y => .leaf (.agg [.int .i64 y.1, .int .i64 y.2.1, .own (L.length + 0) 0 ((y.2.2).length)], L ++ [.row (.f32 y.2.2) 0])
  | _ => .fail
theorem laws_toMatrix_Fok : COk Try.prog 17 laws_toMatrix_F true := by
  intro F L H args r L' hs ha hr
  unfold laws_toMatrix_F at hr
  split at hr
  · rename_i v11 v12 a1
    obtain ⟨v13, hv13, hr⟩ := optT_run hr
    simp only [Tree.run] at hr
    obtain ⟨y, hy, hr⟩ := Option.bind_eq_some_iff.1 hr
    simp only [Tree.run, Option.some.injEq, Prod.mk.injEq] at hr
    obtain ⟨rfl, rfl⟩ := hr
    exact call_ok1 hs (fun k => (([a1.av F] : List AV)[k]?).getD .top) [.agg [.int .i64 v11, .int .i64 v12, a1]] [.agg [.int .i64 v11, .int .i64 v12, .bslc (BR.root 0) (.f32 v13)]] (fun F' h0 hi hρ => ⟨by simp [DVs.av, DV.av, BR.av, hρ], laws_toMatrix_fn v11 v12 v13 F' (by rw [hi]; rfl) (st_nil hi) ⟨⟨trivial, trivial, bslc_ok hi (by rw [h0, hρ]; exact rowF32_ok hs (DVs.okAt (DVs.okAt ha 0 rfl) 2 rfl) hv13), trivial⟩, trivial⟩ hy⟩) rfl rfl
  · cases hr
/-! spec.l00In -/
noncomputable def spec_l00In_LO (v36 : Int) (v37 : Int) (v38 : Int) : LOr := fun id e L =>
  match id with
  | _ => .fail
noncomputable def spec_l00In_tab : List (FuncId × DFn × Bool) := []
theorem spec_l00In_hO : OrcOk Try.prog (tabD spec_l00In_tab) (tabM spec_l00In_tab) := tabD_nil _
noncomputable def spec_l00In_T (v36 : Int) (v37 : Int) (v38 : Int) : Tree (Bool) :=
  (.br (decide (v37 ≤ v36)) (
   .leaf (decide (v36 ≤ v38))
  ) (
   .leaf false
  ))

noncomputable def spec_l00In_g (v36 : Int) (v37 : Int) (v38 : Int) : Option (Bool) := (spec_l00In_T v36 v37 v38).run
def spec_l00In_enc (v36 : Int) (v37 : Int) (v38 : Int) (y : Bool) : Rs := (.bool y, [])
theorem spec_l00In_den (v36 : Int) (v37 : Int) (v38 : Int) : (den TT (tabD spec_l00In_tab) (tabM spec_l00In_tab) (spec_l00In_LO v36 v37 v38) (codeOf Try.f70) ([.int .i64 v36, .int .i64 v37, .int .i64 v38] ++ List.replicate (Try.f70.ntmps - ([.int .i64 v36, .int .i64 v37, .int .i64 v38] : List DV).length) .undef) []).bind (retD TT Try.f70.results.toList 0) = (spec_l00In_T v36 v37 v38).bind fun y => .leaf (spec_l00In_enc v36 v37 v38 y) := by kernel_rfl
theorem spec_l00In_fn (v36 : Int) (v37 : Int) (v38 : Int) (F : Fr) (hm : F.ids.length = 0) (h0 : St F [] F.H0) (hA : DVs.Ok F [] [.int .i64 v36, .int .i64 v37, .int .i64 v38]) {y : Bool} (hy : spec_l00In_g v36 v37 v38 = some y) : ∃ H', FnOk Try.prog 70 (DVs.av F [.int .i64 v36, .int .i64 v37, .int .i64 v38]) F.H0 ((spec_l00In_enc v36 v37 v38 y).1.av F) H' ∧ St F (spec_l00In_enc v36 v37 v38 y).2 H' ∧ (spec_l00In_enc v36 v37 v38 y).1.Ok F (spec_l00In_enc v36 v37 v38 y).2 :=
  fn_fin tok spec_l00In_hO mixed Try.func70 Try.call70 (by kernel_rfl) (LoopsOk_eq (l := []) (by kernel_rfl) trivial) (spec_l00In_den v36 v37 v38) hy hm h0 hA
def spec_l00In_v (v36 : Int) (v37 : Int) (v38 : Int) : Bool :=
  if (decide (v37 ≤ v36)) = true then (
   decide (v36 ≤ v38)
  ) else (
   false
  )
theorem spec_l00In_tot (v36 : Int) (v37 : Int) (v38 : Int) : spec_l00In_g v36 v37 v38 = some (spec_l00In_v v36 v37 v38) := by
  unfold spec_l00In_g spec_l00In_T spec_l00In_v
  simp only [Tree.run]
  repeat' (first | rfl | split)
noncomputable def spec_l00In_F : DFn := fun args L =>
  match args with
  | [.int .i64 v36, .int .i64 v37, .int .i64 v38] =>
    .leaf (.bool (spec_l00In_v v36 v37 v38), L)
  | _ => .fail
theorem spec_l00In_Fok : COk Try.prog 70 spec_l00In_F true := by
  intro F L H args r L' hs ha hr
  unfold spec_l00In_F at hr
  split at hr
  · rename_i v36 v37 v38
    have hy := spec_l00In_tot v36 v37 v38
    generalize spec_l00In_v v36 v37 v38 = y at hy hr
    simp only [Tree.run, Option.some.injEq, Prod.mk.injEq] at hr
    obtain ⟨rfl, rfl⟩ := hr
    exact call_ok0 hs (fun k => (([] : List AV)[k]?).getD .top) [.int .i64 v36, .int .i64 v37, .int .i64 v38] [.int .i64 v36, .int .i64 v37, .int .i64 v38] (fun F' h0 hi hρ => ⟨by simp [DVs.av, DV.av, BR.av, hρ], spec_l00In_fn v36 v37 v38 F' (by rw [hi]; rfl) (st_nil hi) ⟨trivial, trivial, trivial, trivial⟩ hy⟩) rfl
  · cases hr
/-! spec.l02Sides -/
noncomputable def spec_l02Sides_LO (v34 : Int) (v35 : Int) : LOr := fun id e L =>
  match id with
  | _ => .fail
noncomputable def spec_l02Sides_tab : List (FuncId × DFn × Bool) := [(70, spec_l00In_F, true)]
theorem spec_l02Sides_hO : OrcOk Try.prog (tabD spec_l02Sides_tab) (tabM spec_l02Sides_tab) := tabD_cons spec_l00In_Fok (tabD_nil _)
noncomputable def spec_l02Sides_T (v34 : Int) (v35 : Int) : Tree (Bool) :=
  (.br (spec_l00In_v v34 (1 : Int) (12 : Int)) (
   .leaf (spec_l00In_v v35 (1 : Int) (12 : Int))
  ) (
   .leaf false
  ))

noncomputable def spec_l02Sides_g (v34 : Int) (v35 : Int) : Option (Bool) := (spec_l02Sides_T v34 v35).run
def spec_l02Sides_enc (v34 : Int) (v35 : Int) (y : Bool) : Rs := (.bool y, [])
theorem spec_l02Sides_den (v34 : Int) (v35 : Int) : (den TT (tabD spec_l02Sides_tab) (tabM spec_l02Sides_tab) (spec_l02Sides_LO v34 v35) (codeOf Try.f134) ([.int .i64 v34, .int .i64 v35] ++ List.replicate (Try.f134.ntmps - ([.int .i64 v34, .int .i64 v35] : List DV).length) .undef) []).bind (retD TT Try.f134.results.toList 0) = (spec_l02Sides_T v34 v35).bind fun y => .leaf (spec_l02Sides_enc v34 v35 y) := by kernel_rfl
theorem spec_l02Sides_fn (v34 : Int) (v35 : Int) (F : Fr) (hm : F.ids.length = 0) (h0 : St F [] F.H0) (hA : DVs.Ok F [] [.int .i64 v34, .int .i64 v35]) {y : Bool} (hy : spec_l02Sides_g v34 v35 = some y) : ∃ H', FnOk Try.prog 134 (DVs.av F [.int .i64 v34, .int .i64 v35]) F.H0 ((spec_l02Sides_enc v34 v35 y).1.av F) H' ∧ St F (spec_l02Sides_enc v34 v35 y).2 H' ∧ (spec_l02Sides_enc v34 v35 y).1.Ok F (spec_l02Sides_enc v34 v35 y).2 :=
  fn_fin tok spec_l02Sides_hO mixed Try.func134 Try.call134 (by kernel_rfl) (LoopsOk_eq (l := []) (by kernel_rfl) trivial) (spec_l02Sides_den v34 v35) hy hm h0 hA
def spec_l02Sides_v (v34 : Int) (v35 : Int) : Bool :=
  if (spec_l00In_v v34 (1 : Int) (12 : Int)) = true then (
   (spec_l00In_v v35 (1 : Int) (12 : Int))
  ) else (
   false
  )
theorem spec_l02Sides_tot (v34 : Int) (v35 : Int) : spec_l02Sides_g v34 v35 = some (spec_l02Sides_v v34 v35) := by
  unfold spec_l02Sides_g spec_l02Sides_T spec_l02Sides_v
  simp only [Tree.run]
  repeat' (first | rfl | split)
noncomputable def spec_l02Sides_F : DFn := fun args L =>
  match args with
  | [.int .i64 v34, .int .i64 v35] =>
    .leaf (.bool (spec_l02Sides_v v34 v35), L)
  | _ => .fail
theorem spec_l02Sides_Fok : COk Try.prog 134 spec_l02Sides_F true := by
  intro F L H args r L' hs ha hr
  unfold spec_l02Sides_F at hr
  split at hr
  · rename_i v34 v35
    have hy := spec_l02Sides_tot v34 v35
    generalize spec_l02Sides_v v34 v35 = y at hy hr
    simp only [Tree.run, Option.some.injEq, Prod.mk.injEq] at hr
    obtain ⟨rfl, rfl⟩ := hr
    exact call_ok0 hs (fun k => (([] : List AV)[k]?).getD .top) [.int .i64 v34, .int .i64 v35] [.int .i64 v34, .int .i64 v35] (fun F' h0 hi hρ => ⟨by simp [DVs.av, DV.av, BR.av, hρ], spec_l02Sides_fn v34 v35 F' (by rw [hi]; rfl) (st_nil hi) ⟨trivial, trivial, trivial⟩ hy⟩) rfl
  · cases hr
/-! spec.l01Finite -/
noncomputable def spec_l01Finite_LO (v41 : Nat) : LOr := fun id e L =>
  match id with
  | _ => .fail
noncomputable def spec_l01Finite_tab : List (FuncId × DFn × Bool) := []
theorem spec_l01Finite_hO : OrcOk Try.prog (tabD spec_l01Finite_tab) (tabM spec_l01Finite_tab) := tabD_nil _
noncomputable def spec_l01Finite_T (v41 : Nat) : Tree (Bool) :=
  .leaf (feq .f32 (fsub .f32 v41 v41) (0 : Nat))

noncomputable def spec_l01Finite_g (v41 : Nat) : Option (Bool) := (spec_l01Finite_T v41).run
def spec_l01Finite_enc (v41 : Nat) (y : Bool) : Rs := (.bool y, [])
theorem spec_l01Finite_den (v41 : Nat) : (den TT (tabD spec_l01Finite_tab) (tabM spec_l01Finite_tab) (spec_l01Finite_LO v41) (codeOf Try.f60) ([.flt .f32 v41] ++ List.replicate (Try.f60.ntmps - ([.flt .f32 v41] : List DV).length) .undef) []).bind (retD TT Try.f60.results.toList 0) = (spec_l01Finite_T v41).bind fun y => .leaf (spec_l01Finite_enc v41 y) := by kernel_rfl
theorem spec_l01Finite_fn (v41 : Nat) (F : Fr) (hm : F.ids.length = 0) (h0 : St F [] F.H0) (hA : DVs.Ok F [] [.flt .f32 v41]) {y : Bool} (hy : spec_l01Finite_g v41 = some y) : ∃ H', FnOk Try.prog 60 (DVs.av F [.flt .f32 v41]) F.H0 ((spec_l01Finite_enc v41 y).1.av F) H' ∧ St F (spec_l01Finite_enc v41 y).2 H' ∧ (spec_l01Finite_enc v41 y).1.Ok F (spec_l01Finite_enc v41 y).2 :=
  fn_fin tok spec_l01Finite_hO mixed Try.func60 Try.call60 (by kernel_rfl) (LoopsOk_eq (l := []) (by kernel_rfl) trivial) (spec_l01Finite_den v41) hy hm h0 hA
def spec_l01Finite_v (v41 : Nat) : Bool :=
  feq .f32 (fsub .f32 v41 v41) (0 : Nat)
theorem spec_l01Finite_tot (v41 : Nat) : spec_l01Finite_g v41 = some (spec_l01Finite_v v41) := by
  unfold spec_l01Finite_g spec_l01Finite_T spec_l01Finite_v
  simp only [Tree.run]
  repeat' (first | rfl | split)
noncomputable def spec_l01Finite_F : DFn := fun args L =>
  match args with
  | [.flt .f32 v41] =>
    .leaf (.bool (spec_l01Finite_v v41), L)
  | _ => .fail
theorem spec_l01Finite_Fok : COk Try.prog 60 spec_l01Finite_F true := by
  intro F L H args r L' hs ha hr
  unfold spec_l01Finite_F at hr
  split at hr
  · rename_i v41
    have hy := spec_l01Finite_tot v41
    generalize spec_l01Finite_v v41 = y at hy hr
    simp only [Tree.run, Option.some.injEq, Prod.mk.injEq] at hr
    obtain ⟨rfl, rfl⟩ := hr
    exact call_ok0 hs (fun k => (([] : List AV)[k]?).getD .top) [.flt .f32 v41] [.flt .f32 v41] (fun F' h0 hi hρ => ⟨by simp [DVs.av, DV.av, BR.av, hρ], spec_l01Finite_fn v41 F' (by rw [hi]; rfl) (st_nil hi) ⟨trivial, trivial⟩ hy⟩) rfl
  · cases hr
/-! spec.l02Finite -/
noncomputable def spec_l02Finite_l0_T (v39 : List Nat) (s : Int) : Tree ((Int) ⊕ ((Unit) ⊕ (Unit))) :=
  (.br (decide (s < ((v39.length : Nat) : Int))) (
   (.grd (inb s v39.length) <|
   (.br (!(spec_l01Finite_v (nth v39 (Int.toNat s)))) (
    .leaf (.inr (.inl ()))
   ) (
    .leaf (.inl (IntKind.i64.wrap (s + (1 : Int))))
   )))
  ) (
   .leaf (.inr (.inr ()))
  ))

noncomputable def spec_l02Finite_l0_g (v39 : List Nat) (s0 : Int) : Option ((Unit) ⊕ (Unit)) := whileM (fun s => (spec_l02Finite_l0_T v39 s).run) s0
def spec_l02Finite_l0_E (v39 : List Nat) (s : Int) : Sd := ([.bslc (BR.root 0) (.f32 v39), .top, .top, .int .i64 s, .top, .top, .top, .top, .top, .top, .top, .top, .top, .top, .top, .top], [])
def spec_l02Finite_l0_X (v39 : List Nat) (x : (Unit) ⊕ (Unit)) : Out := (match x with | .inl x => (.ret, [.top, .top, .lit false, .top, .top, .top, .top, .top, .top, .top, .top, .top, .top, .top, .top, .top], []) | .inr x => (.normal, [.top, .top, .top, .top, .top, .top, .top, .top, .top, .top, .top, .top, .top, .top, .top, .top], []))
def spec_l02Finite_l0_kill : List Nat := [0, 1, 1, 0, 1, 1, 1, 1, 1, 1, 1, 1, 1, 1, 1, 1]
def spec_l02Finite_l0_nx : Exit → List Nat
  | .exit 0 => [1, 1, 1, 1, 1, 1, 1, 1, 1, 1, 1, 1, 1, 1, 1, 1]
  | .ret => [1, 1, 0, 1, 1, 1, 1, 1, 1, 1, 1, 1, 1, 1, 1, 1]
  | _ => []
noncomputable def spec_l02Finite_LO (v39 : List Nat) : LOr := fun id e L =>
  match id with
  | 0 => .need (normA 0 spec_l02Finite_l0_kill e L = some (spec_l02Finite_l0_E v39 (gI (vAt e 3)))) (.call (spec_l02Finite_l0_g v39 (gI (vAt e 3))) fun x => .sum x (fun b0 => .leaf (spec_l02Finite_l0_X v39 (.inl b0))) (fun c0 => .leaf (spec_l02Finite_l0_X v39 (.inr c0))))
  | _ => .fail
noncomputable def spec_l02Finite_tab : List (FuncId × DFn × Bool) := [(60, spec_l01Finite_F, true)]
theorem spec_l02Finite_hO : OrcOk Try.prog (tabD spec_l02Finite_tab) (tabM spec_l02Finite_tab) := tabD_cons spec_l01Finite_Fok (tabD_nil _)
theorem spec_l02Finite_l0_be (v39 : List Nat) (s : Int) : bodyT TT (tabD spec_l02Finite_tab) (tabM spec_l02Finite_tab) (spec_l02Finite_LO v39) 0 spec_l02Finite_l0_kill spec_l02Finite_l0_nx (bodyOf Try.f135 0) 0 (spec_l02Finite_l0_E v39 s) = (spec_l02Finite_l0_T v39 s).bind fun y => .leaf (outS (spec_l02Finite_l0_E v39) (spec_l02Finite_l0_X v39) y) := by kernel_rfl
theorem spec_l02Finite_l0_ok (v39 : List Nat) : LSound Try.prog 0 (spec_l02Finite_LO v39) 0 (bodyOf Try.f135 0) := by
  intro e L out h
  exact lo_ok (E := spec_l02Finite_l0_E v39) (gT := spec_l02Finite_l0_T v39) (X := spec_l02Finite_l0_X v39) (s0 := (gI (vAt e 3))) tok spec_l02Finite_hO mixed (LoopsOk_eq (l := []) (by kernel_rfl) trivial) (spec_l02Finite_l0_be v39) rfl (by intro x; (cases x with | inl b => rfl | inr x => exact rfl)) h
noncomputable def spec_l02Finite_T (v39 : List Nat) : Tree (Bool) :=
  (.need (some (spec_l02Finite_l0_E v39 (0 : Int)) = some (spec_l02Finite_l0_E v39 (0 : Int))) <|
  (.call (spec_l02Finite_l0_g v39 (0 : Int)) fun v44 =>
  (.sum v44 (fun v45 =>
   .leaf false
  ) (fun v46 =>
   .leaf true
  ))))

noncomputable def spec_l02Finite_g (v39 : List Nat) : Option (Bool) := (spec_l02Finite_T v39).run
def spec_l02Finite_enc (v39 : List Nat) (y : Bool) : Rs := (.bool y, [])
theorem spec_l02Finite_den (v39 : List Nat) : (den TT (tabD spec_l02Finite_tab) (tabM spec_l02Finite_tab) (spec_l02Finite_LO v39) (codeOf Try.f135) ([.bslc (BR.root 0) (.f32 v39)] ++ List.replicate (Try.f135.ntmps - ([.bslc (BR.root 0) (.f32 v39)] : List DV).length) .undef) []).bind (retD TT Try.f135.results.toList 0) = (spec_l02Finite_T v39).bind fun y => .leaf (spec_l02Finite_enc v39 y) := by kernel_rfl
theorem spec_l02Finite_fn (v39 : List Nat) (F : Fr) (hm : F.ids.length = 0) (h0 : St F [] F.H0) (hA : DVs.Ok F [] [.bslc (BR.root 0) (.f32 v39)]) {y : Bool} (hy : spec_l02Finite_g v39 = some y) : ∃ H', FnOk Try.prog 135 (DVs.av F [.bslc (BR.root 0) (.f32 v39)]) F.H0 ((spec_l02Finite_enc v39 y).1.av F) H' ∧ St F (spec_l02Finite_enc v39 y).2 H' ∧ (spec_l02Finite_enc v39 y).1.Ok F (spec_l02Finite_enc v39 y).2 :=
  fn_fin tok spec_l02Finite_hO mixed Try.func135 Try.call135 (by kernel_rfl) (LoopsOk_eq (l := [(0, bodyOf Try.f135 0)]) (by kernel_rfl) ⟨spec_l02Finite_l0_ok v39, trivial⟩) (spec_l02Finite_den v39) hy hm h0 hA
noncomputable def spec_l02Finite_F : DFn := fun args L =>
  match args with
  | [a1] =>
    optT (rowF32 L a1) fun v39 =>
    .call (spec_l02Finite_g v39) fun y => .leaf (.bool y, L)
  | _ => .fail
theorem spec_l02Finite_Fok : COk Try.prog 135 spec_l02Finite_F true := by
  intro F L H args r L' hs ha hr
  unfold spec_l02Finite_F at hr
  split at hr
  · rename_i a1
    obtain ⟨v39, hv39, hr⟩ := optT_run hr
    simp only [Tree.run] at hr
    obtain ⟨y, hy, hr⟩ := Option.bind_eq_some_iff.1 hr
    simp only [Tree.run, Option.some.injEq, Prod.mk.injEq] at hr
    obtain ⟨rfl, rfl⟩ := hr
    exact call_ok0 hs (fun k => (([a1.av F] : List AV)[k]?).getD .top) [a1] [.bslc (BR.root 0) (.f32 v39)] (fun F' h0 hi hρ => ⟨by simp [DVs.av, DV.av, BR.av, hρ], spec_l02Finite_fn v39 F' (by rw [hi]; rfl) (st_nil hi) ⟨bslc_ok hi (by rw [h0, hρ]; exact rowF32_ok hs (DVs.okAt ha 0 rfl) hv39), trivial⟩ hy⟩) rfl
  · cases hr
/-! spec.l02Is -/
noncomputable def spec_l02Is_LO (v31 : Int) (v32 : Int) (v33 : List Nat) : LOr := fun id e L =>
  match id with
  | _ => .fail
noncomputable def spec_l02Is_tab : List (FuncId × DFn × Bool) := [(134, spec_l02Sides_F, true), (135, spec_l02Finite_F, true)]
theorem spec_l02Is_hO : OrcOk Try.prog (tabD spec_l02Is_tab) (tabM spec_l02Is_tab) := tabD_cons spec_l02Sides_Fok (tabD_cons spec_l02Finite_Fok (tabD_nil _))
noncomputable def spec_l02Is_T (v31 : Int) (v32 : Int) (v33 : List Nat) : Tree (Bool) :=
  (.br (spec_l02Sides_v v31 v32) (
   (.br (decide (((v33.length : Nat) : Int) = IntKind.i64.wrap (v31 * v32))) (
    (.call (spec_l02Finite_g v33) fun v47 =>
    .leaf v47)
   ) (
    .leaf false
   ))
  ) (
   .leaf false
  ))

noncomputable def spec_l02Is_g (v31 : Int) (v32 : Int) (v33 : List Nat) : Option (Bool) := (spec_l02Is_T v31 v32 v33).run
def spec_l02Is_enc (v31 : Int) (v32 : Int) (v33 : List Nat) (y : Bool) : Rs := (.bool y, [])
theorem spec_l02Is_den (v31 : Int) (v32 : Int) (v33 : List Nat) : (den TT (tabD spec_l02Is_tab) (tabM spec_l02Is_tab) (spec_l02Is_LO v31 v32 v33) (codeOf Try.f61) ([.bptr (BR.root 0) [.int .i64 v31, .int .i64 v32, .bslc (BR.root 1) (.f32 v33)]] ++ List.replicate (Try.f61.ntmps - ([.bptr (BR.root 0) [.int .i64 v31, .int .i64 v32, .bslc (BR.root 1) (.f32 v33)]] : List DV).length) .undef) []).bind (retD TT Try.f61.results.toList 0) = (spec_l02Is_T v31 v32 v33).bind fun y => .leaf (spec_l02Is_enc v31 v32 v33 y) := by kernel_rfl
theorem spec_l02Is_fn (v31 : Int) (v32 : Int) (v33 : List Nat) (F : Fr) (hm : F.ids.length = 0) (h0 : St F [] F.H0) (hA : DVs.Ok F [] [.bptr (BR.root 0) [.int .i64 v31, .int .i64 v32, .bslc (BR.root 1) (.f32 v33)]]) {y : Bool} (hy : spec_l02Is_g v31 v32 v33 = some y) : ∃ H', FnOk Try.prog 61 (DVs.av F [.bptr (BR.root 0) [.int .i64 v31, .int .i64 v32, .bslc (BR.root 1) (.f32 v33)]]) F.H0 ((spec_l02Is_enc v31 v32 v33 y).1.av F) H' ∧ St F (spec_l02Is_enc v31 v32 v33 y).2 H' ∧ (spec_l02Is_enc v31 v32 v33 y).1.Ok F (spec_l02Is_enc v31 v32 v33 y).2 :=
  fn_fin tok spec_l02Is_hO mixed Try.func61 Try.call61 (by kernel_rfl) (LoopsOk_eq (l := []) (by kernel_rfl) trivial) (spec_l02Is_den v31 v32 v33) hy hm h0 hA
noncomputable def spec_l02Is_F : DFn := fun args L =>
  match args with
  | [a1] =>
    optT (cellsOf L 3 a1) fun cs0 =>
    (match cs0 with
    | [.int .i64 v31, .int .i64 v32, a2] =>
    optT (rowF32 L a2) fun v33 =>
    .call (spec_l02Is_g v31 v32 v33) fun y => .leaf (.bool y, L)
    | _ => .fail)
  | _ => .fail
theorem spec_l02Is_Fok : COk Try.prog 61 spec_l02Is_F true := by
  intro F L H args r L' hs ha hr
  unfold spec_l02Is_F at hr
  split at hr
  · rename_i a1
    obtain ⟨cs0, hcp0, hr⟩ := optT_run hr
    split at hr
    · rename_i v31 v32 a2
      obtain ⟨v33, hv33, hr⟩ := optT_run hr
      simp only [Tree.run] at hr
      obtain ⟨y, hy, hr⟩ := Option.bind_eq_some_iff.1 hr
      simp only [Tree.run, Option.some.injEq, Prod.mk.injEq] at hr
      obtain ⟨rfl, rfl⟩ := hr
      exact call_ok0 hs (fun k => (([a1.av F, a2.av F] : List AV)[k]?).getD .top) [a1] [.bptr (BR.root 0) [.int .i64 v31, .int .i64 v32, .bslc (BR.root 1) (.f32 v33)]] (fun F' h0 hi hρ => ⟨by simp [DVs.av, DV.av, BR.av, hρ], spec_l02Is_fn v31 v32 v33 F' (by rw [hi]; rfl) (st_nil hi) ⟨bptr_ok hi (by rw [h0]; simpa [DVs.av, DV.av, BR.av, hρ] using (cellsOf_ok hs (DVs.okAt ha 0 rfl) hcp0).1) ⟨trivial, trivial, bslc_ok hi (by rw [h0, hρ]; exact rowF32_ok hs (DVs.okAt (cellsOf_ok hs (DVs.okAt ha 0 rfl) hcp0).2 2 rfl) hv33), trivial⟩, trivial⟩ hy⟩) rfl
    · cases hr
  · cases hr
/-! spec.l02Square -/
noncomputable def spec_l02Square_LO (v28 : Int) (v29 : Int) (v30 : List Nat) : LOr := fun id e L =>
  match id with
  | _ => .fail
noncomputable def spec_l02Square_tab : List (FuncId × DFn × Bool) := [(61, spec_l02Is_F, true)]
theorem spec_l02Square_hO : OrcOk Try.prog (tabD spec_l02Square_tab) (tabM spec_l02Square_tab) := tabD_cons spec_l02Is_Fok (tabD_nil _)
noncomputable def spec_l02Square_T (v28 : Int) (v29 : Int) (v30 : List Nat) : Tree (Bool) :=
  (.call (spec_l02Is_g v28 v29 v30) fun v48 =>
  (.br v48 (
   .leaf (decide (v28 = v29))
  ) (
   .leaf false
  )))

noncomputable def spec_l02Square_g (v28 : Int) (v29 : Int) (v30 : List Nat) : Option (Bool) := (spec_l02Square_T v28 v29 v30).run
def spec_l02Square_enc (v28 : Int) (v29 : Int) (v30 : List Nat) (y : Bool) : Rs := (.bool y, [])
theorem spec_l02Square_den (v28 : Int) (v29 : Int) (v30 : List Nat) : (den TT (tabD spec_l02Square_tab) (tabM spec_l02Square_tab) (spec_l02Square_LO v28 v29 v30) (codeOf Try.f57) ([.bptr (BR.root 0) [.int .i64 v28, .int .i64 v29, .bslc (BR.root 1) (.f32 v30)]] ++ List.replicate (Try.f57.ntmps - ([.bptr (BR.root 0) [.int .i64 v28, .int .i64 v29, .bslc (BR.root 1) (.f32 v30)]] : List DV).length) .undef) []).bind (retD TT Try.f57.results.toList 0) = (spec_l02Square_T v28 v29 v30).bind fun y => .leaf (spec_l02Square_enc v28 v29 v30 y) := by kernel_rfl
theorem spec_l02Square_fn (v28 : Int) (v29 : Int) (v30 : List Nat) (F : Fr) (hm : F.ids.length = 0) (h0 : St F [] F.H0) (hA : DVs.Ok F [] [.bptr (BR.root 0) [.int .i64 v28, .int .i64 v29, .bslc (BR.root 1) (.f32 v30)]]) {y : Bool} (hy : spec_l02Square_g v28 v29 v30 = some y) : ∃ H', FnOk Try.prog 57 (DVs.av F [.bptr (BR.root 0) [.int .i64 v28, .int .i64 v29, .bslc (BR.root 1) (.f32 v30)]]) F.H0 ((spec_l02Square_enc v28 v29 v30 y).1.av F) H' ∧ St F (spec_l02Square_enc v28 v29 v30 y).2 H' ∧ (spec_l02Square_enc v28 v29 v30 y).1.Ok F (spec_l02Square_enc v28 v29 v30 y).2 :=
  fn_fin tok spec_l02Square_hO mixed Try.func57 Try.call57 (by kernel_rfl) (LoopsOk_eq (l := []) (by kernel_rfl) trivial) (spec_l02Square_den v28 v29 v30) hy hm h0 hA
noncomputable def spec_l02Square_F : DFn := fun args L =>
  match args with
  | [a1] =>
    optT (cellsOf L 3 a1) fun cs0 =>
    (match cs0 with
    | [.int .i64 v28, .int .i64 v29, a2] =>
    optT (rowF32 L a2) fun v30 =>
    .call (spec_l02Square_g v28 v29 v30) fun y => .leaf (.bool y, L)
    | _ => .fail)
  | _ => .fail
theorem spec_l02Square_Fok : COk Try.prog 57 spec_l02Square_F true := by
  intro F L H args r L' hs ha hr
  unfold spec_l02Square_F at hr
  split at hr
  · rename_i a1
    obtain ⟨cs0, hcp0, hr⟩ := optT_run hr
    split at hr
    · rename_i v28 v29 a2
      obtain ⟨v30, hv30, hr⟩ := optT_run hr
      simp only [Tree.run] at hr
      obtain ⟨y, hy, hr⟩ := Option.bind_eq_some_iff.1 hr
      simp only [Tree.run, Option.some.injEq, Prod.mk.injEq] at hr
      obtain ⟨rfl, rfl⟩ := hr
      exact call_ok0 hs (fun k => (([a1.av F, a2.av F] : List AV)[k]?).getD .top) [a1] [.bptr (BR.root 0) [.int .i64 v28, .int .i64 v29, .bslc (BR.root 1) (.f32 v30)]] (fun F' h0 hi hρ => ⟨by simp [DVs.av, DV.av, BR.av, hρ], spec_l02Square_fn v28 v29 v30 F' (by rw [hi]; rfl) (st_nil hi) ⟨bptr_ok hi (by rw [h0]; simpa [DVs.av, DV.av, BR.av, hρ] using (cellsOf_ok hs (DVs.okAt ha 0 rfl) hcp0).1) ⟨trivial, trivial, bslc_ok hi (by rw [h0, hρ]; exact rowF32_ok hs (DVs.okAt (cellsOf_ok hs (DVs.okAt ha 0 rfl) hcp0).2 2 rfl) hv30), trivial⟩, trivial⟩ hy⟩) rfl
    · cases hr
  · cases hr
/-! spec.l02Vector -/
noncomputable def spec_l02Vector_LO (v50 : List Nat) : LOr := fun id e L =>
  match id with
  | _ => .fail
noncomputable def spec_l02Vector_tab : List (FuncId × DFn × Bool) := [(135, spec_l02Finite_F, true)]
theorem spec_l02Vector_hO : OrcOk Try.prog (tabD spec_l02Vector_tab) (tabM spec_l02Vector_tab) := tabD_cons spec_l02Finite_Fok (tabD_nil _)
noncomputable def spec_l02Vector_T (v50 : List Nat) : Tree (Bool) :=
  (.br (decide ((1 : Int) ≤ ((v50.length : Nat) : Int))) (
   (.br (decide (((v50.length : Nat) : Int) ≤ (256 : Int))) (
    (.call (spec_l02Finite_g v50) fun v51 =>
    .leaf v51)
   ) (
    .leaf false
   ))
  ) (
   .leaf false
  ))

noncomputable def spec_l02Vector_g (v50 : List Nat) : Option (Bool) := (spec_l02Vector_T v50).run
def spec_l02Vector_enc (v50 : List Nat) (y : Bool) : Rs := (.bool y, [])
theorem spec_l02Vector_den (v50 : List Nat) : (den TT (tabD spec_l02Vector_tab) (tabM spec_l02Vector_tab) (spec_l02Vector_LO v50) (codeOf Try.f108) ([.bslc (BR.root 0) (.f32 v50)] ++ List.replicate (Try.f108.ntmps - ([.bslc (BR.root 0) (.f32 v50)] : List DV).length) .undef) []).bind (retD TT Try.f108.results.toList 0) = (spec_l02Vector_T v50).bind fun y => .leaf (spec_l02Vector_enc v50 y) := by kernel_rfl
theorem spec_l02Vector_fn (v50 : List Nat) (F : Fr) (hm : F.ids.length = 0) (h0 : St F [] F.H0) (hA : DVs.Ok F [] [.bslc (BR.root 0) (.f32 v50)]) {y : Bool} (hy : spec_l02Vector_g v50 = some y) : ∃ H', FnOk Try.prog 108 (DVs.av F [.bslc (BR.root 0) (.f32 v50)]) F.H0 ((spec_l02Vector_enc v50 y).1.av F) H' ∧ St F (spec_l02Vector_enc v50 y).2 H' ∧ (spec_l02Vector_enc v50 y).1.Ok F (spec_l02Vector_enc v50 y).2 :=
  fn_fin tok spec_l02Vector_hO mixed Try.func108 Try.call108 (by kernel_rfl) (LoopsOk_eq (l := []) (by kernel_rfl) trivial) (spec_l02Vector_den v50) hy hm h0 hA
noncomputable def spec_l02Vector_F : DFn := fun args L =>
  match args with
  | [a1] =>
    optT (rowF32 L a1) fun v50 =>
    .call (spec_l02Vector_g v50) fun y => .leaf (.bool y, L)
  | _ => .fail
theorem spec_l02Vector_Fok : COk Try.prog 108 spec_l02Vector_F true := by
  intro F L H args r L' hs ha hr
  unfold spec_l02Vector_F at hr
  split at hr
  · rename_i a1
    obtain ⟨v50, hv50, hr⟩ := optT_run hr
    simp only [Tree.run] at hr
    obtain ⟨y, hy, hr⟩ := Option.bind_eq_some_iff.1 hr
    simp only [Tree.run, Option.some.injEq, Prod.mk.injEq] at hr
    obtain ⟨rfl, rfl⟩ := hr
    exact call_ok0 hs (fun k => (([a1.av F] : List AV)[k]?).getD .top) [a1] [.bslc (BR.root 0) (.f32 v50)] (fun F' h0 hi hρ => ⟨by simp [DVs.av, DV.av, BR.av, hρ], spec_l02Vector_fn v50 F' (by rw [hi]; rfl) (st_nil hi) ⟨bslc_ok hi (by rw [h0, hρ]; exact rowF32_ok hs (DVs.okAt ha 0 rfl) hv50), trivial⟩ hy⟩) rfl
  · cases hr
/-! spec.l02Own -/
noncomputable def spec_l02Own_LO (v56 : Int) (v57 : Int) (v58 : List Nat) : LOr := fun id e L =>
  match id with
  | _ => .fail
noncomputable def spec_l02Own_tab : List (FuncId × DFn × Bool) := []
theorem spec_l02Own_hO : OrcOk Try.prog (tabD spec_l02Own_tab) (tabM spec_l02Own_tab) := tabD_nil _
noncomputable def spec_l02Own_T (v56 : Int) (v57 : Int) (v58 : List Nat) : Tree (Int × Int) :=
  (.grd (fits (([] : List Nat) ++ v58).length) <|
  .leaf (v56, v57))

noncomputable def spec_l02Own_g (v56 : Int) (v57 : Int) (v58 : List Nat) : Option (Int × Int) := (spec_l02Own_T v56 v57 v58).run
def spec_l02Own_enc (v56 : Int) (v57 : Int) (v58 : List Nat) (y : Int × Int) : Rs := (.agg [.int .i64 y.1, .int .i64 y.2, .own 0 0 ((([] : List Nat) ++ v58).length)], [.row (.f32 (([] : List Nat) ++ v58)) 0])
theorem spec_l02Own_den (v56 : Int) (v57 : Int) (v58 : List Nat) : (den TT (tabD spec_l02Own_tab) (tabM spec_l02Own_tab) (spec_l02Own_LO v56 v57 v58) (codeOf Try.f101) ([.bptr (BR.root 0) [.int .i64 v56, .int .i64 v57, .bslc (BR.root 1) (.f32 v58)]] ++ List.replicate (Try.f101.ntmps - ([.bptr (BR.root 0) [.int .i64 v56, .int .i64 v57, .bslc (BR.root 1) (.f32 v58)]] : List DV).length) .undef) []).bind (retD TT Try.f101.results.toList 0) = (spec_l02Own_T v56 v57 v58).bind fun y => .leaf (spec_l02Own_enc v56 v57 v58 y) := by kernel_rfl
theorem spec_l02Own_fn (v56 : Int) (v57 : Int) (v58 : List Nat) (F : Fr) (hm : F.ids.length = 0) (h0 : St F [] F.H0) (hA : DVs.Ok F [] [.bptr (BR.root 0) [.int .i64 v56, .int .i64 v57, .bslc (BR.root 1) (.f32 v58)]]) {y : Int × Int} (hy : spec_l02Own_g v56 v57 v58 = some y) : ∃ H', FnOk Try.prog 101 (DVs.av F [.bptr (BR.root 0) [.int .i64 v56, .int .i64 v57, .bslc (BR.root 1) (.f32 v58)]]) F.H0 ((spec_l02Own_enc v56 v57 v58 y).1.av F) H' ∧ St F (spec_l02Own_enc v56 v57 v58 y).2 H' ∧ (spec_l02Own_enc v56 v57 v58 y).1.Ok F (spec_l02Own_enc v56 v57 v58 y).2 :=
  fn_fin tok spec_l02Own_hO mixed Try.func101 Try.call101 (by kernel_rfl) (LoopsOk_eq (l := []) (by kernel_rfl) trivial) (spec_l02Own_den v56 v57 v58) hy hm h0 hA
noncomputable def spec_l02Own_F : DFn := fun args L =>
  match args with
  | [a1] =>
    optT (cellsOf L 3 a1) fun cs0 =>
    (match cs0 with
    | [.int .i64 v56, .int .i64 v57, a2] =>
    optT (rowF32 L a2) fun v58 =>
    .call (spec_l02Own_g v56 v57 v58) fun y => .leaf (.agg [.int .i64 y.1, .int .i64 y.2, .own (L.length + 0) 0 ((([] : List Nat) ++ v58).length)], L ++ [.row (.f32 (([] : List Nat) ++ v58)) 0])
    | _ => .fail)
  | _ => .fail
theorem spec_l02Own_Fok : COk Try.prog 101 spec_l02Own_F true := by
  intro F L H args r L' hs ha hr
  unfold spec_l02Own_F at hr
  split at hr
  · rename_i a1
    obtain ⟨cs0, hcp0, hr⟩ := optT_run hr
    split at hr
    · rename_i v56 v57 a2
      obtain ⟨v58, hv58, hr⟩ := optT_run hr
      simp only [Tree.run] at hr
      obtain ⟨y, hy, hr⟩ := Option.bind_eq_some_iff.1 hr
      simp only [Tree.run, Option.some.injEq, Prod.mk.injEq] at hr
      obtain ⟨rfl, rfl⟩ := hr
      exact call_ok1 hs (fun k => (([a1.av F, a2.av F] : List AV)[k]?).getD .top) [a1] [.bptr (BR.root 0) [.int .i64 v56, .int .i64 v57, .bslc (BR.root 1) (.f32 v58)]] (fun F' h0 hi hρ => ⟨by simp [DVs.av, DV.av, BR.av, hρ], spec_l02Own_fn v56 v57 v58 F' (by rw [hi]; rfl) (st_nil hi) ⟨bptr_ok hi (by rw [h0]; simpa [DVs.av, DV.av, BR.av, hρ] using (cellsOf_ok hs (DVs.okAt ha 0 rfl) hcp0).1) ⟨trivial, trivial, bslc_ok hi (by rw [h0, hρ]; exact rowF32_ok hs (DVs.okAt (cellsOf_ok hs (DVs.okAt ha 0 rfl) hcp0).2 2 rfl) hv58), trivial⟩, trivial⟩ hy⟩) rfl rfl
    · cases hr
  · cases hr
/-! spec.l03Upper -/
noncomputable def spec_l03Upper_l2_T (v112 : Int) (v114 : Int) (v115 : Int) (s : Int × (List Nat)) : Tree ((Int × (List Nat)) ⊕ ((List Nat))) :=
  (.br (decide (s.1 < v112)) (
   (.grd (inb (IntKind.i64.wrap ((IntKind.i64.wrap (v112 * v115)) + s.1)) ((s.2).length)) <|
   .leaf (.inl (IntKind.i64.wrap (s.1 + (1 : Int)), List.set s.2 (Int.toNat (IntKind.i64.wrap ((IntKind.i64.wrap (v112 * v115)) + s.1))) (0 : Nat))))
  ) (
   .leaf (.inr s.2)
  ))

noncomputable def spec_l03Upper_l2_g (v112 : Int) (v114 : Int) (v115 : Int) (s0 : Int × (List Nat)) : Option ((List Nat)) := whileM (fun s => (spec_l03Upper_l2_T v112 v114 v115 s).run) s0
def spec_l03Upper_l2_E (v53 : Int) (v54 : Int) (v55 : List Nat) (v112 : Int) (v114 : Int) (v115 : Int) (s : Int × (List Nat)) : Sd := ([.top, .top, .ptr 0 (0 : Nat) 0 (3 : Nat), .ptr 1 (0 : Nat) 0 (3 : Nat), .int .i64 v112, .int .i64 s.1, .top, .top, .top, .top, .top, .top, .top, .top, .top, .top, .top, .top, .top, .top, .top, .top, .top, .top, .top, .top, .top, .top, .top], [.gen [.int .i64 (0 : Int), .int .i64 (0 : Int), .nilslc] false 0, .gen [.int .i64 v114, .int .i64 v115, .own 2 0 ((s.2).length)] false 0, .row (.f32 s.2) 0])
def spec_l03Upper_l2_X (v53 : Int) (v54 : Int) (v55 : List Nat) (v112 : Int) (v114 : Int) (v115 : Int) (x : (List Nat)) : Out := (.normal, [.top, .top, .ptr 0 (0 : Nat) 0 (3 : Nat), .ptr 1 (0 : Nat) 0 (3 : Nat), .int .i64 v112, .top, .top, .top, .top, .top, .top, .top, .top, .top, .top, .top, .top, .top, .top, .top, .top, .top, .top, .top, .top, .top, .top, .top, .top], [.gen [.int .i64 (0 : Int), .int .i64 (0 : Int), .nilslc] false 0, .gen [.int .i64 v114, .int .i64 v115, .own 2 0 ((x).length)] false 0, .row (.f32 x) 0])
def spec_l03Upper_l2_kill : List Nat := [1, 1, 0, 0, 0, 0, 1, 1, 1, 1, 1, 1, 1, 1, 1, 1, 1, 1, 1, 1, 1, 1, 1, 1, 1, 1, 1, 1, 1]
def spec_l03Upper_l2_nx : Exit → List Nat
  | .exit 0 => [1, 1, 0, 0, 1, 1, 1, 1, 1, 1, 1, 1, 1, 1, 1, 1, 1, 1, 1, 1, 1, 1, 1, 1, 1, 1, 1, 1, 1]
  | .exit 1 => [1, 1, 0, 0, 0, 1, 1, 1, 1, 1, 1, 1, 1, 1, 1, 1, 1, 1, 1, 1, 1, 1, 1, 1, 1, 1, 1, 1, 1]
  | .exit 2 => [1, 1, 0, 0, 0, 1, 1, 1, 1, 1, 1, 1, 1, 1, 1, 1, 1, 1, 1, 1, 1, 1, 1, 1, 1, 1, 1, 1, 1]
  | .ret => [1, 1, 0, 1, 1, 1, 1, 1, 1, 1, 1, 1, 1, 1, 1, 1, 1, 1, 1, 1, 1, 1, 1, 1, 1, 1, 1, 1, 1]
  | _ => []
noncomputable def spec_l03Upper_l0_T (v53 : Int) (v54 : Int) (v55 : List Nat) (v99 : Int) (v100 : Int) (s : Int × (List Nat)) : Tree ((Int × (List Nat)) ⊕ ((List Nat))) :=
  (.br (decide (s.1 < v99)) (
   (.need (some (spec_l03Upper_l2_E v53 v54 v55 s.1 v99 v100 ((0 : Int), s.2)) = some (spec_l03Upper_l2_E v53 v54 v55 s.1 v99 v100 ((0 : Int), s.2))) <|
   (.call (spec_l03Upper_l2_g s.1 v99 v100 ((0 : Int), s.2)) fun v117 =>
   .leaf (.inl (IntKind.i64.wrap (s.1 + (1 : Int)), v117))))
  ) (
   .leaf (.inr s.2)
  ))

noncomputable def spec_l03Upper_l0_g (v53 : Int) (v54 : Int) (v55 : List Nat) (v99 : Int) (v100 : Int) (s0 : Int × (List Nat)) : Option ((List Nat)) := whileM (fun s => (spec_l03Upper_l0_T v53 v54 v55 v99 v100 s).run) s0
def spec_l03Upper_l0_E (v53 : Int) (v54 : Int) (v55 : List Nat) (v99 : Int) (v100 : Int) (s : Int × (List Nat)) : Sd := ([.top, .top, .ptr 0 (0 : Nat) 0 (3 : Nat), .ptr 1 (0 : Nat) 0 (3 : Nat), .int .i64 s.1, .top, .top, .top, .top, .top, .top, .top, .top, .top, .top, .top, .top, .top, .top, .top, .top, .top, .top, .top, .top, .top, .top, .top, .top], [.gen [.int .i64 (0 : Int), .int .i64 (0 : Int), .nilslc] false 0, .gen [.int .i64 v99, .int .i64 v100, .own 2 0 ((s.2).length)] false 0, .row (.f32 s.2) 0])
def spec_l03Upper_l0_X (v53 : Int) (v54 : Int) (v55 : List Nat) (v99 : Int) (v100 : Int) (x : (List Nat)) : Out := (.normal, [.top, .top, .ptr 0 (0 : Nat) 0 (3 : Nat), .ptr 1 (0 : Nat) 0 (3 : Nat), .top, .top, .top, .top, .top, .top, .top, .top, .top, .top, .top, .top, .top, .top, .top, .top, .top, .top, .top, .top, .top, .top, .top, .top, .top], [.gen [.int .i64 (0 : Int), .int .i64 (0 : Int), .nilslc] false 0, .gen [.int .i64 v99, .int .i64 v100, .own 2 0 ((x).length)] false 0, .row (.f32 x) 0])
def spec_l03Upper_l0_kill : List Nat := [1, 1, 0, 0, 0, 1, 1, 1, 1, 1, 1, 1, 1, 1, 1, 1, 1, 1, 1, 1, 1, 1, 1, 1, 1, 1, 1, 1, 1]
def spec_l03Upper_l0_nx : Exit → List Nat
  | .exit 0 => [1, 1, 0, 0, 1, 1, 1, 1, 1, 1, 1, 1, 1, 1, 1, 1, 1, 1, 1, 1, 1, 1, 1, 1, 1, 1, 1, 1, 1]
  | .ret => [1, 1, 0, 1, 1, 1, 1, 1, 1, 1, 1, 1, 1, 1, 1, 1, 1, 1, 1, 1, 1, 1, 1, 1, 1, 1, 1, 1, 1]
  | _ => []
noncomputable def spec_l03Upper_LO (v53 : Int) (v54 : Int) (v55 : List Nat) : LOr := fun id e L =>
  match id with
  | 2 => .need (normA 0 spec_l03Upper_l2_kill e L = some (spec_l03Upper_l2_E v53 v54 v55 (gI (vAt e 4)) (gI (cAt L (vAt e 3) 0)) (gI (cAt L (vAt e 3) 1)) ((gI (vAt e 5)), (gRF L (cAt L (vAt e 3) 2))))) (.call (spec_l03Upper_l2_g (gI (vAt e 4)) (gI (cAt L (vAt e 3) 0)) (gI (cAt L (vAt e 3) 1)) ((gI (vAt e 5)), (gRF L (cAt L (vAt e 3) 2)))) fun x => .leaf (spec_l03Upper_l2_X v53 v54 v55 (gI (vAt e 4)) (gI (cAt L (vAt e 3) 0)) (gI (cAt L (vAt e 3) 1)) x))
  | 0 => .need (normA 0 spec_l03Upper_l0_kill e L = some (spec_l03Upper_l0_E v53 v54 v55 (gI (cAt L (vAt e 3) 0)) (gI (cAt L (vAt e 3) 1)) ((gI (vAt e 4)), (gRF L (cAt L (vAt e 3) 2))))) (.call (spec_l03Upper_l0_g v53 v54 v55 (gI (cAt L (vAt e 3) 0)) (gI (cAt L (vAt e 3) 1)) ((gI (vAt e 4)), (gRF L (cAt L (vAt e 3) 2)))) fun x => .leaf (spec_l03Upper_l0_X v53 v54 v55 (gI (cAt L (vAt e 3) 0)) (gI (cAt L (vAt e 3) 1)) x))
  | _ => .fail
noncomputable def spec_l03Upper_tab : List (FuncId × DFn × Bool) := [(101, spec_l02Own_F, true)]
theorem spec_l03Upper_hO : OrcOk Try.prog (tabD spec_l03Upper_tab) (tabM spec_l03Upper_tab) := tabD_cons spec_l02Own_Fok (tabD_nil _)
theorem spec_l03Upper_l2_be (v53 : Int) (v54 : Int) (v55 : List Nat) (v112 : Int) (v114 : Int) (v115 : Int) (s : Int × (List Nat)) : bodyT TT (tabD spec_l03Upper_tab) (tabM spec_l03Upper_tab) (spec_l03Upper_LO v53 v54 v55) 0 spec_l03Upper_l2_kill spec_l03Upper_l2_nx (bodyOf Try.f109 2) 2 (spec_l03Upper_l2_E v53 v54 v55 v112 v114 v115 s) = (spec_l03Upper_l2_T v112 v114 v115 s).bind fun y => .leaf (outS (spec_l03Upper_l2_E v53 v54 v55 v112 v114 v115) (spec_l03Upper_l2_X v53 v54 v55 v112 v114 v115) y) := by kernel_rfl
theorem spec_l03Upper_l2_ok (v53 : Int) (v54 : Int) (v55 : List Nat) : LSound Try.prog 0 (spec_l03Upper_LO v53 v54 v55) 2 (bodyOf Try.f109 2) := by
  intro e L out h
  exact lo_ok (E := spec_l03Upper_l2_E v53 v54 v55 (gI (vAt e 4)) (gI (cAt L (vAt e 3) 0)) (gI (cAt L (vAt e 3) 1))) (gT := spec_l03Upper_l2_T (gI (vAt e 4)) (gI (cAt L (vAt e 3) 0)) (gI (cAt L (vAt e 3) 1))) (X := spec_l03Upper_l2_X v53 v54 v55 (gI (vAt e 4)) (gI (cAt L (vAt e 3) 0)) (gI (cAt L (vAt e 3) 1))) (s0 := ((gI (vAt e 5)), (gRF L (cAt L (vAt e 3) 2)))) tok spec_l03Upper_hO mixed (LoopsOk_eq (l := []) (by kernel_rfl) trivial) (spec_l03Upper_l2_be v53 v54 v55 (gI (vAt e 4)) (gI (cAt L (vAt e 3) 0)) (gI (cAt L (vAt e 3) 1))) rfl (by intro x; rfl) h
theorem spec_l03Upper_l0_be (v53 : Int) (v54 : Int) (v55 : List Nat) (v99 : Int) (v100 : Int) (s : Int × (List Nat)) : bodyT TT (tabD spec_l03Upper_tab) (tabM spec_l03Upper_tab) (spec_l03Upper_LO v53 v54 v55) 0 spec_l03Upper_l0_kill spec_l03Upper_l0_nx (bodyOf Try.f109 0) 0 (spec_l03Upper_l0_E v53 v54 v55 v99 v100 s) = (spec_l03Upper_l0_T v53 v54 v55 v99 v100 s).bind fun y => .leaf (outS (spec_l03Upper_l0_E v53 v54 v55 v99 v100) (spec_l03Upper_l0_X v53 v54 v55 v99 v100) y) := by kernel_rfl
theorem spec_l03Upper_l0_ok (v53 : Int) (v54 : Int) (v55 : List Nat) : LSound Try.prog 0 (spec_l03Upper_LO v53 v54 v55) 0 (bodyOf Try.f109 0) := by
  intro e L out h
  exact lo_ok (E := spec_l03Upper_l0_E v53 v54 v55 (gI (cAt L (vAt e 3) 0)) (gI (cAt L (vAt e 3) 1))) (gT := spec_l03Upper_l0_T v53 v54 v55 (gI (cAt L (vAt e 3) 0)) (gI (cAt L (vAt e 3) 1))) (X := spec_l03Upper_l0_X v53 v54 v55 (gI (cAt L (vAt e 3) 0)) (gI (cAt L (vAt e 3) 1))) (s0 := ((gI (vAt e 4)), (gRF L (cAt L (vAt e 3) 2)))) tok spec_l03Upper_hO mixed (LoopsOk_eq (l := [(2, bodyOf Try.f109 2)]) (by kernel_rfl) ⟨spec_l03Upper_l2_ok v53 v54 v55, trivial⟩) (spec_l03Upper_l0_be v53 v54 v55 (gI (cAt L (vAt e 3) 0)) (gI (cAt L (vAt e 3) 1))) rfl (by intro x; rfl) h
noncomputable def spec_l03Upper_T (v53 : Int) (v54 : Int) (v55 : List Nat) : Tree (Int × Int × (List Nat)) :=
  (.call (spec_l02Own_g v53 v54 v55) fun v59 =>
  (.need (some (spec_l03Upper_l0_E v53 v54 v55 v59.1 v59.2 ((0 : Int), ([] : List Nat) ++ v55)) = some (spec_l03Upper_l0_E v53 v54 v55 v59.1 v59.2 ((0 : Int), ([] : List Nat) ++ v55))) <|
  (.call (spec_l03Upper_l0_g v53 v54 v55 v59.1 v59.2 ((0 : Int), ([] : List Nat) ++ v55)) fun v118 =>
  .leaf (v59.1, v59.2, v118))))

noncomputable def spec_l03Upper_g (v53 : Int) (v54 : Int) (v55 : List Nat) : Option (Int × Int × (List Nat)) := (spec_l03Upper_T v53 v54 v55).run
def spec_l03Upper_enc (v53 : Int) (v54 : Int) (v55 : List Nat) (y : Int × Int × (List Nat)) : Rs := (.agg [.int .i64 y.1, .int .i64 y.2.1, .own 0 0 ((y.2.2).length)], [.row (.f32 y.2.2) 0])
theorem spec_l03Upper_den (v53 : Int) (v54 : Int) (v55 : List Nat) : (den TT (tabD spec_l03Upper_tab) (tabM spec_l03Upper_tab) (spec_l03Upper_LO v53 v54 v55) (codeOf Try.f109) ([.bptr (BR.root 0) [.int .i64 v53, .int .i64 v54, .bslc (BR.root 1) (.f32 v55)]] ++ List.replicate (Try.f109.ntmps - ([.bptr (BR.root 0) [.int .i64 v53, .int .i64 v54, .bslc (BR.root 1) (.f32 v55)]] : List DV).length) .undef) []).bind (retD TT Try.f109.results.toList 0) = (spec_l03Upper_T v53 v54 v55).bind fun y => .leaf (spec_l03Upper_enc v53 v54 v55 y) := by kernel_rfl
theorem spec_l03Upper_fn (v53 : Int) (v54 : Int) (v55 : List Nat) (F : Fr) (hm : F.ids.length = 0) (h0 : St F [] F.H0) (hA : DVs.Ok F [] [.bptr (BR.root 0) [.int .i64 v53, .int .i64 v54, .bslc (BR.root 1) (.f32 v55)]]) {y : Int × Int × (List Nat)} (hy : spec_l03Upper_g v53 v54 v55 = some y) : ∃ H', FnOk Try.prog 109 (DVs.av F [.bptr (BR.root 0) [.int .i64 v53, .int .i64 v54, .bslc (BR.root 1) (.f32 v55)]]) F.H0 ((spec_l03Upper_enc v53 v54 v55 y).1.av F) H' ∧ St F (spec_l03Upper_enc v53 v54 v55 y).2 H' ∧ (spec_l03Upper_enc v53 v54 v55 y).1.Ok F (spec_l03Upper_enc v53 v54 v55 y).2 :=
  fn_fin tok spec_l03Upper_hO mixed Try.func109 Try.call109 (by kernel_rfl) (LoopsOk_eq (l := [(0, bodyOf Try.f109 0)]) (by kernel_rfl) ⟨spec_l03Upper_l0_ok v53 v54 v55, trivial⟩) (spec_l03Upper_den v53 v54 v55) hy hm h0 hA
noncomputable def spec_l03Upper_F : DFn := fun args L =>
  match args with
  | [a1] =>
    optT (cellsOf L 3 a1) fun cs0 =>
    (match cs0 with
    | [.int .i64 v53, .int .i64 v54, a2] =>
    optT (rowF32 L a2) fun v55 =>
    .call (spec_l03Upper_g v53 v54 v55) fun y => .leaf (.agg [.int .i64 y.1, .int .i64 y.2.1, .own (L.length + 0) 0 ((y.2.2).length)], L ++ [.row (.f32 y.2.2) 0])
    | _ => .fail)
  | _ => .fail
theorem spec_l03Upper_Fok : COk Try.prog 109 spec_l03Upper_F true := by
  intro F L H args r L' hs ha hr
  unfold spec_l03Upper_F at hr
  split at hr
  · rename_i a1
    obtain ⟨cs0, hcp0, hr⟩ := optT_run hr
    split at hr
    · rename_i v53 v54 a2
      obtain ⟨v55, hv55, hr⟩ := optT_run hr
      simp only [Tree.run] at hr
      obtain ⟨y, hy, hr⟩ := Option.bind_eq_some_iff.1 hr
      simp only [Tree.run, Option.some.injEq, Prod.mk.injEq] at hr
      obtain ⟨rfl, rfl⟩ := hr
      exact call_ok1 hs (fun k => (([a1.av F, a2.av F] : List AV)[k]?).getD .top) [a1] [.bptr (BR.root 0) [.int .i64 v53, .int .i64 v54, .bslc (BR.root 1) (.f32 v55)]] (fun F' h0 hi hρ => ⟨by simp [DVs.av, DV.av, BR.av, hρ], spec_l03Upper_fn v53 v54 v55 F' (by rw [hi]; rfl) (st_nil hi) ⟨bptr_ok hi (by rw [h0]; simpa [DVs.av, DV.av, BR.av, hρ] using (cellsOf_ok hs (DVs.okAt ha 0 rfl) hcp0).1) ⟨trivial, trivial, bslc_ok hi (by rw [h0, hρ]; exact rowF32_ok hs (DVs.okAt (cellsOf_ok hs (DVs.okAt ha 0 rfl) hcp0).2 2 rfl) hv55), trivial⟩, trivial⟩ hy⟩) rfl rfl
    · cases hr
  · cases hr
/-! spec.l02At -/
noncomputable def spec_l02At_LO (v124 : Int) (v125 : Int) (v126 : List Nat) (v127 : Int) (v128 : Int) : LOr := fun id e L =>
  match id with
  | _ => .fail
noncomputable def spec_l02At_tab : List (FuncId × DFn × Bool) := []
theorem spec_l02At_hO : OrcOk Try.prog (tabD spec_l02At_tab) (tabM spec_l02At_tab) := tabD_nil _
noncomputable def spec_l02At_T (v125 : Int) (v126 : List Nat) (v127 : Int) (v128 : Int) : Tree (Nat) :=
  (.grd (inb (IntKind.i64.wrap ((IntKind.i64.wrap (v127 * v125)) + v128)) v126.length) <|
  .leaf (nth v126 (Int.toNat (IntKind.i64.wrap ((IntKind.i64.wrap (v127 * v125)) + v128)))))

noncomputable def spec_l02At_g (v125 : Int) (v126 : List Nat) (v127 : Int) (v128 : Int) : Option (Nat) := (spec_l02At_T v125 v126 v127 v128).run
def spec_l02At_enc (v124 : Int) (v125 : Int) (v126 : List Nat) (v127 : Int) (v128 : Int) (y : Nat) : Rs := (.flt .f32 y, [])
theorem spec_l02At_den (v124 : Int) (v125 : Int) (v126 : List Nat) (v127 : Int) (v128 : Int) : (den TT (tabD spec_l02At_tab) (tabM spec_l02At_tab) (spec_l02At_LO v124 v125 v126 v127 v128) (codeOf Try.f59) ([.bptr (BR.root 0) [.int .i64 v124, .int .i64 v125, .bslc (BR.root 1) (.f32 v126)], .int .i64 v127, .int .i64 v128] ++ List.replicate (Try.f59.ntmps - ([.bptr (BR.root 0) [.int .i64 v124, .int .i64 v125, .bslc (BR.root 1) (.f32 v126)], .int .i64 v127, .int .i64 v128] : List DV).length) .undef) []).bind (retD TT Try.f59.results.toList 0) = (spec_l02At_T v125 v126 v127 v128).bind fun y => .leaf (spec_l02At_enc v124 v125 v126 v127 v128 y) := by kernel_rfl
theorem spec_l02At_fn (v124 : Int) (v125 : Int) (v126 : List Nat) (v127 : Int) (v128 : Int) (F : Fr) (hm : F.ids.length = 0) (h0 : St F [] F.H0) (hA : DVs.Ok F [] [.bptr (BR.root 0) [.int .i64 v124, .int .i64 v125, .bslc (BR.root 1) (.f32 v126)], .int .i64 v127, .int .i64 v128]) {y : Nat} (hy : spec_l02At_g v125 v126 v127 v128 = some y) : ∃ H', FnOk Try.prog 59 (DVs.av F [.bptr (BR.root 0) [.int .i64 v124, .int .i64 v125, .bslc (BR.root 1) (.f32 v126)], .int .i64 v127, .int .i64 v128]) F.H0 ((spec_l02At_enc v124 v125 v126 v127 v128 y).1.av F) H' ∧ St F (spec_l02At_enc v124 v125 v126 v127 v128 y).2 H' ∧ (spec_l02At_enc v124 v125 v126 v127 v128 y).1.Ok F (spec_l02At_enc v124 v125 v126 v127 v128 y).2 :=
  fn_fin tok spec_l02At_hO mixed Try.func59 Try.call59 (by kernel_rfl) (LoopsOk_eq (l := []) (by kernel_rfl) trivial) (spec_l02At_den v124 v125 v126 v127 v128) hy hm h0 hA
noncomputable def spec_l02At_F : DFn := fun args L =>
  match args with
  | [a1, .int .i64 v127, .int .i64 v128] =>
    optT (cellsOf L 3 a1) fun cs0 =>
    (match cs0 with
    | [.int .i64 v124, .int .i64 v125, a2] =>
    optT (rowF32 L a2) fun v126 =>
    .call (spec_l02At_g v125 v126 v127 v128) fun y => .leaf (.flt .f32 y, L)
    | _ => .fail)
  | _ => .fail
theorem spec_l02At_Fok : COk Try.prog 59 spec_l02At_F true := by
  intro F L H args r L' hs ha hr
  unfold spec_l02At_F at hr
  split at hr
  · rename_i a1 v127 v128
    obtain ⟨cs0, hcp0, hr⟩ := optT_run hr
    split at hr
    · rename_i v124 v125 a2
      obtain ⟨v126, hv126, hr⟩ := optT_run hr
      simp only [Tree.run] at hr
      obtain ⟨y, hy, hr⟩ := Option.bind_eq_some_iff.1 hr
      simp only [Tree.run, Option.some.injEq, Prod.mk.injEq] at hr
      obtain ⟨rfl, rfl⟩ := hr
      exact call_ok0 hs (fun k => (([a1.av F, a2.av F] : List AV)[k]?).getD .top) [a1, .int .i64 v127, .int .i64 v128] [.bptr (BR.root 0) [.int .i64 v124, .int .i64 v125, .bslc (BR.root 1) (.f32 v126)], .int .i64 v127, .int .i64 v128] (fun F' h0 hi hρ => ⟨by simp [DVs.av, DV.av, BR.av, hρ], spec_l02At_fn v124 v125 v126 v127 v128 F' (by rw [hi]; rfl) (st_nil hi) ⟨bptr_ok hi (by rw [h0]; simpa [DVs.av, DV.av, BR.av, hρ] using (cellsOf_ok hs (DVs.okAt ha 0 rfl) hcp0).1) ⟨trivial, trivial, bslc_ok hi (by rw [h0, hρ]; exact rowF32_ok hs (DVs.okAt (cellsOf_ok hs (DVs.okAt ha 0 rfl) hcp0).2 2 rfl) hv126), trivial⟩, trivial, trivial, trivial⟩ hy⟩) rfl
    · cases hr
  · cases hr
/-! math.Sqrt -/
noncomputable def math_Sqrt_LO (v131 : Nat) : LOr := fun id e L =>
  match id with
  | _ => .fail
noncomputable def math_Sqrt_tab : List (FuncId × DFn × Bool) := [(177, Sqrt_F, true)]
theorem math_Sqrt_hO : OrcOk Try.prog (tabD math_Sqrt_tab) (tabM math_Sqrt_tab) := tabD_cons Sqrt_Fok (tabD_nil _)
noncomputable def math_Sqrt_T (v131 : Nat) : Tree (Nat) :=
  .leaf (fsqrt v131)

noncomputable def math_Sqrt_g (v131 : Nat) : Option (Nat) := (math_Sqrt_T v131).run
def math_Sqrt_enc (v131 : Nat) (y : Nat) : Rs := (.flt .f64 y, [])
theorem math_Sqrt_den (v131 : Nat) : (den TT (tabD math_Sqrt_tab) (tabM math_Sqrt_tab) (math_Sqrt_LO v131) (codeOf Try.f157) ([.flt .f64 v131] ++ List.replicate (Try.f157.ntmps - ([.flt .f64 v131] : List DV).length) .undef) []).bind (retD TT Try.f157.results.toList 0) = (math_Sqrt_T v131).bind fun y => .leaf (math_Sqrt_enc v131 y) := by kernel_rfl
theorem math_Sqrt_fn (v131 : Nat) (F : Fr) (hm : F.ids.length = 0) (h0 : St F [] F.H0) (hA : DVs.Ok F [] [.flt .f64 v131]) {y : Nat} (hy : math_Sqrt_g v131 = some y) : ∃ H', FnOk Try.prog 157 (DVs.av F [.flt .f64 v131]) F.H0 ((math_Sqrt_enc v131 y).1.av F) H' ∧ St F (math_Sqrt_enc v131 y).2 H' ∧ (math_Sqrt_enc v131 y).1.Ok F (math_Sqrt_enc v131 y).2 :=
  fn_fin tok math_Sqrt_hO mixed Try.func157 Try.call157 (by kernel_rfl) (LoopsOk_eq (l := []) (by kernel_rfl) trivial) (math_Sqrt_den v131) hy hm h0 hA
def math_Sqrt_v (v131 : Nat) : Nat :=
  fsqrt v131
theorem math_Sqrt_tot (v131 : Nat) : math_Sqrt_g v131 = some (math_Sqrt_v v131) := by
  unfold math_Sqrt_g math_Sqrt_T math_Sqrt_v
  simp only [Tree.run]
  repeat' (first | rfl | split)
noncomputable def math_Sqrt_F : DFn := fun args L =>
  match args with
  | [.flt .f64 v131] =>
    .leaf (.flt .f64 (math_Sqrt_v v131), L)
  | _ => .fail
theorem math_Sqrt_Fok : COk Try.prog 157 math_Sqrt_F true := by
  intro F L H args r L' hs ha hr
  unfold math_Sqrt_F at hr
  split at hr
  · rename_i v131
    have hy := math_Sqrt_tot v131
    generalize math_Sqrt_v v131 = y at hy hr
    simp only [Tree.run, Option.some.injEq, Prod.mk.injEq] at hr
    obtain ⟨rfl, rfl⟩ := hr
    exact call_ok0 hs (fun k => (([] : List AV)[k]?).getD .top) [.flt .f64 v131] [.flt .f64 v131] (fun F' h0 hi hρ => ⟨by simp [DVs.av, DV.av, BR.av, hρ], math_Sqrt_fn v131 F' (by rw [hi]; rfl) (st_nil hi) ⟨trivial, trivial⟩ hy⟩) rfl
  · cases hr
/-! spec.l01Narrow -/
noncomputable def spec_l01Narrow_LO (v132 : Nat) : LOr := fun id e L =>
  match id with
  | _ => .fail
noncomputable def spec_l01Narrow_tab : List (FuncId × DFn × Bool) := []
theorem spec_l01Narrow_hO : OrcOk Try.prog (tabD spec_l01Narrow_tab) (tabM spec_l01Narrow_tab) := tabD_nil _
noncomputable def spec_l01Narrow_T (v132 : Nat) : Tree (Nat) :=
  (.call (fconv .f64 v132 .f32) fun v133 =>
  .leaf v133)

noncomputable def spec_l01Narrow_g (v132 : Nat) : Option (Nat) := (spec_l01Narrow_T v132).run
def spec_l01Narrow_enc (v132 : Nat) (y : Nat) : Rs := (.flt .f32 y, [])
theorem spec_l01Narrow_den (v132 : Nat) : (den TT (tabD spec_l01Narrow_tab) (tabM spec_l01Narrow_tab) (spec_l01Narrow_LO v132) (codeOf Try.f156) ([.flt .f64 v132] ++ List.replicate (Try.f156.ntmps - ([.flt .f64 v132] : List DV).length) .undef) []).bind (retD TT Try.f156.results.toList 0) = (spec_l01Narrow_T v132).bind fun y => .leaf (spec_l01Narrow_enc v132 y) := by kernel_rfl
theorem spec_l01Narrow_fn (v132 : Nat) (F : Fr) (hm : F.ids.length = 0) (h0 : St F [] F.H0) (hA : DVs.Ok F [] [.flt .f64 v132]) {y : Nat} (hy : spec_l01Narrow_g v132 = some y) : ∃ H', FnOk Try.prog 156 (DVs.av F [.flt .f64 v132]) F.H0 ((spec_l01Narrow_enc v132 y).1.av F) H' ∧ St F (spec_l01Narrow_enc v132 y).2 H' ∧ (spec_l01Narrow_enc v132 y).1.Ok F (spec_l01Narrow_enc v132 y).2 :=
  fn_fin tok spec_l01Narrow_hO mixed Try.func156 Try.call156 (by kernel_rfl) (LoopsOk_eq (l := []) (by kernel_rfl) trivial) (spec_l01Narrow_den v132) hy hm h0 hA
noncomputable def spec_l01Narrow_F : DFn := fun args L =>
  match args with
  | [.flt .f64 v132] =>
    .call (spec_l01Narrow_g v132) fun y => .leaf (.flt .f32 y, L)
  | _ => .fail
theorem spec_l01Narrow_Fok : COk Try.prog 156 spec_l01Narrow_F true := by
  intro F L H args r L' hs ha hr
  unfold spec_l01Narrow_F at hr
  split at hr
  · rename_i v132
    simp only [Tree.run] at hr
    obtain ⟨y, hy, hr⟩ := Option.bind_eq_some_iff.1 hr
    simp only [Tree.run, Option.some.injEq, Prod.mk.injEq] at hr
    obtain ⟨rfl, rfl⟩ := hr
    exact call_ok0 hs (fun k => (([] : List AV)[k]?).getD .top) [.flt .f64 v132] [.flt .f64 v132] (fun F' h0 hi hρ => ⟨by simp [DVs.av, DV.av, BR.av, hρ], spec_l01Narrow_fn v132 F' (by rw [hi]; rfl) (st_nil hi) ⟨trivial, trivial⟩ hy⟩) rfl
  · cases hr
/-! spec.l01Sqrt -/
noncomputable def spec_l01Sqrt_LO (v130 : Nat) : LOr := fun id e L =>
  match id with
  | _ => .fail
noncomputable def spec_l01Sqrt_tab : List (FuncId × DFn × Bool) := [(157, math_Sqrt_F, true), (156, spec_l01Narrow_F, true)]
theorem spec_l01Sqrt_hO : OrcOk Try.prog (tabD spec_l01Sqrt_tab) (tabM spec_l01Sqrt_tab) := tabD_cons math_Sqrt_Fok (tabD_cons spec_l01Narrow_Fok (tabD_nil _))
noncomputable def spec_l01Sqrt_T (v130 : Nat) : Tree (Nat) :=
  (.call (spec_l01Narrow_g (math_Sqrt_v (wid v130))) fun v134 =>
  .leaf v134)

noncomputable def spec_l01Sqrt_g (v130 : Nat) : Option (Nat) := (spec_l01Sqrt_T v130).run
def spec_l01Sqrt_enc (v130 : Nat) (y : Nat) : Rs := (.flt .f32 y, [])
theorem spec_l01Sqrt_den (v130 : Nat) : (den TT (tabD spec_l01Sqrt_tab) (tabM spec_l01Sqrt_tab) (spec_l01Sqrt_LO v130) (codeOf Try.f110) ([.flt .f32 v130] ++ List.replicate (Try.f110.ntmps - ([.flt .f32 v130] : List DV).length) .undef) []).bind (retD TT Try.f110.results.toList 0) = (spec_l01Sqrt_T v130).bind fun y => .leaf (spec_l01Sqrt_enc v130 y) := by kernel_rfl
theorem spec_l01Sqrt_fn (v130 : Nat) (F : Fr) (hm : F.ids.length = 0) (h0 : St F [] F.H0) (hA : DVs.Ok F [] [.flt .f32 v130]) {y : Nat} (hy : spec_l01Sqrt_g v130 = some y) : ∃ H', FnOk Try.prog 110 (DVs.av F [.flt .f32 v130]) F.H0 ((spec_l01Sqrt_enc v130 y).1.av F) H' ∧ St F (spec_l01Sqrt_enc v130 y).2 H' ∧ (spec_l01Sqrt_enc v130 y).1.Ok F (spec_l01Sqrt_enc v130 y).2 :=
  fn_fin tok spec_l01Sqrt_hO mixed Try.func110 Try.call110 (by kernel_rfl) (LoopsOk_eq (l := []) (by kernel_rfl) trivial) (spec_l01Sqrt_den v130) hy hm h0 hA
noncomputable def spec_l01Sqrt_F : DFn := fun args L =>
  match args with
  | [.flt .f32 v130] =>
    .call (spec_l01Sqrt_g v130) fun y => .leaf (.flt .f32 y, L)
  | _ => .fail
theorem spec_l01Sqrt_Fok : COk Try.prog 110 spec_l01Sqrt_F true := by
  intro F L H args r L' hs ha hr
  unfold spec_l01Sqrt_F at hr
  split at hr
  · rename_i v130
    simp only [Tree.run] at hr
    obtain ⟨y, hy, hr⟩ := Option.bind_eq_some_iff.1 hr
    simp only [Tree.run, Option.some.injEq, Prod.mk.injEq] at hr
    obtain ⟨rfl, rfl⟩ := hr
    exact call_ok0 hs (fun k => (([] : List AV)[k]?).getD .top) [.flt .f32 v130] [.flt .f32 v130] (fun F' h0 hi hρ => ⟨by simp [DVs.av, DV.av, BR.av, hρ], spec_l01Sqrt_fn v130 F' (by rw [hi]; rfl) (st_nil hi) ⟨trivial, trivial⟩ hy⟩) rfl
  · cases hr
/-! spec.l02Give -/
noncomputable def spec_l02Give_LO (v234 : Int) (v235 : Int) (v236 : List Nat) : LOr := fun id e L =>
  match id with
  | _ => .fail
noncomputable def spec_l02Give_tab : List (FuncId × DFn × Bool) := [(61, spec_l02Is_F, true)]
theorem spec_l02Give_hO : OrcOk Try.prog (tabD spec_l02Give_tab) (tabM spec_l02Give_tab) := tabD_cons spec_l02Is_Fok (tabD_nil _)
noncomputable def spec_l02Give_T (v234 : Int) (v235 : Int) (v236 : List Nat) : Tree ((Unit) ⊕ (Int × Int)) :=
  (.call (spec_l02Is_g v234 v235 v236) fun v237 =>
  (.br (!v237) (
   .leaf (.inl ())
  ) (
   .leaf (.inr (v234, v235))
  )))

noncomputable def spec_l02Give_g (v234 : Int) (v235 : Int) (v236 : List Nat) : Option ((Unit) ⊕ (Int × Int)) := (spec_l02Give_T v234 v235 v236).run
def spec_l02Give_enc (v234 : Int) (v235 : Int) (v236 : List Nat) (y : (Unit) ⊕ (Int × Int)) : Rs := (match y with | .inl y => (.tup [.agg [.int .i64 (0 : Int), .int .i64 (0 : Int), .nilslc], .lit false], []) | .inr y => (.tup [.agg [.int .i64 y.1, .int .i64 y.2, .bslc (BR.root 0) (.f32 v236)], .lit true], []))
theorem spec_l02Give_den (v234 : Int) (v235 : Int) (v236 : List Nat) : (den TT (tabD spec_l02Give_tab) (tabM spec_l02Give_tab) (spec_l02Give_LO v234 v235 v236) (codeOf Try.f71) ([.agg [.int .i64 v234, .int .i64 v235, .bslc (BR.root 0) (.f32 v236)]] ++ List.replicate (Try.f71.ntmps - ([.agg [.int .i64 v234, .int .i64 v235, .bslc (BR.root 0) (.f32 v236)]] : List DV).length) .undef) []).bind (retD TT Try.f71.results.toList 0) = (spec_l02Give_T v234 v235 v236).bind fun y => .leaf (spec_l02Give_enc v234 v235 v236 y) := by kernel_rfl
theorem spec_l02Give_fn (v234 : Int) (v235 : Int) (v236 : List Nat) (F : Fr) (hm : F.ids.length = 0) (h0 : St F [] F.H0) (hA : DVs.Ok F [] [.agg [.int .i64 v234, .int .i64 v235, .bslc (BR.root 0) (.f32 v236)]]) {y : (Unit) ⊕ (Int × Int)} (hy : spec_l02Give_g v234 v235 v236 = some y) : ∃ H', FnOk Try.prog 71 (DVs.av F [.agg [.int .i64 v234, .int .i64 v235, .bslc (BR.root 0) (.f32 v236)]]) F.H0 ((spec_l02Give_enc v234 v235 v236 y).1.av F) H' ∧ St F (spec_l02Give_enc v234 v235 v236 y).2 H' ∧ (spec_l02Give_enc v234 v235 v236 y).1.Ok F (spec_l02Give_enc v234 v235 v236 y).2 :=
  fn_fin tok spec_l02Give_hO mixed Try.func71 Try.call71 (by kernel_rfl) (LoopsOk_eq (l := []) (by kernel_rfl) trivial) (spec_l02Give_den v234 v235 v236) hy hm h0 hA
noncomputable def spec_l02Give_F : DFn := fun args L =>
  match args with
  | [.agg [.int .i64 v234, .int .i64 v235, a1]] =>
    optT (rowF32 L a1) fun v236 =>
    .call (spec_l02Give_g v234 v235 v236) fun y => .sum y (fun y0 => .leaf (.tup [.agg [.int .i64 (0 : Int), .int .i64 (0 : Int), .nilslc], .lit false], L)) (fun z0 => .leaf (.tup [.agg [.int .i64 z0.1, .int .i64 z0.2, a1], .lit true], L))
  | _ => .fail
theorem spec_l02Give_Fok : COk Try.prog 71 spec_l02Give_F true := by
  intro F L H args r L' hs ha hr
  unfold spec_l02Give_F at hr
  split at hr
  · rename_i v234 v235 a1
    obtain ⟨v236, hv236, hr⟩ := optT_run hr
    simp only [Tree.run] at hr
    obtain ⟨y, hy, hr⟩ := Option.bind_eq_some_iff.1 hr
    cases y with
    | inl y =>
      simp only [Tree.run, Option.some.injEq, Prod.mk.injEq] at hr
      obtain ⟨rfl, rfl⟩ := hr
      exact call_ok0 hs (fun k => (([a1.av F] : List AV)[k]?).getD .top) [.agg [.int .i64 v234, .int .i64 v235, a1]] [.agg [.int .i64 v234, .int .i64 v235, .bslc (BR.root 0) (.f32 v236)]] (fun F' h0 hi hρ => ⟨by simp [DVs.av, DV.av, BR.av, hρ], spec_l02Give_fn v234 v235 v236 F' (by rw [hi]; rfl) (st_nil hi) ⟨⟨trivial, trivial, bslc_ok hi (by rw [h0, hρ]; exact rowF32_ok hs (DVs.okAt (DVs.okAt ha 0 rfl) 2 rfl) hv236), trivial⟩, trivial⟩ hy⟩) rfl
    | inr y =>
      simp only [Tree.run, Option.some.injEq, Prod.mk.injEq] at hr
      obtain ⟨rfl, rfl⟩ := hr
      exact call_al0 hs (fun k => (([a1.av F] : List AV)[k]?).getD .top) [.agg [.int .i64 v234, .int .i64 v235, a1]] [.agg [.int .i64 v234, .int .i64 v235, .bslc (BR.root 0) (.f32 v236)]] (fun F' h0 hi hρ => ⟨by simp [DVs.av, DV.av, BR.av, hρ], spec_l02Give_fn v234 v235 v236 F' (by rw [hi]; rfl) (st_nil hi) ⟨⟨trivial, trivial, bslc_ok hi (by rw [h0, hρ]; exact rowF32_ok hs (DVs.okAt (DVs.okAt ha 0 rfl) 2 rfl) hv236), trivial⟩, trivial⟩ hy⟩) (fun F' h0 hi hρ => by simp [spec_l02Give_enc, DVs.av, DV.av, BR.av, hρ]) ⟨⟨trivial, trivial, (DVs.okAt (DVs.okAt ha 0 rfl) 2 rfl), trivial⟩, trivial, trivial⟩
  · cases hr
/-! spec.AddRow -/
noncomputable def spec_AddRow_l2_T (v223 : Int) (v224 : Int) (v225 : Nat) (v226 : Nat) (v228 : Int) (s : Int × (List Nat) × (List Nat)) : Tree ((Int × (List Nat) × (List Nat)) ⊕ ((List Nat) × (List Nat))) :=
  (.br (decide (s.1 < v223)) (
   (.call (spec_l02At_g v223 s.2.2 v224 s.1) fun v231 =>
   (.grd (inb s.1 ((s.2.1).length)) <|
   (.grd (inb (IntKind.i64.wrap ((IntKind.i64.wrap (v224 * v223)) + s.1)) ((s.2.2).length)) <|
   (.grd (inb s.1 ((s.2.1).length)) <|
   .leaf (.inl (IntKind.i64.wrap (s.1 + (1 : Int)), List.set s.2.1 (Int.toNat s.1) (fsub .f32 (fmul .f32 v225 (nth s.2.1 (Int.toNat s.1))) (fmul .f32 v226 v231)), List.set s.2.2 (Int.toNat (IntKind.i64.wrap ((IntKind.i64.wrap (v224 * v223)) + s.1))) (fadd .f32 (fmul .f32 v225 v231) (fmul .f32 v226 (nth s.2.1 (Int.toNat s.1))))))))))
  ) (
   .leaf (.inr (s.2.1, s.2.2))
  ))

noncomputable def spec_AddRow_l2_g (v223 : Int) (v224 : Int) (v225 : Nat) (v226 : Nat) (v228 : Int) (s0 : Int × (List Nat) × (List Nat)) : Option ((List Nat) × (List Nat)) := whileM (fun s => (spec_AddRow_l2_T v223 v224 v225 v226 v228 s).run) s0
def spec_AddRow_l2_E (v24 : Int) (v25 : Int) (v26 : List Nat) (v27 : List Nat) (v223 : Int) (v224 : Int) (v225 : Nat) (v226 : Nat) (v228 : Int) (s : Int × (List Nat) × (List Nat)) : Sd := ([.top, .top, .top, .top, .ptr 0 (0 : Nat) 0 (3 : Nat), .top, .ptr 1 (0 : Nat) 0 (3 : Nat), .own 2 0 ((s.2.1).length), .int .i64 v223, .int .i64 v224, .top, .top, .top, .flt .f32 v225, .flt .f32 v226, .int .i64 s.1, .top, .top, .top, .top, .top, .top, .top, .top, .top, .top, .top, .top, .top, .top, .top, .top, .top, .top, .top, .top, .top, .top, .top, .top, .top, .top, .top, .top, .top, .top, .top, .top, .top, .top, .top, .top, .top, .top, .top, .top, .top, .top, .top, .top, .top, .top, .top, .top, .top, .top, .top, .top, .top, .top, .top, .top, .top, .top, .top, .top, .top, .top, .top, .top, .top, .top, .top, .top, .top, .top, .top, .top, .top, .top, .top, .top, .top, .top, .top, .top, .top, .top, .top, .top, .top, .top, .top, .top, .top, .top, .top, .top, .top, .top], [.gen [.int .i64 (0 : Int), .int .i64 (0 : Int), .nilslc] false 0, .gen [.int .i64 v228, .int .i64 v223, .own 3 0 ((s.2.2).length)] false 0, .row (.f32 s.2.1) 0, .row (.f32 s.2.2) 0])
def spec_AddRow_l2_X (v24 : Int) (v25 : Int) (v26 : List Nat) (v27 : List Nat) (v223 : Int) (v224 : Int) (v225 : Nat) (v226 : Nat) (v228 : Int) (x : (List Nat) × (List Nat)) : Out := (.normal, [.top, .top, .top, .top, .ptr 0 (0 : Nat) 0 (3 : Nat), .top, .ptr 1 (0 : Nat) 0 (3 : Nat), .own 2 0 ((x.1).length), .int .i64 v223, .int .i64 v224, .top, .top, .top, .top, .top, .top, .top, .top, .top, .top, .top, .top, .top, .top, .top, .top, .top, .top, .top, .top, .top, .top, .top, .top, .top, .top, .top, .top, .top, .top, .top, .top, .top, .top, .top, .top, .top, .top, .top, .top, .top, .top, .top, .top, .top, .top, .top, .top, .top, .top, .top, .top, .top, .top, .top, .top, .top, .top, .top, .top, .top, .top, .top, .top, .top, .top, .top, .top, .top, .top, .top, .top, .top, .top, .top, .top, .top, .top, .top, .top, .top, .top, .top, .top, .top, .top, .top, .top, .top, .top, .top, .top, .top, .top, .top, .top, .top, .top, .top, .top], [.gen [.int .i64 (0 : Int), .int .i64 (0 : Int), .nilslc] false 0, .gen [.int .i64 v228, .int .i64 v223, .own 3 0 ((x.2).length)] false 0, .row (.f32 x.1) 0, .row (.f32 x.2) 0])
def spec_AddRow_l2_kill : List Nat := [1, 1, 1, 1, 0, 1, 0, 0, 0, 0, 1, 1, 1, 0, 0, 0, 1, 1, 1, 1, 1, 1, 1, 1, 1, 1, 1, 1, 1, 1, 1, 1, 1, 1, 1, 1, 1, 1, 1, 1, 1, 1, 1, 1, 1, 1, 1, 1, 1, 1, 1, 1, 1, 1, 1, 1, 1, 1, 1, 1, 1, 1, 1, 1, 1, 1, 1, 1, 1, 1, 1, 1, 1, 1, 1, 1, 1, 1, 1, 1, 1, 1, 1, 1, 1, 1, 1, 1, 1, 1, 1, 1, 1, 1, 1, 1, 1, 1, 1, 1, 1, 1, 1, 1, 1, 1, 1, 1, 1, 1]
def spec_AddRow_l2_nx : Exit → List Nat
  | .exit 0 => [1, 1, 1, 1, 0, 1, 0, 1, 1, 1, 1, 1, 1, 1, 1, 1, 1, 1, 1, 1, 1, 1, 1, 1, 1, 1, 1, 1, 1, 1, 1, 1, 1, 1, 1, 1, 1, 1, 1, 1, 1, 1, 1, 1, 1, 1, 1, 1, 1, 1, 1, 1, 1, 1, 1, 1, 1, 1, 1, 1, 1, 1, 1, 1, 1, 1, 1, 1, 1, 1, 1, 1, 1, 1, 1, 1, 1, 1, 1, 1, 1, 1, 1, 1, 1, 1, 1, 1, 1, 1, 1, 1, 1, 1, 1, 1, 1, 1, 1, 1, 1, 1, 1, 1, 1, 1, 1, 1, 1, 1]
  | .exit 1 => [1, 1, 1, 1, 0, 1, 0, 0, 0, 0, 1, 1, 1, 1, 1, 1, 1, 1, 1, 1, 1, 1, 1, 1, 1, 1, 1, 1, 1, 1, 1, 1, 1, 1, 1, 1, 1, 1, 1, 1, 1, 1, 1, 1, 1, 1, 1, 1, 1, 1, 1, 1, 1, 1, 1, 1, 1, 1, 1, 1, 1, 1, 1, 1, 1, 1, 1, 1, 1, 1, 1, 1, 1, 1, 1, 1, 1, 1, 1, 1, 1, 1, 1, 1, 1, 1, 1, 1, 1, 1, 1, 1, 1, 1, 1, 1, 1, 1, 1, 1, 1, 1, 1, 1, 1, 1, 1, 1, 1, 1]
  | .exit 2 => [1, 1, 1, 1, 0, 1, 0, 0, 0, 0, 1, 1, 1, 1, 1, 1, 1, 1, 1, 1, 1, 1, 1, 1, 1, 1, 1, 1, 1, 1, 1, 1, 1, 1, 1, 1, 1, 1, 1, 1, 1, 1, 1, 1, 1, 1, 1, 1, 1, 1, 1, 1, 1, 1, 1, 1, 1, 1, 1, 1, 1, 1, 1, 1, 1, 1, 1, 1, 1, 1, 1, 1, 1, 1, 1, 1, 1, 1, 1, 1, 1, 1, 1, 1, 1, 1, 1, 1, 1, 1, 1, 1, 1, 1, 1, 1, 1, 1, 1, 1, 1, 1, 1, 1, 1, 1, 1, 1, 1, 1]
  | .ret => [1, 1, 1, 1, 0, 0, 1, 1, 1, 1, 1, 1, 1, 1, 1, 1, 1, 1, 1, 1, 1, 1, 1, 1, 1, 1, 1, 1, 1, 1, 1, 1, 1, 1, 1, 1, 1, 1, 1, 1, 1, 1, 1, 1, 1, 1, 1, 1, 1, 1, 1, 1, 1, 1, 1, 1, 1, 1, 1, 1, 1, 1, 1, 1, 1, 1, 1, 1, 1, 1, 1, 1, 1, 1, 1, 1, 1, 1, 1, 1, 1, 1, 1, 1, 1, 1, 1, 1, 1, 1, 1, 1, 1, 1, 1, 1, 1, 1, 1, 1, 1, 1, 1, 1, 1, 1, 1, 1, 1, 1]
  | _ => []
noncomputable def spec_AddRow_l0_T (v24 : Int) (v25 : Int) (v26 : List Nat) (v27 : List Nat) (v198 : Int) (v200 : Int) (s : Int × (List Nat) × (List Nat)) : Tree ((Int × (List Nat) × (List Nat)) ⊕ ((List Nat))) :=
  (.br (decide (s.1 < v198)) (
   (.call (spec_l02At_g v198 s.2.2 s.1 s.1) fun v203 =>
   (.grd (inb s.1 ((s.2.1).length)) <|
   (.call (spec_l01Sqrt_g (fadd .f32 (fmul .f32 v203 v203) (fmul .f32 (nth s.2.1 (Int.toNat s.1)) (nth s.2.1 (Int.toNat s.1))))) fun v204 =>
   (.br (!(fgrt .f32 v204 (0 : Nat))) (
    .leaf (.inl (IntKind.i64.wrap (s.1 + (1 : Int)), s.2.1, s.2.2))
   ) (
    (.need (some (spec_AddRow_l2_E v24 v25 v26 v27 v198 s.1 (fdiv .f32 v203 v204) (fdiv .f32 (nth s.2.1 (Int.toNat s.1)) v204) v200 (s.1, s.2.1, s.2.2)) = some (spec_AddRow_l2_E v24 v25 v26 v27 v198 s.1 (fdiv .f32 v203 v204) (fdiv .f32 (nth s.2.1 (Int.toNat s.1)) v204) v200 (s.1, s.2.1, s.2.2))) <|
    (.call (spec_AddRow_l2_g v198 s.1 (fdiv .f32 v203 v204) (fdiv .f32 (nth s.2.1 (Int.toNat s.1)) v204) v200 (s.1, s.2.1, s.2.2)) fun v232 =>
    .leaf (.inl (IntKind.i64.wrap (s.1 + (1 : Int)), v232.1, v232.2))))
   )))))
  ) (
   .leaf (.inr s.2.2)
  ))

noncomputable def spec_AddRow_l0_g (v24 : Int) (v25 : Int) (v26 : List Nat) (v27 : List Nat) (v198 : Int) (v200 : Int) (s0 : Int × (List Nat) × (List Nat)) : Option ((List Nat)) := whileM (fun s => (spec_AddRow_l0_T v24 v25 v26 v27 v198 v200 s).run) s0
def spec_AddRow_l0_E (v24 : Int) (v25 : Int) (v26 : List Nat) (v27 : List Nat) (v198 : Int) (v200 : Int) (s : Int × (List Nat) × (List Nat)) : Sd := ([.top, .top, .top, .top, .ptr 0 (0 : Nat) 0 (3 : Nat), .top, .ptr 1 (0 : Nat) 0 (3 : Nat), .own 2 0 ((s.2.1).length), .int .i64 v198, .int .i64 s.1, .top, .top, .top, .top, .top, .top, .top, .top, .top, .top, .top, .top, .top, .top, .top, .top, .top, .top, .top, .top, .top, .top, .top, .top, .top, .top, .top, .top, .top, .top, .top, .top, .top, .top, .top, .top, .top, .top, .top, .top, .top, .top, .top, .top, .top, .top, .top, .top, .top, .top, .top, .top, .top, .top, .top, .top, .top, .top, .top, .top, .top, .top, .top, .top, .top, .top, .top, .top, .top, .top, .top, .top, .top, .top, .top, .top, .top, .top, .top, .top, .top, .top, .top, .top, .top, .top, .top, .top, .top, .top, .top, .top, .top, .top, .top, .top, .top, .top, .top, .top], [.gen [.int .i64 (0 : Int), .int .i64 (0 : Int), .nilslc] false 0, .gen [.int .i64 v200, .int .i64 v198, .own 3 0 ((s.2.2).length)] false 0, .row (.f32 s.2.1) 0, .row (.f32 s.2.2) 0])
def spec_AddRow_l0_X (v24 : Int) (v25 : Int) (v26 : List Nat) (v27 : List Nat) (v198 : Int) (v200 : Int) (x : (List Nat)) : Out := (.normal, [.top, .top, .top, .top, .ptr 0 (0 : Nat) 0 (3 : Nat), .top, .ptr 1 (0 : Nat) 0 (3 : Nat), .top, .top, .top, .top, .top, .top, .top, .top, .top, .top, .top, .top, .top, .top, .top, .top, .top, .top, .top, .top, .top, .top, .top, .top, .top, .top, .top, .top, .top, .top, .top, .top, .top, .top, .top, .top, .top, .top, .top, .top, .top, .top, .top, .top, .top, .top, .top, .top, .top, .top, .top, .top, .top, .top, .top, .top, .top, .top, .top, .top, .top, .top, .top, .top, .top, .top, .top, .top, .top, .top, .top, .top, .top, .top, .top, .top, .top, .top, .top, .top, .top, .top, .top, .top, .top, .top, .top, .top, .top, .top, .top, .top, .top, .top, .top, .top, .top, .top, .top, .top, .top, .top, .top], [.gen [.int .i64 (0 : Int), .int .i64 (0 : Int), .nilslc] false 0, .gen [.int .i64 v200, .int .i64 v198, .own 2 0 ((x).length)] false 0, .row (.f32 x) 0])
def spec_AddRow_l0_kill : List Nat := [1, 1, 1, 1, 0, 1, 0, 0, 0, 0, 1, 1, 1, 1, 1, 1, 1, 1, 1, 1, 1, 1, 1, 1, 1, 1, 1, 1, 1, 1, 1, 1, 1, 1, 1, 1, 1, 1, 1, 1, 1, 1, 1, 1, 1, 1, 1, 1, 1, 1, 1, 1, 1, 1, 1, 1, 1, 1, 1, 1, 1, 1, 1, 1, 1, 1, 1, 1, 1, 1, 1, 1, 1, 1, 1, 1, 1, 1, 1, 1, 1, 1, 1, 1, 1, 1, 1, 1, 1, 1, 1, 1, 1, 1, 1, 1, 1, 1, 1, 1, 1, 1, 1, 1, 1, 1, 1, 1, 1, 1]
def spec_AddRow_l0_nx : Exit → List Nat
  | .exit 0 => [1, 1, 1, 1, 0, 1, 0, 1, 1, 1, 1, 1, 1, 1, 1, 1, 1, 1, 1, 1, 1, 1, 1, 1, 1, 1, 1, 1, 1, 1, 1, 1, 1, 1, 1, 1, 1, 1, 1, 1, 1, 1, 1, 1, 1, 1, 1, 1, 1, 1, 1, 1, 1, 1, 1, 1, 1, 1, 1, 1, 1, 1, 1, 1, 1, 1, 1, 1, 1, 1, 1, 1, 1, 1, 1, 1, 1, 1, 1, 1, 1, 1, 1, 1, 1, 1, 1, 1, 1, 1, 1, 1, 1, 1, 1, 1, 1, 1, 1, 1, 1, 1, 1, 1, 1, 1, 1, 1, 1, 1]
  | .ret => [1, 1, 1, 1, 0, 0, 1, 1, 1, 1, 1, 1, 1, 1, 1, 1, 1, 1, 1, 1, 1, 1, 1, 1, 1, 1, 1, 1, 1, 1, 1, 1, 1, 1, 1, 1, 1, 1, 1, 1, 1, 1, 1, 1, 1, 1, 1, 1, 1, 1, 1, 1, 1, 1, 1, 1, 1, 1, 1, 1, 1, 1, 1, 1, 1, 1, 1, 1, 1, 1, 1, 1, 1, 1, 1, 1, 1, 1, 1, 1, 1, 1, 1, 1, 1, 1, 1, 1, 1, 1, 1, 1, 1, 1, 1, 1, 1, 1, 1, 1, 1, 1, 1, 1, 1, 1, 1, 1, 1, 1]
  | _ => []
noncomputable def spec_AddRow_LO (v24 : Int) (v25 : Int) (v26 : List Nat) (v27 : List Nat) : LOr := fun id e L =>
  match id with
  | 2 => .need (normA 0 spec_AddRow_l2_kill e L = some (spec_AddRow_l2_E v24 v25 v26 v27 (gI (vAt e 8)) (gI (vAt e 9)) (gF (vAt e 13)) (gF (vAt e 14)) (gI (cAt L (vAt e 6) 0)) ((gI (vAt e 15)), (gRF L (vAt e 7)), (gRF L (cAt L (vAt e 6) 2))))) (.call (spec_AddRow_l2_g (gI (vAt e 8)) (gI (vAt e 9)) (gF (vAt e 13)) (gF (vAt e 14)) (gI (cAt L (vAt e 6) 0)) ((gI (vAt e 15)), (gRF L (vAt e 7)), (gRF L (cAt L (vAt e 6) 2)))) fun x => .leaf (spec_AddRow_l2_X v24 v25 v26 v27 (gI (vAt e 8)) (gI (vAt e 9)) (gF (vAt e 13)) (gF (vAt e 14)) (gI (cAt L (vAt e 6) 0)) x))
  | 0 => .need (normA 0 spec_AddRow_l0_kill e L = some (spec_AddRow_l0_E v24 v25 v26 v27 (gI (vAt e 8)) (gI (cAt L (vAt e 6) 0)) ((gI (vAt e 9)), (gRF L (vAt e 7)), (gRF L (cAt L (vAt e 6) 2))))) (.call (spec_AddRow_l0_g v24 v25 v26 v27 (gI (vAt e 8)) (gI (cAt L (vAt e 6) 0)) ((gI (vAt e 9)), (gRF L (vAt e 7)), (gRF L (cAt L (vAt e 6) 2)))) fun x => .leaf (spec_AddRow_l0_X v24 v25 v26 v27 (gI (vAt e 8)) (gI (cAt L (vAt e 6) 0)) x))
  | _ => .fail
noncomputable def spec_AddRow_tab : List (FuncId × DFn × Bool) := [(57, spec_l02Square_F, true), (108, spec_l02Vector_F, true), (109, spec_l03Upper_F, true), (59, spec_l02At_F, true), (110, spec_l01Sqrt_F, true), (71, spec_l02Give_F, true)]
theorem spec_AddRow_hO : OrcOk Try.prog (tabD spec_AddRow_tab) (tabM spec_AddRow_tab) := tabD_cons spec_l02Square_Fok (tabD_cons spec_l02Vector_Fok (tabD_cons spec_l03Upper_Fok (tabD_cons spec_l02At_Fok (tabD_cons spec_l01Sqrt_Fok (tabD_cons spec_l02Give_Fok (tabD_nil _))))))
theorem spec_AddRow_l2_be (v24 : Int) (v25 : Int) (v26 : List Nat) (v27 : List Nat) (v223 : Int) (v224 : Int) (v225 : Nat) (v226 : Nat) (v228 : Int) (s : Int × (List Nat) × (List Nat)) : bodyT TT (tabD spec_AddRow_tab) (tabM spec_AddRow_tab) (spec_AddRow_LO v24 v25 v26 v27) 0 spec_AddRow_l2_kill spec_AddRow_l2_nx (bodyOf Try.f48 2) 2 (spec_AddRow_l2_E v24 v25 v26 v27 v223 v224 v225 v226 v228 s) = (spec_AddRow_l2_T v223 v224 v225 v226 v228 s).bind fun y => .leaf (outS (spec_AddRow_l2_E v24 v25 v26 v27 v223 v224 v225 v226 v228) (spec_AddRow_l2_X v24 v25 v26 v27 v223 v224 v225 v226 v228) y) := by kernel_rfl
theorem spec_AddRow_l2_ok (v24 : Int) (v25 : Int) (v26 : List Nat) (v27 : List Nat) : LSound Try.prog 0 (spec_AddRow_LO v24 v25 v26 v27) 2 (bodyOf Try.f48 2) := by
  intro e L out h
  exact lo_ok (E := spec_AddRow_l2_E v24 v25 v26 v27 (gI (vAt e 8)) (gI (vAt e 9)) (gF (vAt e 13)) (gF (vAt e 14)) (gI (cAt L (vAt e 6) 0))) (gT := spec_AddRow_l2_T (gI (vAt e 8)) (gI (vAt e 9)) (gF (vAt e 13)) (gF (vAt e 14)) (gI (cAt L (vAt e 6) 0))) (X := spec_AddRow_l2_X v24 v25 v26 v27 (gI (vAt e 8)) (gI (vAt e 9)) (gF (vAt e 13)) (gF (vAt e 14)) (gI (cAt L (vAt e 6) 0))) (s0 := ((gI (vAt e 15)), (gRF L (vAt e 7)), (gRF L (cAt L (vAt e 6) 2)))) tok spec_AddRow_hO mixed (LoopsOk_eq (l := []) (by kernel_rfl) trivial) (spec_AddRow_l2_be v24 v25 v26 v27 (gI (vAt e 8)) (gI (vAt e 9)) (gF (vAt e 13)) (gF (vAt e 14)) (gI (cAt L (vAt e 6) 0))) rfl (by intro x; rfl) h
theorem spec_AddRow_l0_be (v24 : Int) (v25 : Int) (v26 : List Nat) (v27 : List Nat) (v198 : Int) (v200 : Int) (s : Int × (List Nat) × (List Nat)) : bodyT TT (tabD spec_AddRow_tab) (tabM spec_AddRow_tab) (spec_AddRow_LO v24 v25 v26 v27) 0 spec_AddRow_l0_kill spec_AddRow_l0_nx (bodyOf Try.f48 0) 0 (spec_AddRow_l0_E v24 v25 v26 v27 v198 v200 s) = (spec_AddRow_l0_T v24 v25 v26 v27 v198 v200 s).bind fun y => .leaf (outS (spec_AddRow_l0_E v24 v25 v26 v27 v198 v200) (spec_AddRow_l0_X v24 v25 v26 v27 v198 v200) y) := by kernel_rfl
theorem spec_AddRow_l0_ok (v24 : Int) (v25 : Int) (v26 : List Nat) (v27 : List Nat) : LSound Try.prog 0 (spec_AddRow_LO v24 v25 v26 v27) 0 (bodyOf Try.f48 0) := by
  intro e L out h
  exact lo_ok (E := spec_AddRow_l0_E v24 v25 v26 v27 (gI (vAt e 8)) (gI (cAt L (vAt e 6) 0))) (gT := spec_AddRow_l0_T v24 v25 v26 v27 (gI (vAt e 8)) (gI (cAt L (vAt e 6) 0))) (X := spec_AddRow_l0_X v24 v25 v26 v27 (gI (vAt e 8)) (gI (cAt L (vAt e 6) 0))) (s0 := ((gI (vAt e 9)), (gRF L (vAt e 7)), (gRF L (cAt L (vAt e 6) 2)))) tok spec_AddRow_hO mixed (LoopsOk_eq (l := [(2, bodyOf Try.f48 2)]) (by kernel_rfl) ⟨spec_AddRow_l2_ok v24 v25 v26 v27, trivial⟩) (spec_AddRow_l0_be v24 v25 v26 v27 (gI (vAt e 8)) (gI (cAt L (vAt e 6) 0))) rfl (by intro x; rfl) h
noncomputable def spec_AddRow_T (v24 : Int) (v25 : Int) (v26 : List Nat) (v27 : List Nat) : Tree ((Unit) ⊕ (Int × Int × (List Nat))) :=
  (.call (spec_l02Square_g v24 v25 v26) fun v49 =>
  (.br (!v49) (
   .leaf (.inl ())
  ) (
   (.call (spec_l02Vector_g v27) fun v52 =>
   (.br (!v52) (
    .leaf (.inl ())
   ) (
    (.br (!decide (((v27.length : Nat) : Int) = v25)) (
     .leaf (.inl ())
    ) (
     (.call (spec_l03Upper_g v24 v25 v26) fun v119 =>
     (.grd (fits (([] : List Nat) ++ v27).length) <|
     (.need (some (spec_AddRow_l0_E v24 v25 v26 v27 v119.2.1 v119.1 ((0 : Int), ([] : List Nat) ++ v27, v119.2.2)) = some (spec_AddRow_l0_E v24 v25 v26 v27 v119.2.1 v119.1 ((0 : Int), ([] : List Nat) ++ v27, v119.2.2))) <|
     (.call (spec_AddRow_l0_g v24 v25 v26 v27 v119.2.1 v119.1 ((0 : Int), ([] : List Nat) ++ v27, v119.2.2)) fun v233 =>
     (.call (spec_l02Give_g v119.1 v119.2.1 v233) fun v238 =>
     (.sum v238 (fun v239 =>
      .leaf (.inl ())
     ) (fun v240 =>
      .leaf (.inr (v240.1, v240.2, v233))
     )))))))
    ))
   )))
  )))

noncomputable def spec_AddRow_g (v24 : Int) (v25 : Int) (v26 : List Nat) (v27 : List Nat) : Option ((Unit) ⊕ (Int × Int × (List Nat))) := (spec_AddRow_T v24 v25 v26 v27).run
def spec_AddRow_enc (v24 : Int) (v25 : Int) (v26 : List Nat) (v27 : List Nat) (y : (Unit) ⊕ (Int × Int × (List Nat))) : Rs := (match y with | .inl y => (.tup [.agg [.int .i64 (0 : Int), .int .i64 (0 : Int), .nilslc], .lit false], []) | .inr y => (.tup [.agg [.int .i64 y.1, .int .i64 y.2.1, .own 0 0 ((y.2.2).length)], .lit true], [.row (.f32 y.2.2) 0]))
theorem spec_AddRow_den (v24 : Int) (v25 : Int) (v26 : List Nat) (v27 : List Nat) : (den TT (tabD spec_AddRow_tab) (tabM spec_AddRow_tab) (spec_AddRow_LO v24 v25 v26 v27) (codeOf Try.f48) ([.agg [.int .i64 v24, .int .i64 v25, .bslc (BR.root 0) (.f32 v26)], .bslc (BR.root 1) (.f32 v27)] ++ List.replicate (Try.f48.ntmps - ([.agg [.int .i64 v24, .int .i64 v25, .bslc (BR.root 0) (.f32 v26)], .bslc (BR.root 1) (.f32 v27)] : List DV).length) .undef) []).bind (retD TT Try.f48.results.toList 0) = (spec_AddRow_T v24 v25 v26 v27).bind fun y => .leaf (spec_AddRow_enc v24 v25 v26 v27 y) := by kernel_rfl
theorem spec_AddRow_fn (v24 : Int) (v25 : Int) (v26 : List Nat) (v27 : List Nat) (F : Fr) (hm : F.ids.length = 0) (h0 : St F [] F.H0) (hA : DVs.Ok F [] [.agg [.int .i64 v24, .int .i64 v25, .bslc (BR.root 0) (.f32 v26)], .bslc (BR.root 1) (.f32 v27)]) {y : (Unit) ⊕ (Int × Int × (List Nat))} (hy : spec_AddRow_g v24 v25 v26 v27 = some y) : ∃ H', FnOk Try.prog 48 (DVs.av F [.agg [.int .i64 v24, .int .i64 v25, .bslc (BR.root 0) (.f32 v26)], .bslc (BR.root 1) (.f32 v27)]) F.H0 ((spec_AddRow_enc v24 v25 v26 v27 y).1.av F) H' ∧ St F (spec_AddRow_enc v24 v25 v26 v27 y).2 H' ∧ (spec_AddRow_enc v24 v25 v26 v27 y).1.Ok F (spec_AddRow_enc v24 v25 v26 v27 y).2 :=
  fn_fin tok spec_AddRow_hO mixed Try.func48 Try.call48 (by kernel_rfl) (LoopsOk_eq (l := [(0, bodyOf Try.f48 0)]) (by kernel_rfl) ⟨spec_AddRow_l0_ok v24 v25 v26 v27, trivial⟩) (spec_AddRow_den v24 v25 v26 v27) hy hm h0 hA
noncomputable def spec_AddRow_F : DFn := fun args L =>
  match args with
  | [.agg [.int .i64 v24, .int .i64 v25, a1], a2] =>
    optT (rowF32 L a1) fun v26 =>
    optT (rowF32 L a2) fun v27 =>
    .call (spec_AddRow_g v24 v25 v26 v27) fun y => .sum y (fun y0 => .leaf (.tup [.agg [.int .i64 (0 : Int), .int .i64 (0 : Int), .nilslc], .lit false], L)) (fun z0 => .leaf (.tup [.agg [.int .i64 z0.1, .int .i64 z0.2.1, .own (L.length + 0) 0 ((z0.2.2).length)], .lit true], L ++ [.row (.f32 z0.2.2) 0]))
  | _ => .fail
theorem spec_AddRow_Fok : COk Try.prog 48 spec_AddRow_F true := by
  intro F L H args r L' hs ha hr
  unfold spec_AddRow_F at hr
  split at hr
  · rename_i v24 v25 a1 a2
    obtain ⟨v26, hv26, hr⟩ := optT_run hr
    obtain ⟨v27, hv27, hr⟩ := optT_run hr
    simp only [Tree.run] at hr
    obtain ⟨y, hy, hr⟩ := Option.bind_eq_some_iff.1 hr
    cases y with
    | inl y =>
      simp only [Tree.run, Option.some.injEq, Prod.mk.injEq] at hr
      obtain ⟨rfl, rfl⟩ := hr
      exact call_ok0 hs (fun k => (([a1.av F, a2.av F] : List AV)[k]?).getD .top) [.agg [.int .i64 v24, .int .i64 v25, a1], a2] [.agg [.int .i64 v24, .int .i64 v25, .bslc (BR.root 0) (.f32 v26)], .bslc (BR.root 1) (.f32 v27)] (fun F' h0 hi hρ => ⟨by simp [DVs.av, DV.av, BR.av, hρ], spec_AddRow_fn v24 v25 v26 v27 F' (by rw [hi]; rfl) (st_nil hi) ⟨⟨trivial, trivial, bslc_ok hi (by rw [h0, hρ]; exact rowF32_ok hs (DVs.okAt (DVs.okAt ha 0 rfl) 2 rfl) hv26), trivial⟩, bslc_ok hi (by rw [h0, hρ]; exact rowF32_ok hs (DVs.okAt ha 1 rfl) hv27), trivial⟩ hy⟩) rfl
    | inr y =>
      simp only [Tree.run, Option.some.injEq, Prod.mk.injEq] at hr
      obtain ⟨rfl, rfl⟩ := hr
      exact call_ok1 hs (fun k => (([a1.av F, a2.av F] : List AV)[k]?).getD .top) [.agg [.int .i64 v24, .int .i64 v25, a1], a2] [.agg [.int .i64 v24, .int .i64 v25, .bslc (BR.root 0) (.f32 v26)], .bslc (BR.root 1) (.f32 v27)] (fun F' h0 hi hρ => ⟨by simp [DVs.av, DV.av, BR.av, hρ], spec_AddRow_fn v24 v25 v26 v27 F' (by rw [hi]; rfl) (st_nil hi) ⟨⟨trivial, trivial, bslc_ok hi (by rw [h0, hρ]; exact rowF32_ok hs (DVs.okAt (DVs.okAt ha 0 rfl) 2 rfl) hv26), trivial⟩, bslc_ok hi (by rw [h0, hρ]; exact rowF32_ok hs (DVs.okAt ha 1 rfl) hv27), trivial⟩ hy⟩) rfl rfl
  · cases hr
/-! impl.inRange -/
noncomputable def impl_inRange_LO (v257 : Int) (v258 : Int) (v259 : Int) : LOr := fun id e L =>
  match id with
  | _ => .fail
noncomputable def impl_inRange_tab : List (FuncId × DFn × Bool) := []
theorem impl_inRange_hO : OrcOk Try.prog (tabD impl_inRange_tab) (tabM impl_inRange_tab) := tabD_nil _
noncomputable def impl_inRange_T (v257 : Int) (v258 : Int) (v259 : Int) : Tree (Bool) :=
  (.br (decide (v258 ≤ v257)) (
   .leaf (decide (v257 ≤ v259))
  ) (
   .leaf false
  ))

noncomputable def impl_inRange_g (v257 : Int) (v258 : Int) (v259 : Int) : Option (Bool) := (impl_inRange_T v257 v258 v259).run
def impl_inRange_enc (v257 : Int) (v258 : Int) (v259 : Int) (y : Bool) : Rs := (.bool y, [])
theorem impl_inRange_den (v257 : Int) (v258 : Int) (v259 : Int) : (den TT (tabD impl_inRange_tab) (tabM impl_inRange_tab) (impl_inRange_LO v257 v258 v259) (codeOf Try.f73) ([.int .i64 v257, .int .i64 v258, .int .i64 v259] ++ List.replicate (Try.f73.ntmps - ([.int .i64 v257, .int .i64 v258, .int .i64 v259] : List DV).length) .undef) []).bind (retD TT Try.f73.results.toList 0) = (impl_inRange_T v257 v258 v259).bind fun y => .leaf (impl_inRange_enc v257 v258 v259 y) := by kernel_rfl
theorem impl_inRange_fn (v257 : Int) (v258 : Int) (v259 : Int) (F : Fr) (hm : F.ids.length = 0) (h0 : St F [] F.H0) (hA : DVs.Ok F [] [.int .i64 v257, .int .i64 v258, .int .i64 v259]) {y : Bool} (hy : impl_inRange_g v257 v258 v259 = some y) : ∃ H', FnOk Try.prog 73 (DVs.av F [.int .i64 v257, .int .i64 v258, .int .i64 v259]) F.H0 ((impl_inRange_enc v257 v258 v259 y).1.av F) H' ∧ St F (impl_inRange_enc v257 v258 v259 y).2 H' ∧ (impl_inRange_enc v257 v258 v259 y).1.Ok F (impl_inRange_enc v257 v258 v259 y).2 :=
  fn_fin tok impl_inRange_hO mixed Try.func73 Try.call73 (by kernel_rfl) (LoopsOk_eq (l := []) (by kernel_rfl) trivial) (impl_inRange_den v257 v258 v259) hy hm h0 hA
def impl_inRange_v (v257 : Int) (v258 : Int) (v259 : Int) : Bool :=
  if (decide (v258 ≤ v257)) = true then (
   decide (v257 ≤ v259)
  ) else (
   false
  )
theorem impl_inRange_tot (v257 : Int) (v258 : Int) (v259 : Int) : impl_inRange_g v257 v258 v259 = some (impl_inRange_v v257 v258 v259) := by
  unfold impl_inRange_g impl_inRange_T impl_inRange_v
  simp only [Tree.run]
  repeat' (first | rfl | split)
noncomputable def impl_inRange_F : DFn := fun args L =>
  match args with
  | [.int .i64 v257, .int .i64 v258, .int .i64 v259] =>
    .leaf (.bool (impl_inRange_v v257 v258 v259), L)
  | _ => .fail
theorem impl_inRange_Fok : COk Try.prog 73 impl_inRange_F true := by
  intro F L H args r L' hs ha hr
  unfold impl_inRange_F at hr
  split at hr
  · rename_i v257 v258 v259
    have hy := impl_inRange_tot v257 v258 v259
    generalize impl_inRange_v v257 v258 v259 = y at hy hr
    simp only [Tree.run, Option.some.injEq, Prod.mk.injEq] at hr
    obtain ⟨rfl, rfl⟩ := hr
    exact call_ok0 hs (fun k => (([] : List AV)[k]?).getD .top) [.int .i64 v257, .int .i64 v258, .int .i64 v259] [.int .i64 v257, .int .i64 v258, .int .i64 v259] (fun F' h0 hi hρ => ⟨by simp [DVs.av, DV.av, BR.av, hρ], impl_inRange_fn v257 v258 v259 F' (by rw [hi]; rfl) (st_nil hi) ⟨trivial, trivial, trivial, trivial⟩ hy⟩) rfl
  · cases hr
/-! impl.isSide -/
noncomputable def impl_isSide_LO (v256 : Int) : LOr := fun id e L =>
  match id with
  | _ => .fail
noncomputable def impl_isSide_tab : List (FuncId × DFn × Bool) := [(73, impl_inRange_F, true)]
theorem impl_isSide_hO : OrcOk Try.prog (tabD impl_isSide_tab) (tabM impl_isSide_tab) := tabD_cons impl_inRange_Fok (tabD_nil _)
noncomputable def impl_isSide_T (v256 : Int) : Tree (Bool) :=
  .leaf (impl_inRange_v v256 (1 : Int) (12 : Int))

noncomputable def impl_isSide_g (v256 : Int) : Option (Bool) := (impl_isSide_T v256).run
def impl_isSide_enc (v256 : Int) (y : Bool) : Rs := (.bool y, [])
theorem impl_isSide_den (v256 : Int) : (den TT (tabD impl_isSide_tab) (tabM impl_isSide_tab) (impl_isSide_LO v256) (codeOf Try.f77) ([.int .i64 v256] ++ List.replicate (Try.f77.ntmps - ([.int .i64 v256] : List DV).length) .undef) []).bind (retD TT Try.f77.results.toList 0) = (impl_isSide_T v256).bind fun y => .leaf (impl_isSide_enc v256 y) := by kernel_rfl
theorem impl_isSide_fn (v256 : Int) (F : Fr) (hm : F.ids.length = 0) (h0 : St F [] F.H0) (hA : DVs.Ok F [] [.int .i64 v256]) {y : Bool} (hy : impl_isSide_g v256 = some y) : ∃ H', FnOk Try.prog 77 (DVs.av F [.int .i64 v256]) F.H0 ((impl_isSide_enc v256 y).1.av F) H' ∧ St F (impl_isSide_enc v256 y).2 H' ∧ (impl_isSide_enc v256 y).1.Ok F (impl_isSide_enc v256 y).2 :=
  fn_fin tok impl_isSide_hO mixed Try.func77 Try.call77 (by kernel_rfl) (LoopsOk_eq (l := []) (by kernel_rfl) trivial) (impl_isSide_den v256) hy hm h0 hA
def impl_isSide_v (v256 : Int) : Bool :=
  (impl_inRange_v v256 (1 : Int) (12 : Int))
theorem impl_isSide_tot (v256 : Int) : impl_isSide_g v256 = some (impl_isSide_v v256) := by
  unfold impl_isSide_g impl_isSide_T impl_isSide_v
  simp only [Tree.run]
  repeat' (first | rfl | split)
noncomputable def impl_isSide_F : DFn := fun args L =>
  match args with
  | [.int .i64 v256] =>
    .leaf (.bool (impl_isSide_v v256), L)
  | _ => .fail
theorem impl_isSide_Fok : COk Try.prog 77 impl_isSide_F true := by
  intro F L H args r L' hs ha hr
  unfold impl_isSide_F at hr
  split at hr
  · rename_i v256
    have hy := impl_isSide_tot v256
    generalize impl_isSide_v v256 = y at hy hr
    simp only [Tree.run, Option.some.injEq, Prod.mk.injEq] at hr
    obtain ⟨rfl, rfl⟩ := hr
    exact call_ok0 hs (fun k => (([] : List AV)[k]?).getD .top) [.int .i64 v256] [.int .i64 v256] (fun F' h0 hi hρ => ⟨by simp [DVs.av, DV.av, BR.av, hρ], impl_isSide_fn v256 F' (by rw [hi]; rfl) (st_nil hi) ⟨trivial, trivial⟩ hy⟩) rfl
  · cases hr
/-! impl.length[float32] -/
noncomputable def impl_lengthF_LO (v260 : List Nat) : LOr := fun id e L =>
  match id with
  | _ => .fail
noncomputable def impl_lengthF_tab : List (FuncId × DFn × Bool) := []
theorem impl_lengthF_hO : OrcOk Try.prog (tabD impl_lengthF_tab) (tabM impl_lengthF_tab) := tabD_nil _
noncomputable def impl_lengthF_T (v260 : List Nat) : Tree (Int) :=
  .leaf ((v260.length : Nat) : Int)

noncomputable def impl_lengthF_g (v260 : List Nat) : Option (Int) := (impl_lengthF_T v260).run
def impl_lengthF_enc (v260 : List Nat) (y : Int) : Rs := (.int .i64 y, [])
theorem impl_lengthF_den (v260 : List Nat) : (den TT (tabD impl_lengthF_tab) (tabM impl_lengthF_tab) (impl_lengthF_LO v260) (codeOf Try.f112) ([.bslc (BR.root 0) (.f32 v260)] ++ List.replicate (Try.f112.ntmps - ([.bslc (BR.root 0) (.f32 v260)] : List DV).length) .undef) []).bind (retD TT Try.f112.results.toList 0) = (impl_lengthF_T v260).bind fun y => .leaf (impl_lengthF_enc v260 y) := by kernel_rfl
theorem impl_lengthF_fn (v260 : List Nat) (F : Fr) (hm : F.ids.length = 0) (h0 : St F [] F.H0) (hA : DVs.Ok F [] [.bslc (BR.root 0) (.f32 v260)]) {y : Int} (hy : impl_lengthF_g v260 = some y) : ∃ H', FnOk Try.prog 112 (DVs.av F [.bslc (BR.root 0) (.f32 v260)]) F.H0 ((impl_lengthF_enc v260 y).1.av F) H' ∧ St F (impl_lengthF_enc v260 y).2 H' ∧ (impl_lengthF_enc v260 y).1.Ok F (impl_lengthF_enc v260 y).2 :=
  fn_fin tok impl_lengthF_hO mixed Try.func112 Try.call112 (by kernel_rfl) (LoopsOk_eq (l := []) (by kernel_rfl) trivial) (impl_lengthF_den v260) hy hm h0 hA
def impl_lengthF_v (v260 : List Nat) : Int :=
  ((v260.length : Nat) : Int)
theorem impl_lengthF_tot (v260 : List Nat) : impl_lengthF_g v260 = some (impl_lengthF_v v260) := by
  unfold impl_lengthF_g impl_lengthF_T impl_lengthF_v
  simp only [Tree.run]
  repeat' (first | rfl | split)
noncomputable def impl_lengthF_F : DFn := fun args L =>
  match args with
  | [a1] =>
    optT (rowF32 L a1) fun v260 =>
    .leaf (.int .i64 (impl_lengthF_v v260), L)
  | _ => .fail
theorem impl_lengthF_Fok : COk Try.prog 112 impl_lengthF_F true := by
  intro F L H args r L' hs ha hr
  unfold impl_lengthF_F at hr
  split at hr
  · rename_i a1
    obtain ⟨v260, hv260, hr⟩ := optT_run hr
    have hy := impl_lengthF_tot v260
    generalize impl_lengthF_v v260 = y at hy hr
    simp only [Tree.run, Option.some.injEq, Prod.mk.injEq] at hr
    obtain ⟨rfl, rfl⟩ := hr
    exact call_ok0 hs (fun k => (([a1.av F] : List AV)[k]?).getD .top) [a1] [.bslc (BR.root 0) (.f32 v260)] (fun F' h0 hi hρ => ⟨by simp [DVs.av, DV.av, BR.av, hρ], impl_lengthF_fn v260 F' (by rw [hi]; rfl) (st_nil hi) ⟨bslc_ok hi (by rw [h0, hρ]; exact rowF32_ok hs (DVs.okAt ha 0 rfl) hv260), trivial⟩ hy⟩) rfl
  · cases hr
/-! math.IsNaN -/
noncomputable def math_IsNaN_LO (v268 : Nat) : LOr := fun id e L =>
  match id with
  | _ => .fail
noncomputable def math_IsNaN_tab : List (FuncId × DFn × Bool) := []
theorem math_IsNaN_hO : OrcOk Try.prog (tabD math_IsNaN_tab) (tabM math_IsNaN_tab) := tabD_nil _
noncomputable def math_IsNaN_T (v268 : Nat) : Tree (Bool) :=
  .leaf (!feq .f64 v268 v268)

noncomputable def math_IsNaN_g (v268 : Nat) : Option (Bool) := (math_IsNaN_T v268).run
def math_IsNaN_enc (v268 : Nat) (y : Bool) : Rs := (.bool y, [])
theorem math_IsNaN_den (v268 : Nat) : (den TT (tabD math_IsNaN_tab) (tabM math_IsNaN_tab) (math_IsNaN_LO v268) (codeOf Try.f172) ([.flt .f64 v268] ++ List.replicate (Try.f172.ntmps - ([.flt .f64 v268] : List DV).length) .undef) []).bind (retD TT Try.f172.results.toList 0) = (math_IsNaN_T v268).bind fun y => .leaf (math_IsNaN_enc v268 y) := by kernel_rfl
theorem math_IsNaN_fn (v268 : Nat) (F : Fr) (hm : F.ids.length = 0) (h0 : St F [] F.H0) (hA : DVs.Ok F [] [.flt .f64 v268]) {y : Bool} (hy : math_IsNaN_g v268 = some y) : ∃ H', FnOk Try.prog 172 (DVs.av F [.flt .f64 v268]) F.H0 ((math_IsNaN_enc v268 y).1.av F) H' ∧ St F (math_IsNaN_enc v268 y).2 H' ∧ (math_IsNaN_enc v268 y).1.Ok F (math_IsNaN_enc v268 y).2 :=
  fn_fin tok math_IsNaN_hO mixed Try.func172 Try.call172 (by kernel_rfl) (LoopsOk_eq (l := []) (by kernel_rfl) trivial) (math_IsNaN_den v268) hy hm h0 hA
def math_IsNaN_v (v268 : Nat) : Bool :=
  !feq .f64 v268 v268
theorem math_IsNaN_tot (v268 : Nat) : math_IsNaN_g v268 = some (math_IsNaN_v v268) := by
  unfold math_IsNaN_g math_IsNaN_T math_IsNaN_v
  simp only [Tree.run]
  repeat' (first | rfl | split)
noncomputable def math_IsNaN_F : DFn := fun args L =>
  match args with
  | [.flt .f64 v268] =>
    .leaf (.bool (math_IsNaN_v v268), L)
  | _ => .fail
theorem math_IsNaN_Fok : COk Try.prog 172 math_IsNaN_F true := by
  intro F L H args r L' hs ha hr
  unfold math_IsNaN_F at hr
  split at hr
  · rename_i v268
    have hy := math_IsNaN_tot v268
    generalize math_IsNaN_v v268 = y at hy hr
    simp only [Tree.run, Option.some.injEq, Prod.mk.injEq] at hr
    obtain ⟨rfl, rfl⟩ := hr
    exact call_ok0 hs (fun k => (([] : List AV)[k]?).getD .top) [.flt .f64 v268] [.flt .f64 v268] (fun F' h0 hi hρ => ⟨by simp [DVs.av, DV.av, BR.av, hρ], math_IsNaN_fn v268 F' (by rw [hi]; rfl) (st_nil hi) ⟨trivial, trivial⟩ hy⟩) rfl
  · cases hr
/-! math.IsInf -/
noncomputable def math_IsInf_LO (v269 : Nat) (v270 : Int) : LOr := fun id e L =>
  match id with
  | _ => .fail
noncomputable def math_IsInf_tab : List (FuncId × DFn × Bool) := [(97, Abs_F, true)]
theorem math_IsInf_hO : OrcOk Try.prog (tabD math_IsInf_tab) (tabM math_IsInf_tab) := tabD_cons Abs_Fok (tabD_nil _)
noncomputable def math_IsInf_T (v269 : Nat) (v270 : Int) : Tree (Bool) :=
  (.br (decide (v270 = (0 : Int))) (
   .leaf (fgrt .f64 (fabs v269) (9218868437227405311 : Nat))
  ) (
   (.br (decide (v270 < (0 : Int))) (
    .leaf (fgrt .f64 (fneg .f64 v269) (9218868437227405311 : Nat))
   ) (
    .leaf (fgrt .f64 v269 (9218868437227405311 : Nat))
   ))
  ))

noncomputable def math_IsInf_g (v269 : Nat) (v270 : Int) : Option (Bool) := (math_IsInf_T v269 v270).run
def math_IsInf_enc (v269 : Nat) (v270 : Int) (y : Bool) : Rs := (.bool y, [])
theorem math_IsInf_den (v269 : Nat) (v270 : Int) : (den TT (tabD math_IsInf_tab) (tabM math_IsInf_tab) (math_IsInf_LO v269 v270) (codeOf Try.f173) ([.flt .f64 v269, .int .i64 v270] ++ List.replicate (Try.f173.ntmps - ([.flt .f64 v269, .int .i64 v270] : List DV).length) .undef) []).bind (retD TT Try.f173.results.toList 0) = (math_IsInf_T v269 v270).bind fun y => .leaf (math_IsInf_enc v269 v270 y) := by kernel_rfl
theorem math_IsInf_fn (v269 : Nat) (v270 : Int) (F : Fr) (hm : F.ids.length = 0) (h0 : St F [] F.H0) (hA : DVs.Ok F [] [.flt .f64 v269, .int .i64 v270]) {y : Bool} (hy : math_IsInf_g v269 v270 = some y) : ∃ H', FnOk Try.prog 173 (DVs.av F [.flt .f64 v269, .int .i64 v270]) F.H0 ((math_IsInf_enc v269 v270 y).1.av F) H' ∧ St F (math_IsInf_enc v269 v270 y).2 H' ∧ (math_IsInf_enc v269 v270 y).1.Ok F (math_IsInf_enc v269 v270 y).2 :=
  fn_fin tok math_IsInf_hO mixed Try.func173 Try.call173 (by kernel_rfl) (LoopsOk_eq (l := []) (by kernel_rfl) trivial) (math_IsInf_den v269 v270) hy hm h0 hA
def math_IsInf_v (v269 : Nat) (v270 : Int) : Bool :=
  if (decide (v270 = (0 : Int))) = true then (
   fgrt .f64 (fabs v269) (9218868437227405311 : Nat)
  ) else (
   if (decide (v270 < (0 : Int))) = true then (
    fgrt .f64 (fneg .f64 v269) (9218868437227405311 : Nat)
   ) else (
    fgrt .f64 v269 (9218868437227405311 : Nat)
   )
  )
theorem math_IsInf_tot (v269 : Nat) (v270 : Int) : math_IsInf_g v269 v270 = some (math_IsInf_v v269 v270) := by
  unfold math_IsInf_g math_IsInf_T math_IsInf_v
  simp only [Tree.run]
  repeat' (first | rfl | split)
noncomputable def math_IsInf_F : DFn := fun args L =>
  match args with
  | [.flt .f64 v269, .int .i64 v270] =>
    .leaf (.bool (math_IsInf_v v269 v270), L)
  | _ => .fail
theorem math_IsInf_Fok : COk Try.prog 173 math_IsInf_F true := by
  intro F L H args r L' hs ha hr
  unfold math_IsInf_F at hr
  split at hr
  · rename_i v269 v270
    have hy := math_IsInf_tot v269 v270
    generalize math_IsInf_v v269 v270 = y at hy hr
    simp only [Tree.run, Option.some.injEq, Prod.mk.injEq] at hr
    obtain ⟨rfl, rfl⟩ := hr
    exact call_ok0 hs (fun k => (([] : List AV)[k]?).getD .top) [.flt .f64 v269, .int .i64 v270] [.flt .f64 v269, .int .i64 v270] (fun F' h0 hi hρ => ⟨by simp [DVs.av, DV.av, BR.av, hρ], math_IsInf_fn v269 v270 F' (by rw [hi]; rfl) (st_nil hi) ⟨trivial, trivial, trivial⟩ hy⟩) rfl
  · cases hr
/-! impl.isFinite64 -/
noncomputable def impl_isFinite64_LO (v267 : Nat) : LOr := fun id e L =>
  match id with
  | _ => .fail
noncomputable def impl_isFinite64_tab : List (FuncId × DFn × Bool) := [(172, math_IsNaN_F, true), (173, math_IsInf_F, true)]
theorem impl_isFinite64_hO : OrcOk Try.prog (tabD impl_isFinite64_tab) (tabM impl_isFinite64_tab) := tabD_cons math_IsNaN_Fok (tabD_cons math_IsInf_Fok (tabD_nil _))
noncomputable def impl_isFinite64_T (v267 : Nat) : Tree (Bool) :=
  (.br (!(math_IsNaN_v v267)) (
   .leaf (!(math_IsInf_v v267 (0 : Int)))
  ) (
   .leaf false
  ))

noncomputable def impl_isFinite64_g (v267 : Nat) : Option (Bool) := (impl_isFinite64_T v267).run
def impl_isFinite64_enc (v267 : Nat) (y : Bool) : Rs := (.bool y, [])
theorem impl_isFinite64_den (v267 : Nat) : (den TT (tabD impl_isFinite64_tab) (tabM impl_isFinite64_tab) (impl_isFinite64_LO v267) (codeOf Try.f149) ([.flt .f64 v267] ++ List.replicate (Try.f149.ntmps - ([.flt .f64 v267] : List DV).length) .undef) []).bind (retD TT Try.f149.results.toList 0) = (impl_isFinite64_T v267).bind fun y => .leaf (impl_isFinite64_enc v267 y) := by kernel_rfl
theorem impl_isFinite64_fn (v267 : Nat) (F : Fr) (hm : F.ids.length = 0) (h0 : St F [] F.H0) (hA : DVs.Ok F [] [.flt .f64 v267]) {y : Bool} (hy : impl_isFinite64_g v267 = some y) : ∃ H', FnOk Try.prog 149 (DVs.av F [.flt .f64 v267]) F.H0 ((impl_isFinite64_enc v267 y).1.av F) H' ∧ St F (impl_isFinite64_enc v267 y).2 H' ∧ (impl_isFinite64_enc v267 y).1.Ok F (impl_isFinite64_enc v267 y).2 :=
  fn_fin tok impl_isFinite64_hO mixed Try.func149 Try.call149 (by kernel_rfl) (LoopsOk_eq (l := []) (by kernel_rfl) trivial) (impl_isFinite64_den v267) hy hm h0 hA
def impl_isFinite64_v (v267 : Nat) : Bool :=
  if (!(math_IsNaN_v v267)) = true then (
   !(math_IsInf_v v267 (0 : Int))
  ) else (
   false
  )
theorem impl_isFinite64_tot (v267 : Nat) : impl_isFinite64_g v267 = some (impl_isFinite64_v v267) := by
  unfold impl_isFinite64_g impl_isFinite64_T impl_isFinite64_v
  simp only [Tree.run]
  repeat' (first | rfl | split)
noncomputable def impl_isFinite64_F : DFn := fun args L =>
  match args with
  | [.flt .f64 v267] =>
    .leaf (.bool (impl_isFinite64_v v267), L)
  | _ => .fail
theorem impl_isFinite64_Fok : COk Try.prog 149 impl_isFinite64_F true := by
  intro F L H args r L' hs ha hr
  unfold impl_isFinite64_F at hr
  split at hr
  · rename_i v267
    have hy := impl_isFinite64_tot v267
    generalize impl_isFinite64_v v267 = y at hy hr
    simp only [Tree.run, Option.some.injEq, Prod.mk.injEq] at hr
    obtain ⟨rfl, rfl⟩ := hr
    exact call_ok0 hs (fun k => (([] : List AV)[k]?).getD .top) [.flt .f64 v267] [.flt .f64 v267] (fun F' h0 hi hρ => ⟨by simp [DVs.av, DV.av, BR.av, hρ], impl_isFinite64_fn v267 F' (by rw [hi]; rfl) (st_nil hi) ⟨trivial, trivial⟩ hy⟩) rfl
  · cases hr
/-! impl.IsFinite -/
noncomputable def impl_IsFinite_LO (v266 : Nat) : LOr := fun id e L =>
  match id with
  | _ => .fail
noncomputable def impl_IsFinite_tab : List (FuncId × DFn × Bool) := [(149, impl_isFinite64_F, true)]
theorem impl_IsFinite_hO : OrcOk Try.prog (tabD impl_IsFinite_tab) (tabM impl_IsFinite_tab) := tabD_cons impl_isFinite64_Fok (tabD_nil _)
noncomputable def impl_IsFinite_T (v266 : Nat) : Tree (Bool) :=
  .leaf (impl_isFinite64_v (wid v266))

noncomputable def impl_IsFinite_g (v266 : Nat) : Option (Bool) := (impl_IsFinite_T v266).run
def impl_IsFinite_enc (v266 : Nat) (y : Bool) : Rs := (.bool y, [])
theorem impl_IsFinite_den (v266 : Nat) : (den TT (tabD impl_IsFinite_tab) (tabM impl_IsFinite_tab) (impl_IsFinite_LO v266) (codeOf Try.f96) ([.flt .f32 v266] ++ List.replicate (Try.f96.ntmps - ([.flt .f32 v266] : List DV).length) .undef) []).bind (retD TT Try.f96.results.toList 0) = (impl_IsFinite_T v266).bind fun y => .leaf (impl_IsFinite_enc v266 y) := by kernel_rfl
theorem impl_IsFinite_fn (v266 : Nat) (F : Fr) (hm : F.ids.length = 0) (h0 : St F [] F.H0) (hA : DVs.Ok F [] [.flt .f32 v266]) {y : Bool} (hy : impl_IsFinite_g v266 = some y) : ∃ H', FnOk Try.prog 96 (DVs.av F [.flt .f32 v266]) F.H0 ((impl_IsFinite_enc v266 y).1.av F) H' ∧ St F (impl_IsFinite_enc v266 y).2 H' ∧ (impl_IsFinite_enc v266 y).1.Ok F (impl_IsFinite_enc v266 y).2 :=
  fn_fin tok impl_IsFinite_hO mixed Try.func96 Try.call96 (by kernel_rfl) (LoopsOk_eq (l := []) (by kernel_rfl) trivial) (impl_IsFinite_den v266) hy hm h0 hA
def impl_IsFinite_v (v266 : Nat) : Bool :=
  (impl_isFinite64_v (wid v266))
theorem impl_IsFinite_tot (v266 : Nat) : impl_IsFinite_g v266 = some (impl_IsFinite_v v266) := by
  unfold impl_IsFinite_g impl_IsFinite_T impl_IsFinite_v
  simp only [Tree.run]
  repeat' (first | rfl | split)
noncomputable def impl_IsFinite_F : DFn := fun args L =>
  match args with
  | [.flt .f32 v266] =>
    .leaf (.bool (impl_IsFinite_v v266), L)
  | _ => .fail
theorem impl_IsFinite_Fok : COk Try.prog 96 impl_IsFinite_F true := by
  intro F L H args r L' hs ha hr
  unfold impl_IsFinite_F at hr
  split at hr
  · rename_i v266
    have hy := impl_IsFinite_tot v266
    generalize impl_IsFinite_v v266 = y at hy hr
    simp only [Tree.run, Option.some.injEq, Prod.mk.injEq] at hr
    obtain ⟨rfl, rfl⟩ := hr
    exact call_ok0 hs (fun k => (([] : List AV)[k]?).getD .top) [.flt .f32 v266] [.flt .f32 v266] (fun F' h0 hi hρ => ⟨by simp [DVs.av, DV.av, BR.av, hρ], impl_IsFinite_fn v266 F' (by rw [hi]; rfl) (st_nil hi) ⟨trivial, trivial⟩ hy⟩) rfl
  · cases hr
/-! impl.areFinite$1 -/
noncomputable def impl_areFinite_1_LO (v265 : Nat) : LOr := fun id e L =>
  match id with
  | _ => .fail
noncomputable def impl_areFinite_1_tab : List (FuncId × DFn × Bool) := [(96, impl_IsFinite_F, true)]
theorem impl_areFinite_1_hO : OrcOk Try.prog (tabD impl_areFinite_1_tab) (tabM impl_areFinite_1_tab) := tabD_cons impl_IsFinite_Fok (tabD_nil _)
noncomputable def impl_areFinite_1_T (v265 : Nat) : Tree (Bool) :=
  .leaf (!(impl_IsFinite_v v265))

noncomputable def impl_areFinite_1_g (v265 : Nat) : Option (Bool) := (impl_areFinite_1_T v265).run
def impl_areFinite_1_enc (v265 : Nat) (y : Bool) : Rs := (.bool y, [])
theorem impl_areFinite_1_den (v265 : Nat) : (den TT (tabD impl_areFinite_1_tab) (tabM impl_areFinite_1_tab) (impl_areFinite_1_LO v265) (codeOf Try.f138) ([.flt .f32 v265] ++ List.replicate (Try.f138.ntmps - ([.flt .f32 v265] : List DV).length) .undef) []).bind (retD TT Try.f138.results.toList 0) = (impl_areFinite_1_T v265).bind fun y => .leaf (impl_areFinite_1_enc v265 y) := by kernel_rfl
theorem impl_areFinite_1_fn (v265 : Nat) (F : Fr) (hm : F.ids.length = 0) (h0 : St F [] F.H0) (hA : DVs.Ok F [] [.flt .f32 v265]) {y : Bool} (hy : impl_areFinite_1_g v265 = some y) : ∃ H', FnOk Try.prog 138 (DVs.av F [.flt .f32 v265]) F.H0 ((impl_areFinite_1_enc v265 y).1.av F) H' ∧ St F (impl_areFinite_1_enc v265 y).2 H' ∧ (impl_areFinite_1_enc v265 y).1.Ok F (impl_areFinite_1_enc v265 y).2 :=
  fn_fin tok impl_areFinite_1_hO mixed Try.func138 Try.call138 (by kernel_rfl) (LoopsOk_eq (l := []) (by kernel_rfl) trivial) (impl_areFinite_1_den v265) hy hm h0 hA
def impl_areFinite_1_v (v265 : Nat) : Bool :=
  !(impl_IsFinite_v v265)
theorem impl_areFinite_1_tot (v265 : Nat) : impl_areFinite_1_g v265 = some (impl_areFinite_1_v v265) := by
  unfold impl_areFinite_1_g impl_areFinite_1_T impl_areFinite_1_v
  simp only [Tree.run]
  repeat' (first | rfl | split)
noncomputable def impl_areFinite_1_F : DFn := fun args L =>
  match args with
  | [.flt .f32 v265] =>
    .leaf (.bool (impl_areFinite_1_v v265), L)
  | _ => .fail
theorem impl_areFinite_1_Fok : COk Try.prog 138 impl_areFinite_1_F true := by
  intro F L H args r L' hs ha hr
  unfold impl_areFinite_1_F at hr
  split at hr
  · rename_i v265
    have hy := impl_areFinite_1_tot v265
    generalize impl_areFinite_1_v v265 = y at hy hr
    simp only [Tree.run, Option.some.injEq, Prod.mk.injEq] at hr
    obtain ⟨rfl, rfl⟩ := hr
    exact call_ok0 hs (fun k => (([] : List AV)[k]?).getD .top) [.flt .f32 v265] [.flt .f32 v265] (fun F' h0 hi hρ => ⟨by simp [DVs.av, DV.av, BR.av, hρ], impl_areFinite_1_fn v265 F' (by rw [hi]; rfl) (st_nil hi) ⟨trivial, trivial⟩ hy⟩) rfl
  · cases hr
/-! slices.IndexFunc[list of float32,float32] -/
noncomputable def slices_IndexFuncF_l0_T (v263 : List Nat) (s : Int) : Tree ((Int) ⊕ ((Int) ⊕ (Unit))) :=
  (.br (decide (s < ((v263.length : Nat) : Int))) (
   (.grd (inb s v263.length) <|
   (.br (impl_areFinite_1_v (nth v263 (Int.toNat s))) (
    .leaf (.inr (.inl s))
   ) (
    .leaf (.inl (IntKind.i64.wrap (s + (1 : Int))))
   )))
  ) (
   .leaf (.inr (.inr ()))
  ))

noncomputable def slices_IndexFuncF_l0_g (v263 : List Nat) (s0 : Int) : Option ((Int) ⊕ (Unit)) := whileM (fun s => (slices_IndexFuncF_l0_T v263 s).run) s0
def slices_IndexFuncF_l0_E (v263 : List Nat) (s : Int) : Sd := ([.bslc (BR.root 0) (.f32 v263), .fn 138 [], .top, .top, .top, .top, .top, .int .i64 ((v263.length : Nat) : Int), .int .i64 s, .top, .top, .top, .top, .top, .top, .top, .top, .top, .top], [])
def slices_IndexFuncF_l0_X (v263 : List Nat) (x : (Int) ⊕ (Unit)) : Out := (match x with | .inl x => (.ret, [.top, .top, .top, .top, .int .i64 x, .top, .top, .top, .top, .top, .top, .top, .top, .top, .top, .top, .top, .top, .top], []) | .inr x => (.normal, [.top, .top, .top, .top, .top, .top, .top, .top, .top, .top, .top, .top, .top, .top, .top, .top, .top, .top, .top], []))
def slices_IndexFuncF_l0_kill : List Nat := [0, 0, 1, 1, 1, 1, 1, 0, 0, 1, 1, 1, 1, 1, 1, 1, 1, 1, 1]
def slices_IndexFuncF_l0_nx : Exit → List Nat
  | .exit 0 => [1, 1, 1, 1, 1, 1, 1, 1, 1, 1, 1, 1, 1, 1, 1, 1, 1, 1, 1]
  | .ret => [1, 1, 1, 1, 0, 1, 1, 1, 1, 1, 1, 1, 1, 1, 1, 1, 1, 1, 1]
  | _ => []
noncomputable def slices_IndexFuncF_LO (v263 : List Nat) : LOr := fun id e L =>
  match id with
  | 0 => .need (normA 0 slices_IndexFuncF_l0_kill e L = some (slices_IndexFuncF_l0_E v263 (gI (vAt e 8)))) (.call (slices_IndexFuncF_l0_g v263 (gI (vAt e 8))) fun x => .sum x (fun b0 => .leaf (slices_IndexFuncF_l0_X v263 (.inl b0))) (fun c0 => .leaf (slices_IndexFuncF_l0_X v263 (.inr c0))))
  | _ => .fail
noncomputable def slices_IndexFuncF_tab : List (FuncId × DFn × Bool) := [(138, impl_areFinite_1_F, true)]
theorem slices_IndexFuncF_hO : OrcOk Try.prog (tabD slices_IndexFuncF_tab) (tabM slices_IndexFuncF_tab) := tabD_cons impl_areFinite_1_Fok (tabD_nil _)
theorem slices_IndexFuncF_l0_be (v263 : List Nat) (s : Int) : bodyT TT (tabD slices_IndexFuncF_tab) (tabM slices_IndexFuncF_tab) (slices_IndexFuncF_LO v263) 0 slices_IndexFuncF_l0_kill slices_IndexFuncF_l0_nx (bodyOf Try.f168 0) 0 (slices_IndexFuncF_l0_E v263 s) = (slices_IndexFuncF_l0_T v263 s).bind fun y => .leaf (outS (slices_IndexFuncF_l0_E v263) (slices_IndexFuncF_l0_X v263) y) := by kernel_rfl
theorem slices_IndexFuncF_l0_ok (v263 : List Nat) : LSound Try.prog 0 (slices_IndexFuncF_LO v263) 0 (bodyOf Try.f168 0) := by
  intro e L out h
  exact lo_ok (E := slices_IndexFuncF_l0_E v263) (gT := slices_IndexFuncF_l0_T v263) (X := slices_IndexFuncF_l0_X v263) (s0 := (gI (vAt e 8))) tok slices_IndexFuncF_hO mixed (LoopsOk_eq (l := []) (by kernel_rfl) trivial) (slices_IndexFuncF_l0_be v263) rfl (by intro x; (cases x with | inl b => rfl | inr x => exact rfl)) h
noncomputable def slices_IndexFuncF_T (v263 : List Nat) : Tree (Int) :=
  (.need (some (slices_IndexFuncF_l0_E v263 (0 : Int)) = some (slices_IndexFuncF_l0_E v263 (0 : Int))) <|
  (.call (slices_IndexFuncF_l0_g v263 (0 : Int)) fun v273 =>
  (.sum v273 (fun v274 =>
   .leaf v274
  ) (fun v275 =>
   .leaf (-1 : Int)
  ))))

noncomputable def slices_IndexFuncF_g (v263 : List Nat) : Option (Int) := (slices_IndexFuncF_T v263).run
def slices_IndexFuncF_enc (v263 : List Nat) (y : Int) : Rs := (.int .i64 y, [])
theorem slices_IndexFuncF_den (v263 : List Nat) : (den TT (tabD slices_IndexFuncF_tab) (tabM slices_IndexFuncF_tab) (slices_IndexFuncF_LO v263) (codeOf Try.f168) ([.bslc (BR.root 0) (.f32 v263), .fn 138 []] ++ List.replicate (Try.f168.ntmps - ([.bslc (BR.root 0) (.f32 v263), .fn 138 []] : List DV).length) .undef) []).bind (retD TT Try.f168.results.toList 0) = (slices_IndexFuncF_T v263).bind fun y => .leaf (slices_IndexFuncF_enc v263 y) := by kernel_rfl
theorem slices_IndexFuncF_fn (v263 : List Nat) (F : Fr) (hm : F.ids.length = 0) (h0 : St F [] F.H0) (hA : DVs.Ok F [] [.bslc (BR.root 0) (.f32 v263), .fn 138 []]) {y : Int} (hy : slices_IndexFuncF_g v263 = some y) : ∃ H', FnOk Try.prog 168 (DVs.av F [.bslc (BR.root 0) (.f32 v263), .fn 138 []]) F.H0 ((slices_IndexFuncF_enc v263 y).1.av F) H' ∧ St F (slices_IndexFuncF_enc v263 y).2 H' ∧ (slices_IndexFuncF_enc v263 y).1.Ok F (slices_IndexFuncF_enc v263 y).2 :=
  fn_fin tok slices_IndexFuncF_hO mixed Try.func168 Try.call168 (by kernel_rfl) (LoopsOk_eq (l := [(0, bodyOf Try.f168 0)]) (by kernel_rfl) ⟨slices_IndexFuncF_l0_ok v263, trivial⟩) (slices_IndexFuncF_den v263) hy hm h0 hA
noncomputable def slices_IndexFuncF_F : DFn := fun args L =>
  match args with
  | [a1, .fn 138 []] =>
    optT (rowF32 L a1) fun v263 =>
    .call (slices_IndexFuncF_g v263) fun y => .leaf (.int .i64 y, L)
  | _ => .fail
theorem slices_IndexFuncF_Fok : COk Try.prog 168 slices_IndexFuncF_F true := by
  intro F L H args r L' hs ha hr
  unfold slices_IndexFuncF_F at hr
  split at hr
  · rename_i a1
    obtain ⟨v263, hv263, hr⟩ := optT_run hr
    simp only [Tree.run] at hr
    obtain ⟨y, hy, hr⟩ := Option.bind_eq_some_iff.1 hr
    simp only [Tree.run, Option.some.injEq, Prod.mk.injEq] at hr
    obtain ⟨rfl, rfl⟩ := hr
    exact call_ok0 hs (fun k => (([a1.av F] : List AV)[k]?).getD .top) [a1, .fn 138 []] [.bslc (BR.root 0) (.f32 v263), .fn 138 []] (fun F' h0 hi hρ => ⟨by simp [DVs.av, DV.av, BR.av, hρ], slices_IndexFuncF_fn v263 F' (by rw [hi]; rfl) (st_nil hi) ⟨bslc_ok hi (by rw [h0, hρ]; exact rowF32_ok hs (DVs.okAt ha 0 rfl) hv263), trivial, trivial⟩ hy⟩) rfl
  · cases hr
/-! slices.ContainsFunc[list of float32,float32] -/
noncomputable def slices_ContainsFuncF_LO (v262 : List Nat) : LOr := fun id e L =>
  match id with
  | _ => .fail
noncomputable def slices_ContainsFuncF_tab : List (FuncId × DFn × Bool) := [(168, slices_IndexFuncF_F, true)]
theorem slices_ContainsFuncF_hO : OrcOk Try.prog (tabD slices_ContainsFuncF_tab) (tabM slices_ContainsFuncF_tab) := tabD_cons slices_IndexFuncF_Fok (tabD_nil _)
noncomputable def slices_ContainsFuncF_T (v262 : List Nat) : Tree (Bool) :=
  (.call (slices_IndexFuncF_g v262) fun v276 =>
  .leaf (decide ((0 : Int) ≤ v276)))

noncomputable def slices_ContainsFuncF_g (v262 : List Nat) : Option (Bool) := (slices_ContainsFuncF_T v262).run
def slices_ContainsFuncF_enc (v262 : List Nat) (y : Bool) : Rs := (.bool y, [])
theorem slices_ContainsFuncF_den (v262 : List Nat) : (den TT (tabD slices_ContainsFuncF_tab) (tabM slices_ContainsFuncF_tab) (slices_ContainsFuncF_LO v262) (codeOf Try.f137) ([.bslc (BR.root 0) (.f32 v262), .fn 138 []] ++ List.replicate (Try.f137.ntmps - ([.bslc (BR.root 0) (.f32 v262), .fn 138 []] : List DV).length) .undef) []).bind (retD TT Try.f137.results.toList 0) = (slices_ContainsFuncF_T v262).bind fun y => .leaf (slices_ContainsFuncF_enc v262 y) := by kernel_rfl
theorem slices_ContainsFuncF_fn (v262 : List Nat) (F : Fr) (hm : F.ids.length = 0) (h0 : St F [] F.H0) (hA : DVs.Ok F [] [.bslc (BR.root 0) (.f32 v262), .fn 138 []]) {y : Bool} (hy : slices_ContainsFuncF_g v262 = some y) : ∃ H', FnOk Try.prog 137 (DVs.av F [.bslc (BR.root 0) (.f32 v262), .fn 138 []]) F.H0 ((slices_ContainsFuncF_enc v262 y).1.av F) H' ∧ St F (slices_ContainsFuncF_enc v262 y).2 H' ∧ (slices_ContainsFuncF_enc v262 y).1.Ok F (slices_ContainsFuncF_enc v262 y).2 :=
  fn_fin tok slices_ContainsFuncF_hO mixed Try.func137 Try.call137 (by kernel_rfl) (LoopsOk_eq (l := []) (by kernel_rfl) trivial) (slices_ContainsFuncF_den v262) hy hm h0 hA
noncomputable def slices_ContainsFuncF_F : DFn := fun args L =>
  match args with
  | [a1, .fn 138 []] =>
    optT (rowF32 L a1) fun v262 =>
    .call (slices_ContainsFuncF_g v262) fun y => .leaf (.bool y, L)
  | _ => .fail
theorem slices_ContainsFuncF_Fok : COk Try.prog 137 slices_ContainsFuncF_F true := by
  intro F L H args r L' hs ha hr
  unfold slices_ContainsFuncF_F at hr
  split at hr
  · rename_i a1
    obtain ⟨v262, hv262, hr⟩ := optT_run hr
    simp only [Tree.run] at hr
    obtain ⟨y, hy, hr⟩ := Option.bind_eq_some_iff.1 hr
    simp only [Tree.run, Option.some.injEq, Prod.mk.injEq] at hr
    obtain ⟨rfl, rfl⟩ := hr
    exact call_ok0 hs (fun k => (([a1.av F] : List AV)[k]?).getD .top) [a1, .fn 138 []] [.bslc (BR.root 0) (.f32 v262), .fn 138 []] (fun F' h0 hi hρ => ⟨by simp [DVs.av, DV.av, BR.av, hρ], slices_ContainsFuncF_fn v262 F' (by rw [hi]; rfl) (st_nil hi) ⟨bslc_ok hi (by rw [h0, hρ]; exact rowF32_ok hs (DVs.okAt ha 0 rfl) hv262), trivial, trivial⟩ hy⟩) rfl
  · cases hr
/-! impl.areFinite -/
noncomputable def impl_areFinite_LO (v261 : List Nat) : LOr := fun id e L =>
  match id with
  | _ => .fail
noncomputable def impl_areFinite_tab : List (FuncId × DFn × Bool) := [(137, slices_ContainsFuncF_F, true)]
theorem impl_areFinite_hO : OrcOk Try.prog (tabD impl_areFinite_tab) (tabM impl_areFinite_tab) := tabD_cons slices_ContainsFuncF_Fok (tabD_nil _)
noncomputable def impl_areFinite_T (v261 : List Nat) : Tree (Bool) :=
  (.call (slices_ContainsFuncF_g v261) fun v277 =>
  .leaf (!v277))

noncomputable def impl_areFinite_g (v261 : List Nat) : Option (Bool) := (impl_areFinite_T v261).run
def impl_areFinite_enc (v261 : List Nat) (y : Bool) : Rs := (.bool y, [])
theorem impl_areFinite_den (v261 : List Nat) : (den TT (tabD impl_areFinite_tab) (tabM impl_areFinite_tab) (impl_areFinite_LO v261) (codeOf Try.f68) ([.bslc (BR.root 0) (.f32 v261)] ++ List.replicate (Try.f68.ntmps - ([.bslc (BR.root 0) (.f32 v261)] : List DV).length) .undef) []).bind (retD TT Try.f68.results.toList 0) = (impl_areFinite_T v261).bind fun y => .leaf (impl_areFinite_enc v261 y) := by kernel_rfl
theorem impl_areFinite_fn (v261 : List Nat) (F : Fr) (hm : F.ids.length = 0) (h0 : St F [] F.H0) (hA : DVs.Ok F [] [.bslc (BR.root 0) (.f32 v261)]) {y : Bool} (hy : impl_areFinite_g v261 = some y) : ∃ H', FnOk Try.prog 68 (DVs.av F [.bslc (BR.root 0) (.f32 v261)]) F.H0 ((impl_areFinite_enc v261 y).1.av F) H' ∧ St F (impl_areFinite_enc v261 y).2 H' ∧ (impl_areFinite_enc v261 y).1.Ok F (impl_areFinite_enc v261 y).2 :=
  fn_fin tok impl_areFinite_hO mixed Try.func68 Try.call68 (by kernel_rfl) (LoopsOk_eq (l := []) (by kernel_rfl) trivial) (impl_areFinite_den v261) hy hm h0 hA
noncomputable def impl_areFinite_F : DFn := fun args L =>
  match args with
  | [a1] =>
    optT (rowF32 L a1) fun v261 =>
    .call (impl_areFinite_g v261) fun y => .leaf (.bool y, L)
  | _ => .fail
theorem impl_areFinite_Fok : COk Try.prog 68 impl_areFinite_F true := by
  intro F L H args r L' hs ha hr
  unfold impl_areFinite_F at hr
  split at hr
  · rename_i a1
    obtain ⟨v261, hv261, hr⟩ := optT_run hr
    simp only [Tree.run] at hr
    obtain ⟨y, hy, hr⟩ := Option.bind_eq_some_iff.1 hr
    simp only [Tree.run, Option.some.injEq, Prod.mk.injEq] at hr
    obtain ⟨rfl, rfl⟩ := hr
    exact call_ok0 hs (fun k => (([a1.av F] : List AV)[k]?).getD .top) [a1] [.bslc (BR.root 0) (.f32 v261)] (fun F' h0 hi hρ => ⟨by simp [DVs.av, DV.av, BR.av, hρ], impl_areFinite_fn v261 F' (by rw [hi]; rfl) (st_nil hi) ⟨bslc_ok hi (by rw [h0, hρ]; exact rowF32_ok hs (DVs.okAt ha 0 rfl) hv261), trivial⟩ hy⟩) rfl
  · cases hr
/-! impl.ValidMatrix -/
noncomputable def impl_ValidMatrix_LO (v253 : Int) (v254 : Int) (v255 : List Nat) : LOr := fun id e L =>
  match id with
  | _ => .fail
noncomputable def impl_ValidMatrix_tab : List (FuncId × DFn × Bool) := [(77, impl_isSide_F, true), (112, impl_lengthF_F, true), (68, impl_areFinite_F, true)]
theorem impl_ValidMatrix_hO : OrcOk Try.prog (tabD impl_ValidMatrix_tab) (tabM impl_ValidMatrix_tab) := tabD_cons impl_isSide_Fok (tabD_cons impl_lengthF_Fok (tabD_cons impl_areFinite_Fok (tabD_nil _)))
noncomputable def impl_ValidMatrix_T (v253 : Int) (v254 : Int) (v255 : List Nat) : Tree (Bool) :=
  (.br (impl_isSide_v v253) (
   (.br (impl_isSide_v v254) (
    (.br (decide ((impl_lengthF_v v255) = IntKind.i64.wrap (v253 * v254))) (
     (.call (impl_areFinite_g v255) fun v278 =>
     .leaf v278)
    ) (
     .leaf false
    ))
   ) (
    .leaf false
   ))
  ) (
   .leaf false
  ))

noncomputable def impl_ValidMatrix_g (v253 : Int) (v254 : Int) (v255 : List Nat) : Option (Bool) := (impl_ValidMatrix_T v253 v254 v255).run
def impl_ValidMatrix_enc (v253 : Int) (v254 : Int) (v255 : List Nat) (y : Bool) : Rs := (.bool y, [])
theorem impl_ValidMatrix_den (v253 : Int) (v254 : Int) (v255 : List Nat) : (den TT (tabD impl_ValidMatrix_tab) (tabM impl_ValidMatrix_tab) (impl_ValidMatrix_LO v253 v254 v255) (codeOf Try.f67) ([.agg [.int .i64 v253, .int .i64 v254, .bslc (BR.root 0) (.f32 v255)]] ++ List.replicate (Try.f67.ntmps - ([.agg [.int .i64 v253, .int .i64 v254, .bslc (BR.root 0) (.f32 v255)]] : List DV).length) .undef) []).bind (retD TT Try.f67.results.toList 0) = (impl_ValidMatrix_T v253 v254 v255).bind fun y => .leaf (impl_ValidMatrix_enc v253 v254 v255 y) := by kernel_rfl
theorem impl_ValidMatrix_fn (v253 : Int) (v254 : Int) (v255 : List Nat) (F : Fr) (hm : F.ids.length = 0) (h0 : St F [] F.H0) (hA : DVs.Ok F [] [.agg [.int .i64 v253, .int .i64 v254, .bslc (BR.root 0) (.f32 v255)]]) {y : Bool} (hy : impl_ValidMatrix_g v253 v254 v255 = some y) : ∃ H', FnOk Try.prog 67 (DVs.av F [.agg [.int .i64 v253, .int .i64 v254, .bslc (BR.root 0) (.f32 v255)]]) F.H0 ((impl_ValidMatrix_enc v253 v254 v255 y).1.av F) H' ∧ St F (impl_ValidMatrix_enc v253 v254 v255 y).2 H' ∧ (impl_ValidMatrix_enc v253 v254 v255 y).1.Ok F (impl_ValidMatrix_enc v253 v254 v255 y).2 :=
  fn_fin tok impl_ValidMatrix_hO mixed Try.func67 Try.call67 (by kernel_rfl) (LoopsOk_eq (l := []) (by kernel_rfl) trivial) (impl_ValidMatrix_den v253 v254 v255) hy hm h0 hA
noncomputable def impl_ValidMatrix_F : DFn := fun args L =>
  match args with
  | [.agg [.int .i64 v253, .int .i64 v254, a1]] =>
    optT (rowF32 L a1) fun v255 =>
    .call (impl_ValidMatrix_g v253 v254 v255) fun y => .leaf (.bool y, L)
  | _ => .fail
theorem impl_ValidMatrix_Fok : COk Try.prog 67 impl_ValidMatrix_F true := by
  intro F L H args r L' hs ha hr
  unfold impl_ValidMatrix_F at hr
  split at hr
  · rename_i v253 v254 a1
    obtain ⟨v255, hv255, hr⟩ := optT_run hr
    simp only [Tree.run] at hr
    obtain ⟨y, hy, hr⟩ := Option.bind_eq_some_iff.1 hr
    simp only [Tree.run, Option.some.injEq, Prod.mk.injEq] at hr
    obtain ⟨rfl, rfl⟩ := hr
    exact call_ok0 hs (fun k => (([a1.av F] : List AV)[k]?).getD .top) [.agg [.int .i64 v253, .int .i64 v254, a1]] [.agg [.int .i64 v253, .int .i64 v254, .bslc (BR.root 0) (.f32 v255)]] (fun F' h0 hi hρ => ⟨by simp [DVs.av, DV.av, BR.av, hρ], impl_ValidMatrix_fn v253 v254 v255 F' (by rw [hi]; rfl) (st_nil hi) ⟨⟨trivial, trivial, bslc_ok hi (by rw [h0, hρ]; exact rowF32_ok hs (DVs.okAt (DVs.okAt ha 0 rfl) 2 rfl) hv255), trivial⟩, trivial⟩ hy⟩) rfl
  · cases hr
/-! impl.isSquare -/
noncomputable def impl_isSquare_LO (v250 : Int) (v251 : Int) (v252 : List Nat) : LOr := fun id e L =>
  match id with
  | _ => .fail
noncomputable def impl_isSquare_tab : List (FuncId × DFn × Bool) := [(67, impl_ValidMatrix_F, true)]
theorem impl_isSquare_hO : OrcOk Try.prog (tabD impl_isSquare_tab) (tabM impl_isSquare_tab) := tabD_cons impl_ValidMatrix_Fok (tabD_nil _)
noncomputable def impl_isSquare_T (v250 : Int) (v251 : Int) (v252 : List Nat) : Tree (Bool) :=
  (.call (impl_ValidMatrix_g v250 v251 v252) fun v279 =>
  (.br v279 (
   .leaf (decide (v250 = v251))
  ) (
   .leaf false
  )))

noncomputable def impl_isSquare_g (v250 : Int) (v251 : Int) (v252 : List Nat) : Option (Bool) := (impl_isSquare_T v250 v251 v252).run
def impl_isSquare_enc (v250 : Int) (v251 : Int) (v252 : List Nat) (y : Bool) : Rs := (.bool y, [])
theorem impl_isSquare_den (v250 : Int) (v251 : Int) (v252 : List Nat) : (den TT (tabD impl_isSquare_tab) (tabM impl_isSquare_tab) (impl_isSquare_LO v250 v251 v252) (codeOf Try.f62) ([.agg [.int .i64 v250, .int .i64 v251, .bslc (BR.root 0) (.f32 v252)]] ++ List.replicate (Try.f62.ntmps - ([.agg [.int .i64 v250, .int .i64 v251, .bslc (BR.root 0) (.f32 v252)]] : List DV).length) .undef) []).bind (retD TT Try.f62.results.toList 0) = (impl_isSquare_T v250 v251 v252).bind fun y => .leaf (impl_isSquare_enc v250 v251 v252 y) := by kernel_rfl
theorem impl_isSquare_fn (v250 : Int) (v251 : Int) (v252 : List Nat) (F : Fr) (hm : F.ids.length = 0) (h0 : St F [] F.H0) (hA : DVs.Ok F [] [.agg [.int .i64 v250, .int .i64 v251, .bslc (BR.root 0) (.f32 v252)]]) {y : Bool} (hy : impl_isSquare_g v250 v251 v252 = some y) : ∃ H', FnOk Try.prog 62 (DVs.av F [.agg [.int .i64 v250, .int .i64 v251, .bslc (BR.root 0) (.f32 v252)]]) F.H0 ((impl_isSquare_enc v250 v251 v252 y).1.av F) H' ∧ St F (impl_isSquare_enc v250 v251 v252 y).2 H' ∧ (impl_isSquare_enc v250 v251 v252 y).1.Ok F (impl_isSquare_enc v250 v251 v252 y).2 :=
  fn_fin tok impl_isSquare_hO mixed Try.func62 Try.call62 (by kernel_rfl) (LoopsOk_eq (l := []) (by kernel_rfl) trivial) (impl_isSquare_den v250 v251 v252) hy hm h0 hA
noncomputable def impl_isSquare_F : DFn := fun args L =>
  match args with
  | [.agg [.int .i64 v250, .int .i64 v251, a1]] =>
    optT (rowF32 L a1) fun v252 =>
    .call (impl_isSquare_g v250 v251 v252) fun y => .leaf (.bool y, L)
  | _ => .fail
theorem impl_isSquare_Fok : COk Try.prog 62 impl_isSquare_F true := by
  intro F L H args r L' hs ha hr
  unfold impl_isSquare_F at hr
  split at hr
  · rename_i v250 v251 a1
    obtain ⟨v252, hv252, hr⟩ := optT_run hr
    simp only [Tree.run] at hr
    obtain ⟨y, hy, hr⟩ := Option.bind_eq_some_iff.1 hr
    simp only [Tree.run, Option.some.injEq, Prod.mk.injEq] at hr
    obtain ⟨rfl, rfl⟩ := hr
    exact call_ok0 hs (fun k => (([a1.av F] : List AV)[k]?).getD .top) [.agg [.int .i64 v250, .int .i64 v251, a1]] [.agg [.int .i64 v250, .int .i64 v251, .bslc (BR.root 0) (.f32 v252)]] (fun F' h0 hi hρ => ⟨by simp [DVs.av, DV.av, BR.av, hρ], impl_isSquare_fn v250 v251 v252 F' (by rw [hi]; rfl) (st_nil hi) ⟨⟨trivial, trivial, bslc_ok hi (by rw [h0, hρ]; exact rowF32_ok hs (DVs.okAt (DVs.okAt ha 0 rfl) 2 rfl) hv252), trivial⟩, trivial⟩ hy⟩) rfl
  · cases hr
/-! impl.IsVector -/
noncomputable def impl_IsVector_LO (v281 : List Nat) : LOr := fun id e L =>
  match id with
  | _ => .fail
noncomputable def impl_IsVector_tab : List (FuncId × DFn × Bool) := [(112, impl_lengthF_F, true), (73, impl_inRange_F, true), (68, impl_areFinite_F, true)]
theorem impl_IsVector_hO : OrcOk Try.prog (tabD impl_IsVector_tab) (tabM impl_IsVector_tab) := tabD_cons impl_lengthF_Fok (tabD_cons impl_inRange_Fok (tabD_cons impl_areFinite_Fok (tabD_nil _)))
noncomputable def impl_IsVector_T (v281 : List Nat) : Tree (Bool) :=
  (.br (impl_inRange_v (impl_lengthF_v v281) (1 : Int) (256 : Int)) (
   (.call (impl_areFinite_g v281) fun v282 =>
   .leaf v282)
  ) (
   .leaf false
  ))

noncomputable def impl_IsVector_g (v281 : List Nat) : Option (Bool) := (impl_IsVector_T v281).run
def impl_IsVector_enc (v281 : List Nat) (y : Bool) : Rs := (.bool y, [])
theorem impl_IsVector_den (v281 : List Nat) : (den TT (tabD impl_IsVector_tab) (tabM impl_IsVector_tab) (impl_IsVector_LO v281) (codeOf Try.f111) ([.bslc (BR.root 0) (.f32 v281)] ++ List.replicate (Try.f111.ntmps - ([.bslc (BR.root 0) (.f32 v281)] : List DV).length) .undef) []).bind (retD TT Try.f111.results.toList 0) = (impl_IsVector_T v281).bind fun y => .leaf (impl_IsVector_enc v281 y) := by kernel_rfl
theorem impl_IsVector_fn (v281 : List Nat) (F : Fr) (hm : F.ids.length = 0) (h0 : St F [] F.H0) (hA : DVs.Ok F [] [.bslc (BR.root 0) (.f32 v281)]) {y : Bool} (hy : impl_IsVector_g v281 = some y) : ∃ H', FnOk Try.prog 111 (DVs.av F [.bslc (BR.root 0) (.f32 v281)]) F.H0 ((impl_IsVector_enc v281 y).1.av F) H' ∧ St F (impl_IsVector_enc v281 y).2 H' ∧ (impl_IsVector_enc v281 y).1.Ok F (impl_IsVector_enc v281 y).2 :=
  fn_fin tok impl_IsVector_hO mixed Try.func111 Try.call111 (by kernel_rfl) (LoopsOk_eq (l := []) (by kernel_rfl) trivial) (impl_IsVector_den v281) hy hm h0 hA
noncomputable def impl_IsVector_F : DFn := fun args L =>
  match args with
  | [a1] =>
    optT (rowF32 L a1) fun v281 =>
    .call (impl_IsVector_g v281) fun y => .leaf (.bool y, L)
  | _ => .fail
theorem impl_IsVector_Fok : COk Try.prog 111 impl_IsVector_F true := by
  intro F L H args r L' hs ha hr
  unfold impl_IsVector_F at hr
  split at hr
  · rename_i a1
    obtain ⟨v281, hv281, hr⟩ := optT_run hr
    simp only [Tree.run] at hr
    obtain ⟨y, hy, hr⟩ := Option.bind_eq_some_iff.1 hr
    simp only [Tree.run, Option.some.injEq, Prod.mk.injEq] at hr
    obtain ⟨rfl, rfl⟩ := hr
    exact call_ok0 hs (fun k => (([a1.av F] : List AV)[k]?).getD .top) [a1] [.bslc (BR.root 0) (.f32 v281)] (fun F' h0 hi hρ => ⟨by simp [DVs.av, DV.av, BR.av, hρ], impl_IsVector_fn v281 F' (by rw [hi]; rfl) (st_nil hi) ⟨bslc_ok hi (by rw [h0, hρ]; exact rowF32_ok hs (DVs.okAt ha 0 rfl) hv281), trivial⟩ hy⟩) rfl
  · cases hr
/-! impl.newMatrix -/
noncomputable def impl_newMatrix_LO (v292 : Int) (v293 : Int) : LOr := fun id e L =>
  match id with
  | _ => .fail
noncomputable def impl_newMatrix_tab : List (FuncId × DFn × Bool) := []
theorem impl_newMatrix_hO : OrcOk Try.prog (tabD impl_newMatrix_tab) (tabM impl_newMatrix_tab) := tabD_nil _
noncomputable def impl_newMatrix_T (v292 : Int) (v293 : Int) : Tree (Int × Int) :=
  (.need (IntKind.i64.wrap (v292 * v293) = IntKind.i64.wrap (v292 * v293)) <|
  (.grd (inb (IntKind.i64.wrap (v292 * v293)) (maxN + 1)) <|
  .leaf (v292, v293)))

noncomputable def impl_newMatrix_g (v292 : Int) (v293 : Int) : Option (Int × Int) := (impl_newMatrix_T v292 v293).run
def impl_newMatrix_enc (v292 : Int) (v293 : Int) (y : Int × Int) : Rs := (.agg [.int .i64 y.1, .int .i64 y.2, .own 0 0 ((List.replicate (Int.toNat (IntKind.i64.wrap (v292 * v293))) (0 : Nat)).length)], [.row (.f32 (List.replicate (Int.toNat (IntKind.i64.wrap (v292 * v293))) (0 : Nat))) 0])
theorem impl_newMatrix_den (v292 : Int) (v293 : Int) : (den TT (tabD impl_newMatrix_tab) (tabM impl_newMatrix_tab) (impl_newMatrix_LO v292 v293) (codeOf Try.f117) ([.int .i64 v292, .int .i64 v293] ++ List.replicate (Try.f117.ntmps - ([.int .i64 v292, .int .i64 v293] : List DV).length) .undef) []).bind (retD TT Try.f117.results.toList 0) = (impl_newMatrix_T v292 v293).bind fun y => .leaf (impl_newMatrix_enc v292 v293 y) := by kernel_rfl
theorem impl_newMatrix_fn (v292 : Int) (v293 : Int) (F : Fr) (hm : F.ids.length = 0) (h0 : St F [] F.H0) (hA : DVs.Ok F [] [.int .i64 v292, .int .i64 v293]) {y : Int × Int} (hy : impl_newMatrix_g v292 v293 = some y) : ∃ H', FnOk Try.prog 117 (DVs.av F [.int .i64 v292, .int .i64 v293]) F.H0 ((impl_newMatrix_enc v292 v293 y).1.av F) H' ∧ St F (impl_newMatrix_enc v292 v293 y).2 H' ∧ (impl_newMatrix_enc v292 v293 y).1.Ok F (impl_newMatrix_enc v292 v293 y).2 :=
  fn_fin tok impl_newMatrix_hO mixed Try.func117 Try.call117 (by kernel_rfl) (LoopsOk_eq (l := []) (by kernel_rfl) trivial) (impl_newMatrix_den v292 v293) hy hm h0 hA
noncomputable def impl_newMatrix_F : DFn := fun args L =>
  match args with
  | [.int .i64 v292, .int .i64 v293] =>
    .call (impl_newMatrix_g v292 v293) fun y => .leaf (.agg [.int .i64 y.1, .int .i64 y.2, .own (L.length + 0) 0 ((List.replicate (Int.toNat (IntKind.i64.wrap (v292 * v293))) (0 : Nat)).length)], L ++ [.row (.f32 (List.replicate (Int.toNat (IntKind.i64.wrap (v292 * v293))) (0 : Nat))) 0])
  | _ => .fail
theorem impl_newMatrix_Fok : COk Try.prog 117 impl_newMatrix_F true := by
  intro F L H args r L' hs ha hr
  unfold impl_newMatrix_F at hr
  split at hr
  · rename_i v292 v293
    simp only [Tree.run] at hr
    obtain ⟨y, hy, hr⟩ := Option.bind_eq_some_iff.1 hr
    simp only [Tree.run, Option.some.injEq, Prod.mk.injEq] at hr
    obtain ⟨rfl, rfl⟩ := hr
    exact call_ok1 hs (fun k => (([] : List AV)[k]?).getD .top) [.int .i64 v292, .int .i64 v293] [.int .i64 v292, .int .i64 v293] (fun F' h0 hi hρ => ⟨by simp [DVs.av, DV.av, BR.av, hρ], impl_newMatrix_fn v292 v293 F' (by rw [hi]; rfl) (st_nil hi) ⟨trivial, trivial, trivial⟩ hy⟩) rfl rfl
  · cases hr
/-! (impl.Matrix).at -/
noncomputable def impl_Matrix_at_LO (v307 : Int) (v308 : Int) (v309 : List Nat) (v310 : Int) (v311 : Int) : LOr := fun id e L =>
  match id with
  | _ => .fail
noncomputable def impl_Matrix_at_tab : List (FuncId × DFn × Bool) := []
theorem impl_Matrix_at_hO : OrcOk Try.prog (tabD impl_Matrix_at_tab) (tabM impl_Matrix_at_tab) := tabD_nil _
noncomputable def impl_Matrix_at_T (v308 : Int) (v309 : List Nat) (v310 : Int) (v311 : Int) : Tree (Nat) :=
  (.grd (inb (IntKind.i64.wrap ((IntKind.i64.wrap (v310 * v308)) + v311)) v309.length) <|
  .leaf (nth v309 (Int.toNat (IntKind.i64.wrap ((IntKind.i64.wrap (v310 * v308)) + v311)))))

noncomputable def impl_Matrix_at_g (v308 : Int) (v309 : List Nat) (v310 : Int) (v311 : Int) : Option (Nat) := (impl_Matrix_at_T v308 v309 v310 v311).run
def impl_Matrix_at_enc (v307 : Int) (v308 : Int) (v309 : List Nat) (v310 : Int) (v311 : Int) (y : Nat) : Rs := (.flt .f32 y, [])
theorem impl_Matrix_at_den (v307 : Int) (v308 : Int) (v309 : List Nat) (v310 : Int) (v311 : Int) : (den TT (tabD impl_Matrix_at_tab) (tabM impl_Matrix_at_tab) (impl_Matrix_at_LO v307 v308 v309 v310 v311) (codeOf Try.f64) ([.agg [.int .i64 v307, .int .i64 v308, .bslc (BR.root 0) (.f32 v309)], .int .i64 v310, .int .i64 v311] ++ List.replicate (Try.f64.ntmps - ([.agg [.int .i64 v307, .int .i64 v308, .bslc (BR.root 0) (.f32 v309)], .int .i64 v310, .int .i64 v311] : List DV).length) .undef) []).bind (retD TT Try.f64.results.toList 0) = (impl_Matrix_at_T v308 v309 v310 v311).bind fun y => .leaf (impl_Matrix_at_enc v307 v308 v309 v310 v311 y) := by kernel_rfl
theorem impl_Matrix_at_fn (v307 : Int) (v308 : Int) (v309 : List Nat) (v310 : Int) (v311 : Int) (F : Fr) (hm : F.ids.length = 0) (h0 : St F [] F.H0) (hA : DVs.Ok F [] [.agg [.int .i64 v307, .int .i64 v308, .bslc (BR.root 0) (.f32 v309)], .int .i64 v310, .int .i64 v311]) {y : Nat} (hy : impl_Matrix_at_g v308 v309 v310 v311 = some y) : ∃ H', FnOk Try.prog 64 (DVs.av F [.agg [.int .i64 v307, .int .i64 v308, .bslc (BR.root 0) (.f32 v309)], .int .i64 v310, .int .i64 v311]) F.H0 ((impl_Matrix_at_enc v307 v308 v309 v310 v311 y).1.av F) H' ∧ St F (impl_Matrix_at_enc v307 v308 v309 v310 v311 y).2 H' ∧ (impl_Matrix_at_enc v307 v308 v309 v310 v311 y).1.Ok F (impl_Matrix_at_enc v307 v308 v309 v310 v311 y).2 :=
  fn_fin tok impl_Matrix_at_hO mixed Try.func64 Try.call64 (by kernel_rfl) (LoopsOk_eq (l := []) (by kernel_rfl) trivial) (impl_Matrix_at_den v307 v308 v309 v310 v311) hy hm h0 hA
noncomputable def impl_Matrix_at_F : DFn := fun args L =>
  match args with
  | [.agg [.int .i64 v307, .int .i64 v308, a1], .int .i64 v310, .int .i64 v311] =>
    optT (rowF32 L a1) fun v309 =>
    .call (impl_Matrix_at_g v308 v309 v310 v311) fun y => .leaf (.flt .f32 y, L)
  | _ => .fail
theorem impl_Matrix_at_Fok : COk Try.prog 64 impl_Matrix_at_F true := by
  intro F L H args r L' hs ha hr
  unfold impl_Matrix_at_F at hr
  split at hr
  · rename_i v307 v308 a1 v310 v311
    obtain ⟨v309, hv309, hr⟩ := optT_run hr
    simp only [Tree.run] at hr
    obtain ⟨y, hy, hr⟩ := Option.bind_eq_some_iff.1 hr
    simp only [Tree.run, Option.some.injEq, Prod.mk.injEq] at hr
    obtain ⟨rfl, rfl⟩ := hr
    exact call_ok0 hs (fun k => (([a1.av F] : List AV)[k]?).getD .top) [.agg [.int .i64 v307, .int .i64 v308, a1], .int .i64 v310, .int .i64 v311] [.agg [.int .i64 v307, .int .i64 v308, .bslc (BR.root 0) (.f32 v309)], .int .i64 v310, .int .i64 v311] (fun F' h0 hi hρ => ⟨by simp [DVs.av, DV.av, BR.av, hρ], impl_Matrix_at_fn v307 v308 v309 v310 v311 F' (by rw [hi]; rfl) (st_nil hi) ⟨⟨trivial, trivial, bslc_ok hi (by rw [h0, hρ]; exact rowF32_ok hs (DVs.okAt (DVs.okAt ha 0 rfl) 2 rfl) hv309), trivial⟩, trivial, trivial, trivial⟩ hy⟩) rfl
  · cases hr
/-! (impl.Matrix).upper$1 -/
noncomputable def impl_Matrix_upper_1_LO (v302 : Int) (v303 : Int) (v304 : Int) (v305 : Int) (v306 : List Nat) : LOr := fun id e L =>
  match id with
  | _ => .fail
noncomputable def impl_Matrix_upper_1_tab : List (FuncId × DFn × Bool) := [(64, impl_Matrix_at_F, true)]
theorem impl_Matrix_upper_1_hO : OrcOk Try.prog (tabD impl_Matrix_upper_1_tab) (tabM impl_Matrix_upper_1_tab) := tabD_cons impl_Matrix_at_Fok (tabD_nil _)
noncomputable def impl_Matrix_upper_1_T (v302 : Int) (v303 : Int) (v305 : Int) (v306 : List Nat) : Tree (Nat) :=
  (.br (decide (v303 < v302)) (
   .leaf (0 : Nat)
  ) (
   (.call (impl_Matrix_at_g v305 v306 v302 v303) fun v312 =>
   .leaf v312)
  ))

noncomputable def impl_Matrix_upper_1_g (v302 : Int) (v303 : Int) (v305 : Int) (v306 : List Nat) : Option (Nat) := (impl_Matrix_upper_1_T v302 v303 v305 v306).run
def impl_Matrix_upper_1_enc (v302 : Int) (v303 : Int) (v304 : Int) (v305 : Int) (v306 : List Nat) (y : Nat) : Rs := (.flt .f32 y, [])
theorem impl_Matrix_upper_1_den (v302 : Int) (v303 : Int) (v304 : Int) (v305 : Int) (v306 : List Nat) : (den TT (tabD impl_Matrix_upper_1_tab) (tabM impl_Matrix_upper_1_tab) (impl_Matrix_upper_1_LO v302 v303 v304 v305 v306) (codeOf Try.f158) ([.int .i64 v302, .int .i64 v303, .bptr (BR.root 0) [.int .i64 v304, .int .i64 v305, .bslc (BR.root 1) (.f32 v306)]] ++ List.replicate (Try.f158.ntmps - ([.int .i64 v302, .int .i64 v303, .bptr (BR.root 0) [.int .i64 v304, .int .i64 v305, .bslc (BR.root 1) (.f32 v306)]] : List DV).length) .undef) []).bind (retD TT Try.f158.results.toList 0) = (impl_Matrix_upper_1_T v302 v303 v305 v306).bind fun y => .leaf (impl_Matrix_upper_1_enc v302 v303 v304 v305 v306 y) := by kernel_rfl
theorem impl_Matrix_upper_1_fn (v302 : Int) (v303 : Int) (v304 : Int) (v305 : Int) (v306 : List Nat) (F : Fr) (hm : F.ids.length = 0) (h0 : St F [] F.H0) (hA : DVs.Ok F [] [.int .i64 v302, .int .i64 v303, .bptr (BR.root 0) [.int .i64 v304, .int .i64 v305, .bslc (BR.root 1) (.f32 v306)]]) {y : Nat} (hy : impl_Matrix_upper_1_g v302 v303 v305 v306 = some y) : ∃ H', FnOk Try.prog 158 (DVs.av F [.int .i64 v302, .int .i64 v303, .bptr (BR.root 0) [.int .i64 v304, .int .i64 v305, .bslc (BR.root 1) (.f32 v306)]]) F.H0 ((impl_Matrix_upper_1_enc v302 v303 v304 v305 v306 y).1.av F) H' ∧ St F (impl_Matrix_upper_1_enc v302 v303 v304 v305 v306 y).2 H' ∧ (impl_Matrix_upper_1_enc v302 v303 v304 v305 v306 y).1.Ok F (impl_Matrix_upper_1_enc v302 v303 v304 v305 v306 y).2 :=
  fn_fin tok impl_Matrix_upper_1_hO mixed Try.func158 Try.call158 (by kernel_rfl) (LoopsOk_eq (l := []) (by kernel_rfl) trivial) (impl_Matrix_upper_1_den v302 v303 v304 v305 v306) hy hm h0 hA
noncomputable def impl_Matrix_upper_1_F : DFn := fun args L =>
  match args with
  | [.int .i64 v302, .int .i64 v303, a1] =>
    optT (cellsOf L 3 a1) fun cs0 =>
    (match cs0 with
    | [.int .i64 v304, .int .i64 v305, a2] =>
    optT (rowF32 L a2) fun v306 =>
    .call (impl_Matrix_upper_1_g v302 v303 v305 v306) fun y => .leaf (.flt .f32 y, L)
    | _ => .fail)
  | _ => .fail
theorem impl_Matrix_upper_1_Fok : COk Try.prog 158 impl_Matrix_upper_1_F true := by
  intro F L H args r L' hs ha hr
  unfold impl_Matrix_upper_1_F at hr
  split at hr
  · rename_i v302 v303 a1
    obtain ⟨cs0, hcp0, hr⟩ := optT_run hr
    split at hr
    · rename_i v304 v305 a2
      obtain ⟨v306, hv306, hr⟩ := optT_run hr
      simp only [Tree.run] at hr
      obtain ⟨y, hy, hr⟩ := Option.bind_eq_some_iff.1 hr
      simp only [Tree.run, Option.some.injEq, Prod.mk.injEq] at hr
      obtain ⟨rfl, rfl⟩ := hr
      exact call_ok0 hs (fun k => (([a1.av F, a2.av F] : List AV)[k]?).getD .top) [.int .i64 v302, .int .i64 v303, a1] [.int .i64 v302, .int .i64 v303, .bptr (BR.root 0) [.int .i64 v304, .int .i64 v305, .bslc (BR.root 1) (.f32 v306)]] (fun F' h0 hi hρ => ⟨by simp [DVs.av, DV.av, BR.av, hρ], impl_Matrix_upper_1_fn v302 v303 v304 v305 v306 F' (by rw [hi]; rfl) (st_nil hi) ⟨trivial, trivial, bptr_ok hi (by rw [h0]; simpa [DVs.av, DV.av, BR.av, hρ] using (cellsOf_ok hs (DVs.okAt ha 2 rfl) hcp0).1) ⟨trivial, trivial, bslc_ok hi (by rw [h0, hρ]; exact rowF32_ok hs (DVs.okAt (cellsOf_ok hs (DVs.okAt ha 2 rfl) hcp0).2 2 rfl) hv306), trivial⟩, trivial⟩ hy⟩) rfl
    · cases hr
  · cases hr
/-! (impl.Matrix).set -/
noncomputable def impl_Matrix_set_LO (v320 : Int) (v321 : Int) (v322 : List Nat) (v323 : Int) (v324 : Int) (v325 : Nat) : LOr := fun id e L =>
  match id with
  | _ => .fail
noncomputable def impl_Matrix_set_tab : List (FuncId × DFn × Bool) := []
theorem impl_Matrix_set_hO : OrcOk Try.prog (tabD impl_Matrix_set_tab) (tabM impl_Matrix_set_tab) := tabD_nil _
noncomputable def impl_Matrix_set_T (v321 : Int) (v322 : List Nat) (v323 : Int) (v324 : Int) : Tree (Unit) :=
  (.grd (inb (IntKind.i64.wrap ((IntKind.i64.wrap (v323 * v321)) + v324)) v322.length) <|
  .leaf ())

noncomputable def impl_Matrix_set_g (v321 : Int) (v322 : List Nat) (v323 : Int) (v324 : Int) : Option (Unit) := (impl_Matrix_set_T v321 v322 v323 v324).run
def impl_Matrix_set_enc (v320 : Int) (v321 : Int) (v322 : List Nat) (v323 : Int) (v324 : Int) (v325 : Nat) (y : Unit) : Rs := (.tup [], [.row (.f32 (List.set v322 (Int.toNat (IntKind.i64.wrap ((IntKind.i64.wrap (v323 * v321)) + v324))) v325)) 0])
theorem impl_Matrix_set_den (v320 : Int) (v321 : Int) (v322 : List Nat) (v323 : Int) (v324 : Int) (v325 : Nat) : (den TT (tabD impl_Matrix_set_tab) (tabM impl_Matrix_set_tab) (impl_Matrix_set_LO v320 v321 v322 v323 v324 v325) (codeOf Try.f66) ([.agg [.int .i64 v320, .int .i64 v321, .own 0 0 v322.length], .int .i64 v323, .int .i64 v324, .flt .f32 v325] ++ List.replicate (Try.f66.ntmps - ([.agg [.int .i64 v320, .int .i64 v321, .own 0 0 v322.length], .int .i64 v323, .int .i64 v324, .flt .f32 v325] : List DV).length) .undef) [.row (.f32 v322) 0]).bind (retD TT Try.f66.results.toList 1) = (impl_Matrix_set_T v321 v322 v323 v324).bind fun y => .leaf (impl_Matrix_set_enc v320 v321 v322 v323 v324 v325 y) := by kernel_rfl
theorem impl_Matrix_set_fn (v320 : Int) (v321 : Int) (v322 : List Nat) (v323 : Int) (v324 : Int) (v325 : Nat) (F : Fr) (hm : F.ids.length = 1) (h0 : St F [.row (.f32 v322) 0] F.H0) (hA : DVs.Ok F [.row (.f32 v322) 0] [.agg [.int .i64 v320, .int .i64 v321, .own 0 0 v322.length], .int .i64 v323, .int .i64 v324, .flt .f32 v325]) {y : Unit} (hy : impl_Matrix_set_g v321 v322 v323 v324 = some y) : ∃ H', FnOk Try.prog 66 (DVs.av F [.agg [.int .i64 v320, .int .i64 v321, .own 0 0 v322.length], .int .i64 v323, .int .i64 v324, .flt .f32 v325]) F.H0 ((impl_Matrix_set_enc v320 v321 v322 v323 v324 v325 y).1.av F) H' ∧ St F (impl_Matrix_set_enc v320 v321 v322 v323 v324 v325 y).2 H' ∧ (impl_Matrix_set_enc v320 v321 v322 v323 v324 v325 y).1.Ok F (impl_Matrix_set_enc v320 v321 v322 v323 v324 v325 y).2 :=
  fn_fin tok impl_Matrix_set_hO mixed Try.func66 Try.call66 (by kernel_rfl) (LoopsOk_eq (l := []) (by kernel_rfl) trivial) (impl_Matrix_set_den v320 v321 v322 v323 v324 v325) hy hm h0 hA
noncomputable def impl_Matrix_set_F : DFn := fun args L =>
  match args with
  | [.agg [.int .i64 v320, .int .i64 v321, a1], .int .i64 v323, .int .i64 v324, .flt .f32 v325] =>
    optT (ownF32 L a1) fun qv322 =>
    (match sepB [qv322.1] [] with
    | true =>
    .call (impl_Matrix_set_g v321 qv322.2 v323 v324) fun y => .grd (decide ((List.set qv322.2 (Int.toNat (IntKind.i64.wrap ((IntKind.i64.wrap (v323 * v321)) + v324))) v325).length = qv322.2.length)) (.leaf (.tup [], setRows L ([qv322.1].zip [.f32 (List.set qv322.2 (Int.toNat (IntKind.i64.wrap ((IntKind.i64.wrap (v323 * v321)) + v324))) v325)])))
    | false => .fail)
  | _ => .fail
theorem impl_Matrix_set_Fok : COk Try.prog 66 impl_Matrix_set_F false := by
  intro F L H args r L' hs ha hr
  unfold impl_Matrix_set_F at hr
  split at hr
  · rename_i v320 v321 a1 v323 v324 v325
    obtain ⟨⟨jv322, v322⟩, hqv322, hr⟩ := optT_run hr
    simp only at hr
    split at hr
    · rename_i hsep
      obtain ⟨hnd, hsepv⟩ := sepB_spec hsep
      simp only [Tree.run] at hr
      obtain ⟨y, hy, hr⟩ := Option.bind_eq_some_iff.1 hr
      try simp only [Tree.run] at hr
      obtain ⟨hl0, hr⟩ := ite_run hr
      simp only [Option.some.injEq, Prod.mk.injEq] at hr
      obtain ⟨rfl, rfl⟩ := hr
      obtain ⟨hr0, hu0, ha0, hb0⟩ := (ownR_spec (DVs.okAt (DVs.okAt ha 0 rfl) 2 rfl) (ownF32_or hqv322))
      exact mut_ok hs (fun k => (([a1.av F] : List AV)[k]?).getD .top) [.agg [.int .i64 v320, .int .i64 v321, a1], .int .i64 v323, .int .i64 v324, .flt .f32 v325] [.agg [.int .i64 v320, .int .i64 v321, .own 0 0 v322.length], .int .i64 v323, .int .i64 v324, .flt .f32 v325] [jv322] [.f32 v322] [.f32 (List.set v322 (Int.toNat (IntKind.i64.wrap ((IntKind.i64.wrap (v323 * v321)) + v324))) v325)] hnd rfl rfl (fun i j q h1 h2 => by
          rcases i with _ | i
          · simp at h1 h2; subst h1; subst h2; exact hr0
          · simp at h1) (fun i q q' h1 h2 => by
          rcases i with _ | i
          · simp at h1 h2; subst h1; subst h2; exact of_decide_eq_true hl0
          · simp at h1) (fun j hj => by simp at hj; subst hj; simp [DVs.refs, DV.refs, hu0]) (fun F' h0 hi hρ hst hS => ⟨by (have ab0 : F'.abs 0 = F.abs jv322 := (by simp [Fr.abs, hi]); simp [DVs.av, DV.av, BR.av, hρ, Row.len, ha0, ab0]), by
          obtain ⟨H1, k1, k2, _⟩ := impl_Matrix_set_fn v320 v321 v322 v323 v324 v325 F' (by rw [hi]; rfl) hst ⟨⟨trivial, trivial, ⟨_, rfl, Nat.le_refl _, Nat.le_refl _, fun _ => rfl, (ownR_spec (DVs.okAt (DVs.okAt ha 0 rfl) 2 rfl) (ownF32_or hqv322)).2.2.2⟩, trivial⟩, trivial, trivial, trivial, trivial⟩ hy
          exact ⟨H1, k1, k2⟩⟩) (fun F' => rfl) (fun L' => trivial)
    · cases hr
  · cases hr
/-! impl.made -/
noncomputable def impl_made_l2_T (v288 : Int) (v290 : Int) (v291 : List Nat) (v386 : Int) (v388 : Int) (v389 : Int) (s : Int × (List Nat)) : Tree ((Int × (List Nat)) ⊕ ((List Nat))) :=
  (.br (decide (s.1 < v288)) (
   (.call (impl_Matrix_upper_1_g v386 s.1 v290 v291) fun v391 =>
   (.call (impl_Matrix_set_g v389 s.2 v386 s.1) fun v392 =>
   (.grd (decide ((List.set s.2 (Int.toNat (IntKind.i64.wrap ((IntKind.i64.wrap (v386 * v389)) + s.1))) v391).length = s.2.length)) <|
   .leaf (.inl (IntKind.i64.wrap (s.1 + (1 : Int)), List.set s.2 (Int.toNat (IntKind.i64.wrap ((IntKind.i64.wrap (v386 * v389)) + s.1))) v391)))))
  ) (
   .leaf (.inr s.2)
  ))

noncomputable def impl_made_l2_g (v288 : Int) (v290 : Int) (v291 : List Nat) (v386 : Int) (v388 : Int) (v389 : Int) (s0 : Int × (List Nat)) : Option ((List Nat)) := whileM (fun s => (impl_made_l2_T v288 v290 v291 v386 v388 v389 s).run) s0
def impl_made_l2_E (v287 : Int) (v288 : Int) (v289 : Int) (v290 : Int) (v291 : List Nat) (v386 : Int) (v388 : Int) (v389 : Int) (s : Int × (List Nat)) : Sd := ([.top, .int .i64 v288, .fn 158 [.bptr (BR.root 0) [.int .i64 v289, .int .i64 v290, .bslc (BR.root 1) (.f32 v291)]], .top, .top, .top, .ptr 0 (0 : Nat) 0 (3 : Nat), .ptr 1 (0 : Nat) 0 (3 : Nat), .int .i64 v386, .top, .top, .top, .top, .int .i64 v287, .int .i64 v386, .top, .top, .int .i64 v288, .int .i64 s.1, .top, .top, .top, .top, .top, .top, .top, .top, .top, .top, .top, .top, .top], [.gen [.int .i64 (0 : Int), .int .i64 (0 : Int), .nilslc] false 0, .gen [.int .i64 v388, .int .i64 v389, .own 2 0 ((s.2).length)] false 0, .row (.f32 s.2) 0])
def impl_made_l2_X (v287 : Int) (v288 : Int) (v289 : Int) (v290 : Int) (v291 : List Nat) (v386 : Int) (v388 : Int) (v389 : Int) (x : (List Nat)) : Out := (.normal, [.top, .int .i64 v288, .fn 158 [.bptr (BR.root 0) [.int .i64 v289, .int .i64 v290, .bslc (BR.root 1) (.f32 v291)]], .top, .top, .top, .ptr 0 (0 : Nat) 0 (3 : Nat), .ptr 1 (0 : Nat) 0 (3 : Nat), .top, .top, .top, .top, .top, .int .i64 v287, .int .i64 v386, .top, .top, .top, .top, .top, .top, .top, .top, .top, .top, .top, .top, .top, .top, .top, .top, .top], [.gen [.int .i64 (0 : Int), .int .i64 (0 : Int), .nilslc] false 0, .gen [.int .i64 v388, .int .i64 v389, .own 2 0 ((x).length)] false 0, .row (.f32 x) 0])
def impl_made_l2_kill : List Nat := [1, 0, 0, 1, 1, 1, 0, 0, 0, 1, 1, 1, 1, 0, 0, 1, 1, 0, 0, 1, 1, 1, 1, 1, 1, 1, 1, 1, 1, 1, 1, 1]
def impl_made_l2_nx : Exit → List Nat
  | .exit 0 => [1, 1, 1, 1, 1, 1, 0, 0, 1, 1, 1, 1, 1, 1, 1, 1, 1, 1, 1, 1, 1, 1, 1, 1, 1, 1, 1, 1, 1, 1, 1, 1]
  | .exit 1 => [1, 0, 0, 1, 1, 1, 0, 0, 1, 1, 1, 1, 1, 0, 0, 1, 1, 1, 1, 1, 1, 1, 1, 1, 1, 1, 1, 1, 1, 1, 1, 1]
  | .exit 2 => [1, 0, 0, 1, 1, 1, 0, 0, 1, 1, 1, 1, 1, 0, 0, 1, 1, 1, 1, 1, 1, 1, 1, 1, 1, 1, 1, 1, 1, 1, 1, 1]
  | .ret => [1, 1, 1, 1, 1, 1, 0, 1, 1, 1, 1, 1, 1, 1, 1, 1, 1, 1, 1, 1, 1, 1, 1, 1, 1, 1, 1, 1, 1, 1, 1, 1]
  | _ => []
noncomputable def impl_made_l0_T (v287 : Int) (v288 : Int) (v289 : Int) (v290 : Int) (v291 : List Nat) (v369 : Int) (v370 : Int) (s : Int × (List Nat)) : Tree ((Int × (List Nat)) ⊕ ((List Nat))) :=
  (.br (decide (s.1 < v287)) (
   (.need (some (impl_made_l2_E v287 v288 v289 v290 v291 s.1 v369 v370 ((0 : Int), s.2)) = some (impl_made_l2_E v287 v288 v289 v290 v291 s.1 v369 v370 ((0 : Int), s.2))) <|
   (.call (impl_made_l2_g v288 v290 v291 s.1 v369 v370 ((0 : Int), s.2)) fun v393 =>
   .leaf (.inl (IntKind.i64.wrap (s.1 + (1 : Int)), v393))))
  ) (
   .leaf (.inr s.2)
  ))

noncomputable def impl_made_l0_g (v287 : Int) (v288 : Int) (v289 : Int) (v290 : Int) (v291 : List Nat) (v369 : Int) (v370 : Int) (s0 : Int × (List Nat)) : Option ((List Nat)) := whileM (fun s => (impl_made_l0_T v287 v288 v289 v290 v291 v369 v370 s).run) s0
def impl_made_l0_E (v287 : Int) (v288 : Int) (v289 : Int) (v290 : Int) (v291 : List Nat) (v369 : Int) (v370 : Int) (s : Int × (List Nat)) : Sd := ([.top, .int .i64 v288, .fn 158 [.bptr (BR.root 0) [.int .i64 v289, .int .i64 v290, .bslc (BR.root 1) (.f32 v291)]], .top, .top, .top, .ptr 0 (0 : Nat) 0 (3 : Nat), .ptr 1 (0 : Nat) 0 (3 : Nat), .top, .top, .top, .top, .top, .int .i64 v287, .int .i64 s.1, .top, .top, .top, .top, .top, .top, .top, .top, .top, .top, .top, .top, .top, .top, .top, .top, .top], [.gen [.int .i64 (0 : Int), .int .i64 (0 : Int), .nilslc] false 0, .gen [.int .i64 v369, .int .i64 v370, .own 2 0 ((s.2).length)] false 0, .row (.f32 s.2) 0])
def impl_made_l0_X (v287 : Int) (v288 : Int) (v289 : Int) (v290 : Int) (v291 : List Nat) (v369 : Int) (v370 : Int) (x : (List Nat)) : Out := (.normal, [.top, .top, .top, .top, .top, .top, .ptr 0 (0 : Nat) 0 (3 : Nat), .ptr 1 (0 : Nat) 0 (3 : Nat), .top, .top, .top, .top, .top, .top, .top, .top, .top, .top, .top, .top, .top, .top, .top, .top, .top, .top, .top, .top, .top, .top, .top, .top], [.gen [.int .i64 (0 : Int), .int .i64 (0 : Int), .nilslc] false 0, .gen [.int .i64 v369, .int .i64 v370, .own 2 0 ((x).length)] false 0, .row (.f32 x) 0])
def impl_made_l0_kill : List Nat := [1, 0, 0, 1, 1, 1, 0, 0, 1, 1, 1, 1, 1, 0, 0, 1, 1, 1, 1, 1, 1, 1, 1, 1, 1, 1, 1, 1, 1, 1, 1, 1]
def impl_made_l0_nx : Exit → List Nat
  | .exit 0 => [1, 1, 1, 1, 1, 1, 0, 0, 1, 1, 1, 1, 1, 1, 1, 1, 1, 1, 1, 1, 1, 1, 1, 1, 1, 1, 1, 1, 1, 1, 1, 1]
  | .ret => [1, 1, 1, 1, 1, 1, 0, 1, 1, 1, 1, 1, 1, 1, 1, 1, 1, 1, 1, 1, 1, 1, 1, 1, 1, 1, 1, 1, 1, 1, 1, 1]
  | _ => []
noncomputable def impl_made_LO (v287 : Int) (v288 : Int) (v289 : Int) (v290 : Int) (v291 : List Nat) : LOr := fun id e L =>
  match id with
  | 2 => .need (normA 0 impl_made_l2_kill e L = some (impl_made_l2_E v287 v288 v289 v290 v291 (gI (vAt e 8)) (gI (cAt L (vAt e 7) 0)) (gI (cAt L (vAt e 7) 1)) ((gI (vAt e 18)), (gRF L (cAt L (vAt e 7) 2))))) (.call (impl_made_l2_g v288 v290 v291 (gI (vAt e 8)) (gI (cAt L (vAt e 7) 0)) (gI (cAt L (vAt e 7) 1)) ((gI (vAt e 18)), (gRF L (cAt L (vAt e 7) 2)))) fun x => .leaf (impl_made_l2_X v287 v288 v289 v290 v291 (gI (vAt e 8)) (gI (cAt L (vAt e 7) 0)) (gI (cAt L (vAt e 7) 1)) x))
  | 0 => .need (normA 0 impl_made_l0_kill e L = some (impl_made_l0_E v287 v288 v289 v290 v291 (gI (cAt L (vAt e 7) 0)) (gI (cAt L (vAt e 7) 1)) ((gI (vAt e 14)), (gRF L (cAt L (vAt e 7) 2))))) (.call (impl_made_l0_g v287 v288 v289 v290 v291 (gI (cAt L (vAt e 7) 0)) (gI (cAt L (vAt e 7) 1)) ((gI (vAt e 14)), (gRF L (cAt L (vAt e 7) 2)))) fun x => .leaf (impl_made_l0_X v287 v288 v289 v290 v291 (gI (cAt L (vAt e 7) 0)) (gI (cAt L (vAt e 7) 1)) x))
  | _ => .fail
noncomputable def impl_made_tab : List (FuncId × DFn × Bool) := [(117, impl_newMatrix_F, true), (158, impl_Matrix_upper_1_F, true), (66, impl_Matrix_set_F, false)]
theorem impl_made_hO : OrcOk Try.prog (tabD impl_made_tab) (tabM impl_made_tab) := tabD_cons impl_newMatrix_Fok (tabD_cons impl_Matrix_upper_1_Fok (tabD_cons impl_Matrix_set_Fok (tabD_nil _)))
theorem impl_made_l2_be (v287 : Int) (v288 : Int) (v289 : Int) (v290 : Int) (v291 : List Nat) (v386 : Int) (v388 : Int) (v389 : Int) (s : Int × (List Nat)) : bodyT TT (tabD impl_made_tab) (tabM impl_made_tab) (impl_made_LO v287 v288 v289 v290 v291) 0 impl_made_l2_kill impl_made_l2_nx (bodyOf Try.f78 2) 2 (impl_made_l2_E v287 v288 v289 v290 v291 v386 v388 v389 s) = (impl_made_l2_T v288 v290 v291 v386 v388 v389 s).bind fun y => .leaf (outS (impl_made_l2_E v287 v288 v289 v290 v291 v386 v388 v389) (impl_made_l2_X v287 v288 v289 v290 v291 v386 v388 v389) y) := by kernel_rfl
theorem impl_made_l2_ok (v287 : Int) (v288 : Int) (v289 : Int) (v290 : Int) (v291 : List Nat) : LSound Try.prog 0 (impl_made_LO v287 v288 v289 v290 v291) 2 (bodyOf Try.f78 2) := by
  intro e L out h
  exact lo_ok (E := impl_made_l2_E v287 v288 v289 v290 v291 (gI (vAt e 8)) (gI (cAt L (vAt e 7) 0)) (gI (cAt L (vAt e 7) 1))) (gT := impl_made_l2_T v288 v290 v291 (gI (vAt e 8)) (gI (cAt L (vAt e 7) 0)) (gI (cAt L (vAt e 7) 1))) (X := impl_made_l2_X v287 v288 v289 v290 v291 (gI (vAt e 8)) (gI (cAt L (vAt e 7) 0)) (gI (cAt L (vAt e 7) 1))) (s0 := ((gI (vAt e 18)), (gRF L (cAt L (vAt e 7) 2)))) tok impl_made_hO mixed (LoopsOk_eq (l := []) (by kernel_rfl) trivial) (impl_made_l2_be v287 v288 v289 v290 v291 (gI (vAt e 8)) (gI (cAt L (vAt e 7) 0)) (gI (cAt L (vAt e 7) 1))) rfl (by intro x; rfl) h
theorem impl_made_l0_be (v287 : Int) (v288 : Int) (v289 : Int) (v290 : Int) (v291 : List Nat) (v369 : Int) (v370 : Int) (s : Int × (List Nat)) : bodyT TT (tabD impl_made_tab) (tabM impl_made_tab) (impl_made_LO v287 v288 v289 v290 v291) 0 impl_made_l0_kill impl_made_l0_nx (bodyOf Try.f78 0) 0 (impl_made_l0_E v287 v288 v289 v290 v291 v369 v370 s) = (impl_made_l0_T v287 v288 v289 v290 v291 v369 v370 s).bind fun y => .leaf (outS (impl_made_l0_E v287 v288 v289 v290 v291 v369 v370) (impl_made_l0_X v287 v288 v289 v290 v291 v369 v370) y) := by kernel_rfl
theorem impl_made_l0_ok (v287 : Int) (v288 : Int) (v289 : Int) (v290 : Int) (v291 : List Nat) : LSound Try.prog 0 (impl_made_LO v287 v288 v289 v290 v291) 0 (bodyOf Try.f78 0) := by
  intro e L out h
  exact lo_ok (E := impl_made_l0_E v287 v288 v289 v290 v291 (gI (cAt L (vAt e 7) 0)) (gI (cAt L (vAt e 7) 1))) (gT := impl_made_l0_T v287 v288 v289 v290 v291 (gI (cAt L (vAt e 7) 0)) (gI (cAt L (vAt e 7) 1))) (X := impl_made_l0_X v287 v288 v289 v290 v291 (gI (cAt L (vAt e 7) 0)) (gI (cAt L (vAt e 7) 1))) (s0 := ((gI (vAt e 14)), (gRF L (cAt L (vAt e 7) 2)))) tok impl_made_hO mixed (LoopsOk_eq (l := [(2, bodyOf Try.f78 2)]) (by kernel_rfl) ⟨impl_made_l2_ok v287 v288 v289 v290 v291, trivial⟩) (impl_made_l0_be v287 v288 v289 v290 v291 (gI (cAt L (vAt e 7) 0)) (gI (cAt L (vAt e 7) 1))) rfl (by intro x; rfl) h
noncomputable def impl_made_T (v287 : Int) (v288 : Int) (v289 : Int) (v290 : Int) (v291 : List Nat) : Tree (Int × Int × (List Nat)) :=
  (.call (impl_newMatrix_g v287 v288) fun v294 =>
  (.need (some (impl_made_l0_E v287 v288 v289 v290 v291 v294.1 v294.2 ((0 : Int), List.replicate (Int.toNat (IntKind.i64.wrap (v287 * v288))) (0 : Nat))) = some (impl_made_l0_E v287 v288 v289 v290 v291 v294.1 v294.2 ((0 : Int), List.replicate (Int.toNat (IntKind.i64.wrap (v287 * v288))) (0 : Nat)))) <|
  (.call (impl_made_l0_g v287 v288 v289 v290 v291 v294.1 v294.2 ((0 : Int), List.replicate (Int.toNat (IntKind.i64.wrap (v287 * v288))) (0 : Nat))) fun v394 =>
  .leaf (v294.1, v294.2, v394))))

noncomputable def impl_made_g (v287 : Int) (v288 : Int) (v289 : Int) (v290 : Int) (v291 : List Nat) : Option (Int × Int × (List Nat)) := (impl_made_T v287 v288 v289 v290 v291).run
def impl_made_enc (v287 : Int) (v288 : Int) (v289 : Int) (v290 : Int) (v291 : List Nat) (y : Int × Int × (List Nat)) : Rs := (.agg [.int .i64 y.1, .int .i64 y.2.1, .own 0 0 ((y.2.2).length)], [.row (.f32 y.2.2) 0])
theorem impl_made_den (v287 : Int) (v288 : Int) (v289 : Int) (v290 : Int) (v291 : List Nat) : (den TT (tabD impl_made_tab) (tabM impl_made_tab) (impl_made_LO v287 v288 v289 v290 v291) (codeOf Try.f78) ([.int .i64 v287, .int .i64 v288, .fn 158 [.bptr (BR.root 0) [.int .i64 v289, .int .i64 v290, .bslc (BR.root 1) (.f32 v291)]]] ++ List.replicate (Try.f78.ntmps - ([.int .i64 v287, .int .i64 v288, .fn 158 [.bptr (BR.root 0) [.int .i64 v289, .int .i64 v290, .bslc (BR.root 1) (.f32 v291)]]] : List DV).length) .undef) []).bind (retD TT Try.f78.results.toList 0) = (impl_made_T v287 v288 v289 v290 v291).bind fun y => .leaf (impl_made_enc v287 v288 v289 v290 v291 y) := by kernel_rfl
theorem impl_made_fn (v287 : Int) (v288 : Int) (v289 : Int) (v290 : Int) (v291 : List Nat) (F : Fr) (hm : F.ids.length = 0) (h0 : St F [] F.H0) (hA : DVs.Ok F [] [.int .i64 v287, .int .i64 v288, .fn 158 [.bptr (BR.root 0) [.int .i64 v289, .int .i64 v290, .bslc (BR.root 1) (.f32 v291)]]]) {y : Int × Int × (List Nat)} (hy : impl_made_g v287 v288 v289 v290 v291 = some y) : ∃ H', FnOk Try.prog 78 (DVs.av F [.int .i64 v287, .int .i64 v288, .fn 158 [.bptr (BR.root 0) [.int .i64 v289, .int .i64 v290, .bslc (BR.root 1) (.f32 v291)]]]) F.H0 ((impl_made_enc v287 v288 v289 v290 v291 y).1.av F) H' ∧ St F (impl_made_enc v287 v288 v289 v290 v291 y).2 H' ∧ (impl_made_enc v287 v288 v289 v290 v291 y).1.Ok F (impl_made_enc v287 v288 v289 v290 v291 y).2 :=
  fn_fin tok impl_made_hO mixed Try.func78 Try.call78 (by kernel_rfl) (LoopsOk_eq (l := [(0, bodyOf Try.f78 0)]) (by kernel_rfl) ⟨impl_made_l0_ok v287 v288 v289 v290 v291, trivial⟩) (impl_made_den v287 v288 v289 v290 v291) hy hm h0 hA
noncomputable def impl_made_F : DFn := fun args L =>
  match args with
  | [.int .i64 v287, .int .i64 v288, .fn 158 [a1]] =>
    optT (cellsOf L 3 a1) fun cs0 =>
    (match cs0 with
    | [.int .i64 v289, .int .i64 v290, a2] =>
    optT (rowF32 L a2) fun v291 =>
    .call (impl_made_g v287 v288 v289 v290 v291) fun y => .leaf (.agg [.int .i64 y.1, .int .i64 y.2.1, .own (L.length + 0) 0 ((y.2.2).length)], L ++ [.row (.f32 y.2.2) 0])
    | _ => .fail)
  | _ => .fail
theorem impl_made_Fok : COk Try.prog 78 impl_made_F true := by
  intro F L H args r L' hs ha hr
  unfold impl_made_F at hr
  split at hr
  · rename_i v287 v288 a1
    obtain ⟨cs0, hcp0, hr⟩ := optT_run hr
    split at hr
    · rename_i v289 v290 a2
      obtain ⟨v291, hv291, hr⟩ := optT_run hr
      simp only [Tree.run] at hr
      obtain ⟨y, hy, hr⟩ := Option.bind_eq_some_iff.1 hr
      simp only [Tree.run, Option.some.injEq, Prod.mk.injEq] at hr
      obtain ⟨rfl, rfl⟩ := hr
      exact call_ok1 hs (fun k => (([a1.av F, a2.av F] : List AV)[k]?).getD .top) [.int .i64 v287, .int .i64 v288, .fn 158 [a1]] [.int .i64 v287, .int .i64 v288, .fn 158 [.bptr (BR.root 0) [.int .i64 v289, .int .i64 v290, .bslc (BR.root 1) (.f32 v291)]]] (fun F' h0 hi hρ => ⟨by simp [DVs.av, DV.av, BR.av, hρ], impl_made_fn v287 v288 v289 v290 v291 F' (by rw [hi]; rfl) (st_nil hi) ⟨trivial, trivial, ⟨bptr_ok hi (by rw [h0]; simpa [DVs.av, DV.av, BR.av, hρ] using (cellsOf_ok hs (DVs.okAt (DVs.okAt ha 2 rfl) 0 rfl) hcp0).1) ⟨trivial, trivial, bslc_ok hi (by rw [h0, hρ]; exact rowF32_ok hs (DVs.okAt (cellsOf_ok hs (DVs.okAt (DVs.okAt ha 2 rfl) 0 rfl) hcp0).2 2 rfl) hv291), trivial⟩, trivial⟩, trivial⟩ hy⟩) rfl rfl
    · cases hr
  · cases hr
/-! (impl.Matrix).upper -/
noncomputable def impl_Matrix_upper_LO (v284 : Int) (v285 : Int) (v286 : List Nat) : LOr := fun id e L =>
  match id with
  | _ => .fail
noncomputable def impl_Matrix_upper_tab : List (FuncId × DFn × Bool) := [(78, impl_made_F, true)]
theorem impl_Matrix_upper_hO : OrcOk Try.prog (tabD impl_Matrix_upper_tab) (tabM impl_Matrix_upper_tab) := tabD_cons impl_made_Fok (tabD_nil _)
noncomputable def impl_Matrix_upper_T (v284 : Int) (v285 : Int) (v286 : List Nat) : Tree (Int × Int × (List Nat)) :=
  (.call (impl_made_g v284 v285 v284 v285 v286) fun v395 =>
  .leaf (v395.1, v395.2.1, v395.2.2))

noncomputable def impl_Matrix_upper_g (v284 : Int) (v285 : Int) (v286 : List Nat) : Option (Int × Int × (List Nat)) := (impl_Matrix_upper_T v284 v285 v286).run
def impl_Matrix_upper_enc (v284 : Int) (v285 : Int) (v286 : List Nat) (y : Int × Int × (List Nat)) : Rs := (.agg [.int .i64 y.1, .int .i64 y.2.1, .own 0 0 ((y.2.2).length)], [.row (.f32 y.2.2) 0])
theorem impl_Matrix_upper_den (v284 : Int) (v285 : Int) (v286 : List Nat) : (den TT (tabD impl_Matrix_upper_tab) (tabM impl_Matrix_upper_tab) (impl_Matrix_upper_LO v284 v285 v286) (codeOf Try.f113) ([.agg [.int .i64 v284, .int .i64 v285, .bslc (BR.root 0) (.f32 v286)]] ++ List.replicate (Try.f113.ntmps - ([.agg [.int .i64 v284, .int .i64 v285, .bslc (BR.root 0) (.f32 v286)]] : List DV).length) .undef) []).bind (retD TT Try.f113.results.toList 0) = (impl_Matrix_upper_T v284 v285 v286).bind fun y => .leaf (impl_Matrix_upper_enc v284 v285 v286 y) := by kernel_rfl
theorem impl_Matrix_upper_fn (v284 : Int) (v285 : Int) (v286 : List Nat) (F : Fr) (hm : F.ids.length = 0) (h0 : St F [] F.H0) (hA : DVs.Ok F [] [.agg [.int .i64 v284, .int .i64 v285, .bslc (BR.root 0) (.f32 v286)]]) {y : Int × Int × (List Nat)} (hy : impl_Matrix_upper_g v284 v285 v286 = some y) : ∃ H', FnOk Try.prog 113 (DVs.av F [.agg [.int .i64 v284, .int .i64 v285, .bslc (BR.root 0) (.f32 v286)]]) F.H0 ((impl_Matrix_upper_enc v284 v285 v286 y).1.av F) H' ∧ St F (impl_Matrix_upper_enc v284 v285 v286 y).2 H' ∧ (impl_Matrix_upper_enc v284 v285 v286 y).1.Ok F (impl_Matrix_upper_enc v284 v285 v286 y).2 :=
  fn_fin tok impl_Matrix_upper_hO mixed Try.func113 Try.call113 (by kernel_rfl) (LoopsOk_eq (l := []) (by kernel_rfl) trivial) (impl_Matrix_upper_den v284 v285 v286) hy hm h0 hA
noncomputable def impl_Matrix_upper_F : DFn := fun args L =>
  match args with
  | [.agg [.int .i64 v284, .int .i64 v285, a1]] =>
    optT (rowF32 L a1) fun v286 =>
    .call (impl_Matrix_upper_g v284 v285 v286) fun y => .leaf (.agg [.int .i64 y.1, .int .i64 y.2.1, .own (L.length + 0) 0 ((y.2.2).length)], L ++ [.row (.f32 y.2.2) 0])
  | _ => .fail
theorem impl_Matrix_upper_Fok : COk Try.prog 113 impl_Matrix_upper_F true := by
  intro F L H args r L' hs ha hr
  unfold impl_Matrix_upper_F at hr
  split at hr
  · rename_i v284 v285 a1
    obtain ⟨v286, hv286, hr⟩ := optT_run hr
    simp only [Tree.run] at hr
    obtain ⟨y, hy, hr⟩ := Option.bind_eq_some_iff.1 hr
    simp only [Tree.run, Option.some.injEq, Prod.mk.injEq] at hr
    obtain ⟨rfl, rfl⟩ := hr
    exact call_ok1 hs (fun k => (([a1.av F] : List AV)[k]?).getD .top) [.agg [.int .i64 v284, .int .i64 v285, a1]] [.agg [.int .i64 v284, .int .i64 v285, .bslc (BR.root 0) (.f32 v286)]] (fun F' h0 hi hρ => ⟨by simp [DVs.av, DV.av, BR.av, hρ], impl_Matrix_upper_fn v284 v285 v286 F' (by rw [hi]; rfl) (st_nil hi) ⟨⟨trivial, trivial, bslc_ok hi (by rw [h0, hρ]; exact rowF32_ok hs (DVs.okAt (DVs.okAt ha 0 rfl) 2 rfl) hv286), trivial⟩, trivial⟩ hy⟩) rfl rfl
  · cases hr
/-! slices.Clone[list of float32,float32] -/
noncomputable def slices_CloneF_LO (v397 : List Nat) : LOr := fun id e L =>
  match id with
  | _ => .fail
noncomputable def slices_CloneF_tab : List (FuncId × DFn × Bool) := []
theorem slices_CloneF_hO : OrcOk Try.prog (tabD slices_CloneF_tab) (tabM slices_CloneF_tab) := tabD_nil _
noncomputable def slices_CloneF_T (v397 : List Nat) : Tree (Unit) :=
  (.grd (decide (0 < v397.length)) <|
  (.grd (fits (([] : List Nat) ++ v397).length) <|
  .leaf ()))

noncomputable def slices_CloneF_g (v397 : List Nat) : Option (Unit) := (slices_CloneF_T v397).run
def slices_CloneF_enc (v397 : List Nat) (y : Unit) : Rs := (.own 0 0 ((([] : List Nat) ++ v397).length), [.row (.f32 (([] : List Nat) ++ v397)) 0])
theorem slices_CloneF_den (v397 : List Nat) : (den TT (tabD slices_CloneF_tab) (tabM slices_CloneF_tab) (slices_CloneF_LO v397) (codeOf Try.f105) ([.bslc (BR.root 0) (.f32 v397)] ++ List.replicate (Try.f105.ntmps - ([.bslc (BR.root 0) (.f32 v397)] : List DV).length) .undef) []).bind (retD TT Try.f105.results.toList 0) = (slices_CloneF_T v397).bind fun y => .leaf (slices_CloneF_enc v397 y) := by kernel_rfl
theorem slices_CloneF_fn (v397 : List Nat) (F : Fr) (hm : F.ids.length = 0) (h0 : St F [] F.H0) (hA : DVs.Ok F [] [.bslc (BR.root 0) (.f32 v397)]) {y : Unit} (hy : slices_CloneF_g v397 = some y) : ∃ H', FnOk Try.prog 105 (DVs.av F [.bslc (BR.root 0) (.f32 v397)]) F.H0 ((slices_CloneF_enc v397 y).1.av F) H' ∧ St F (slices_CloneF_enc v397 y).2 H' ∧ (slices_CloneF_enc v397 y).1.Ok F (slices_CloneF_enc v397 y).2 :=
  fn_fin tok slices_CloneF_hO mixed Try.func105 Try.call105 (by kernel_rfl) (LoopsOk_eq (l := []) (by kernel_rfl) trivial) (slices_CloneF_den v397) hy hm h0 hA
noncomputable def slices_CloneF_F : DFn := fun args L =>
  match args with
  | [a1] =>
    optT (rowF32 L a1) fun v397 =>
    .call (slices_CloneF_g v397) fun y => .leaf (.own (L.length + 0) 0 ((([] : List Nat) ++ v397).length), L ++ [.row (.f32 (([] : List Nat) ++ v397)) 0])
  | _ => .fail
theorem slices_CloneF_Fok : COk Try.prog 105 slices_CloneF_F true := by
  intro F L H args r L' hs ha hr
  unfold slices_CloneF_F at hr
  split at hr
  · rename_i a1
    obtain ⟨v397, hv397, hr⟩ := optT_run hr
    simp only [Tree.run] at hr
    obtain ⟨y, hy, hr⟩ := Option.bind_eq_some_iff.1 hr
    simp only [Tree.run, Option.some.injEq, Prod.mk.injEq] at hr
    obtain ⟨rfl, rfl⟩ := hr
    exact call_ok1 hs (fun k => (([a1.av F] : List AV)[k]?).getD .top) [a1] [.bslc (BR.root 0) (.f32 v397)] (fun F' h0 hi hρ => ⟨by simp [DVs.av, DV.av, BR.av, hρ], slices_CloneF_fn v397 F' (by rw [hi]; rfl) (st_nil hi) ⟨bslc_ok hi (by rw [h0, hρ]; exact rowF32_ok hs (DVs.okAt ha 0 rfl) hv397), trivial⟩ hy⟩) rfl rfl
  · cases hr
/-! impl.mul -/
noncomputable def impl_mul_LO (v404 : Nat) (v405 : Nat) : LOr := fun id e L =>
  match id with
  | _ => .fail
noncomputable def impl_mul_tab : List (FuncId × DFn × Bool) := []
theorem impl_mul_hO : OrcOk Try.prog (tabD impl_mul_tab) (tabM impl_mul_tab) := tabD_nil _
noncomputable def impl_mul_T (v404 : Nat) (v405 : Nat) : Tree (Nat) :=
  .leaf (fmul .f32 v404 v405)

noncomputable def impl_mul_g (v404 : Nat) (v405 : Nat) : Option (Nat) := (impl_mul_T v404 v405).run
def impl_mul_enc (v404 : Nat) (v405 : Nat) (y : Nat) : Rs := (.flt .f32 y, [])
theorem impl_mul_den (v404 : Nat) (v405 : Nat) : (den TT (tabD impl_mul_tab) (tabM impl_mul_tab) (impl_mul_LO v404 v405) (codeOf Try.f65) ([.flt .f32 v404, .flt .f32 v405] ++ List.replicate (Try.f65.ntmps - ([.flt .f32 v404, .flt .f32 v405] : List DV).length) .undef) []).bind (retD TT Try.f65.results.toList 0) = (impl_mul_T v404 v405).bind fun y => .leaf (impl_mul_enc v404 v405 y) := by kernel_rfl
theorem impl_mul_fn (v404 : Nat) (v405 : Nat) (F : Fr) (hm : F.ids.length = 0) (h0 : St F [] F.H0) (hA : DVs.Ok F [] [.flt .f32 v404, .flt .f32 v405]) {y : Nat} (hy : impl_mul_g v404 v405 = some y) : ∃ H', FnOk Try.prog 65 (DVs.av F [.flt .f32 v404, .flt .f32 v405]) F.H0 ((impl_mul_enc v404 v405 y).1.av F) H' ∧ St F (impl_mul_enc v404 v405 y).2 H' ∧ (impl_mul_enc v404 v405 y).1.Ok F (impl_mul_enc v404 v405 y).2 :=
  fn_fin tok impl_mul_hO mixed Try.func65 Try.call65 (by kernel_rfl) (LoopsOk_eq (l := []) (by kernel_rfl) trivial) (impl_mul_den v404 v405) hy hm h0 hA
def impl_mul_v (v404 : Nat) (v405 : Nat) : Nat :=
  fmul .f32 v404 v405
theorem impl_mul_tot (v404 : Nat) (v405 : Nat) : impl_mul_g v404 v405 = some (impl_mul_v v404 v405) := by
  unfold impl_mul_g impl_mul_T impl_mul_v
  simp only [Tree.run]
  repeat' (first | rfl | split)
noncomputable def impl_mul_F : DFn := fun args L =>
  match args with
  | [.flt .f32 v404, .flt .f32 v405] =>
    .leaf (.flt .f32 (impl_mul_v v404 v405), L)
  | _ => .fail
theorem impl_mul_Fok : COk Try.prog 65 impl_mul_F true := by
  intro F L H args r L' hs ha hr
  unfold impl_mul_F at hr
  split at hr
  · rename_i v404 v405
    have hy := impl_mul_tot v404 v405
    generalize impl_mul_v v404 v405 = y at hy hr
    simp only [Tree.run, Option.some.injEq, Prod.mk.injEq] at hr
    obtain ⟨rfl, rfl⟩ := hr
    exact call_ok0 hs (fun k => (([] : List AV)[k]?).getD .top) [.flt .f32 v404, .flt .f32 v405] [.flt .f32 v404, .flt .f32 v405] (fun F' h0 hi hρ => ⟨by simp [DVs.av, DV.av, BR.av, hρ], impl_mul_fn v404 v405 F' (by rw [hi]; rfl) (st_nil hi) ⟨trivial, trivial, trivial⟩ hy⟩) rfl
  · cases hr
/-! impl.RootNumber -/
noncomputable def impl_RootNumber_LO (v406 : Nat) : LOr := fun id e L =>
  match id with
  | _ => .fail
noncomputable def impl_RootNumber_tab : List (FuncId × DFn × Bool) := [(157, math_Sqrt_F, true)]
theorem impl_RootNumber_hO : OrcOk Try.prog (tabD impl_RootNumber_tab) (tabM impl_RootNumber_tab) := tabD_cons math_Sqrt_Fok (tabD_nil _)
noncomputable def impl_RootNumber_T (v406 : Nat) : Tree (Nat) :=
  (.call (fconv .f64 (math_Sqrt_v (wid v406)) .f32) fun v407 =>
  .leaf v407)

noncomputable def impl_RootNumber_g (v406 : Nat) : Option (Nat) := (impl_RootNumber_T v406).run
def impl_RootNumber_enc (v406 : Nat) (y : Nat) : Rs := (.flt .f32 y, [])
theorem impl_RootNumber_den (v406 : Nat) : (den TT (tabD impl_RootNumber_tab) (tabM impl_RootNumber_tab) (impl_RootNumber_LO v406) (codeOf Try.f114) ([.flt .f32 v406] ++ List.replicate (Try.f114.ntmps - ([.flt .f32 v406] : List DV).length) .undef) []).bind (retD TT Try.f114.results.toList 0) = (impl_RootNumber_T v406).bind fun y => .leaf (impl_RootNumber_enc v406 y) := by kernel_rfl
theorem impl_RootNumber_fn (v406 : Nat) (F : Fr) (hm : F.ids.length = 0) (h0 : St F [] F.H0) (hA : DVs.Ok F [] [.flt .f32 v406]) {y : Nat} (hy : impl_RootNumber_g v406 = some y) : ∃ H', FnOk Try.prog 114 (DVs.av F [.flt .f32 v406]) F.H0 ((impl_RootNumber_enc v406 y).1.av F) H' ∧ St F (impl_RootNumber_enc v406 y).2 H' ∧ (impl_RootNumber_enc v406 y).1.Ok F (impl_RootNumber_enc v406 y).2 :=
  fn_fin tok impl_RootNumber_hO mixed Try.func114 Try.call114 (by kernel_rfl) (LoopsOk_eq (l := []) (by kernel_rfl) trivial) (impl_RootNumber_den v406) hy hm h0 hA
noncomputable def impl_RootNumber_F : DFn := fun args L =>
  match args with
  | [.flt .f32 v406] =>
    .call (impl_RootNumber_g v406) fun y => .leaf (.flt .f32 y, L)
  | _ => .fail
theorem impl_RootNumber_Fok : COk Try.prog 114 impl_RootNumber_F true := by
  intro F L H args r L' hs ha hr
  unfold impl_RootNumber_F at hr
  split at hr
  · rename_i v406
    simp only [Tree.run] at hr
    obtain ⟨y, hy, hr⟩ := Option.bind_eq_some_iff.1 hr
    simp only [Tree.run, Option.some.injEq, Prod.mk.injEq] at hr
    obtain ⟨rfl, rfl⟩ := hr
    exact call_ok0 hs (fun k => (([] : List AV)[k]?).getD .top) [.flt .f32 v406] [.flt .f32 v406] (fun F' h0 hi hρ => ⟨by simp [DVs.av, DV.av, BR.av, hρ], impl_RootNumber_fn v406 F' (by rw [hi]; rfl) (st_nil hi) ⟨trivial, trivial⟩ hy⟩) rfl
  · cases hr
/-! (impl.Matrix).valid -/
noncomputable def impl_Matrix_valid_LO (v516 : Int) (v517 : Int) (v518 : List Nat) : LOr := fun id e L =>
  match id with
  | _ => .fail
noncomputable def impl_Matrix_valid_tab : List (FuncId × DFn × Bool) := [(67, impl_ValidMatrix_F, true)]
theorem impl_Matrix_valid_hO : OrcOk Try.prog (tabD impl_Matrix_valid_tab) (tabM impl_Matrix_valid_tab) := tabD_cons impl_ValidMatrix_Fok (tabD_nil _)
noncomputable def impl_Matrix_valid_T (v516 : Int) (v517 : Int) (v518 : List Nat) : Tree ((Unit) ⊕ (Int × Int)) :=
  (.call (impl_ValidMatrix_g v516 v517 v518) fun v519 =>
  (.br (!v519) (
   .leaf (.inl ())
  ) (
   .leaf (.inr (v516, v517))
  )))

noncomputable def impl_Matrix_valid_g (v516 : Int) (v517 : Int) (v518 : List Nat) : Option ((Unit) ⊕ (Int × Int)) := (impl_Matrix_valid_T v516 v517 v518).run
def impl_Matrix_valid_enc (v516 : Int) (v517 : Int) (v518 : List Nat) (y : (Unit) ⊕ (Int × Int)) : Rs := (match y with | .inl y => (.tup [.agg [.int .i64 (0 : Int), .int .i64 (0 : Int), .nilslc], .lit false], []) | .inr y => (.tup [.agg [.int .i64 y.1, .int .i64 y.2, .bslc (BR.root 0) (.f32 v518)], .lit true], []))
theorem impl_Matrix_valid_den (v516 : Int) (v517 : Int) (v518 : List Nat) : (den TT (tabD impl_Matrix_valid_tab) (tabM impl_Matrix_valid_tab) (impl_Matrix_valid_LO v516 v517 v518) (codeOf Try.f83) ([.agg [.int .i64 v516, .int .i64 v517, .bslc (BR.root 0) (.f32 v518)]] ++ List.replicate (Try.f83.ntmps - ([.agg [.int .i64 v516, .int .i64 v517, .bslc (BR.root 0) (.f32 v518)]] : List DV).length) .undef) []).bind (retD TT Try.f83.results.toList 0) = (impl_Matrix_valid_T v516 v517 v518).bind fun y => .leaf (impl_Matrix_valid_enc v516 v517 v518 y) := by kernel_rfl
theorem impl_Matrix_valid_fn (v516 : Int) (v517 : Int) (v518 : List Nat) (F : Fr) (hm : F.ids.length = 0) (h0 : St F [] F.H0) (hA : DVs.Ok F [] [.agg [.int .i64 v516, .int .i64 v517, .bslc (BR.root 0) (.f32 v518)]]) {y : (Unit) ⊕ (Int × Int)} (hy : impl_Matrix_valid_g v516 v517 v518 = some y) : ∃ H', FnOk Try.prog 83 (DVs.av F [.agg [.int .i64 v516, .int .i64 v517, .bslc (BR.root 0) (.f32 v518)]]) F.H0 ((impl_Matrix_valid_enc v516 v517 v518 y).1.av F) H' ∧ St F (impl_Matrix_valid_enc v516 v517 v518 y).2 H' ∧ (impl_Matrix_valid_enc v516 v517 v518 y).1.Ok F (impl_Matrix_valid_enc v516 v517 v518 y).2 :=
  fn_fin tok impl_Matrix_valid_hO mixed Try.func83 Try.call83 (by kernel_rfl) (LoopsOk_eq (l := []) (by kernel_rfl) trivial) (impl_Matrix_valid_den v516 v517 v518) hy hm h0 hA
noncomputable def impl_Matrix_valid_F : DFn := fun args L =>
  match args with
  | [.agg [.int .i64 v516, .int .i64 v517, a1]] =>
    optT (rowF32 L a1) fun v518 =>
    .call (impl_Matrix_valid_g v516 v517 v518) fun y => .sum y (fun y0 => .leaf (.tup [.agg [.int .i64 (0 : Int), .int .i64 (0 : Int), .nilslc], .lit false], L)) (fun z0 => .leaf (.tup [.agg [.int .i64 z0.1, .int .i64 z0.2, a1], .lit true], L))
  | _ => .fail
theorem impl_Matrix_valid_Fok : COk Try.prog 83 impl_Matrix_valid_F true := by
  intro F L H args r L' hs ha hr
  unfold impl_Matrix_valid_F at hr
  split at hr
  · rename_i v516 v517 a1
    obtain ⟨v518, hv518, hr⟩ := optT_run hr
    simp only [Tree.run] at hr
    obtain ⟨y, hy, hr⟩ := Option.bind_eq_some_iff.1 hr
    cases y with
    | inl y =>
      simp only [Tree.run, Option.some.injEq, Prod.mk.injEq] at hr
      obtain ⟨rfl, rfl⟩ := hr
      exact call_ok0 hs (fun k => (([a1.av F] : List AV)[k]?).getD .top) [.agg [.int .i64 v516, .int .i64 v517, a1]] [.agg [.int .i64 v516, .int .i64 v517, .bslc (BR.root 0) (.f32 v518)]] (fun F' h0 hi hρ => ⟨by simp [DVs.av, DV.av, BR.av, hρ], impl_Matrix_valid_fn v516 v517 v518 F' (by rw [hi]; rfl) (st_nil hi) ⟨⟨trivial, trivial, bslc_ok hi (by rw [h0, hρ]; exact rowF32_ok hs (DVs.okAt (DVs.okAt ha 0 rfl) 2 rfl) hv518), trivial⟩, trivial⟩ hy⟩) rfl
    | inr y =>
      simp only [Tree.run, Option.some.injEq, Prod.mk.injEq] at hr
      obtain ⟨rfl, rfl⟩ := hr
      exact call_al0 hs (fun k => (([a1.av F] : List AV)[k]?).getD .top) [.agg [.int .i64 v516, .int .i64 v517, a1]] [.agg [.int .i64 v516, .int .i64 v517, .bslc (BR.root 0) (.f32 v518)]] (fun F' h0 hi hρ => ⟨by simp [DVs.av, DV.av, BR.av, hρ], impl_Matrix_valid_fn v516 v517 v518 F' (by rw [hi]; rfl) (st_nil hi) ⟨⟨trivial, trivial, bslc_ok hi (by rw [h0, hρ]; exact rowF32_ok hs (DVs.okAt (DVs.okAt ha 0 rfl) 2 rfl) hv518), trivial⟩, trivial⟩ hy⟩) (fun F' h0 hi hρ => by simp [impl_Matrix_valid_enc, DVs.av, DV.av, BR.av, hρ]) ⟨⟨trivial, trivial, (DVs.okAt (DVs.okAt ha 0 rfl) 2 rfl), trivial⟩, trivial, trivial⟩
  · cases hr
/-! impl.AddRow -/
noncomputable def impl_AddRow_l2_T (v504 : Int) (v505 : Nat) (v506 : Nat) (v508 : Int) (v509 : Int) (s : Int × (List Nat) × (List Nat)) : Tree ((Int × (List Nat) × (List Nat)) ⊕ ((List Nat) × (List Nat))) :=
  (.br (decide (s.1 < v509)) (
   (.call (impl_Matrix_at_g v509 s.2.2 v504 s.1) fun v512 =>
   (.grd (inb s.1 ((s.2.1).length)) <|
   (.call (impl_Matrix_set_g v509 s.2.2 v504 s.1) fun v513 =>
   (.grd (decide ((List.set s.2.2 (Int.toNat (IntKind.i64.wrap ((IntKind.i64.wrap (v504 * v509)) + s.1))) (fadd .f32 (impl_mul_v v505 v512) (impl_mul_v v506 (nth s.2.1 (Int.toNat s.1))))).length = s.2.2.length)) <|
   (.grd (inb s.1 ((s.2.1).length)) <|
   .leaf (.inl (IntKind.i64.wrap (s.1 + (1 : Int)), List.set s.2.1 (Int.toNat s.1) (fsub .f32 (impl_mul_v v505 (nth s.2.1 (Int.toNat s.1))) (impl_mul_v v506 v512)), List.set s.2.2 (Int.toNat (IntKind.i64.wrap ((IntKind.i64.wrap (v504 * v509)) + s.1))) (fadd .f32 (impl_mul_v v505 v512) (impl_mul_v v506 (nth s.2.1 (Int.toNat s.1)))))))))))
  ) (
   .leaf (.inr (s.2.1, s.2.2))
  ))

noncomputable def impl_AddRow_l2_g (v504 : Int) (v505 : Nat) (v506 : Nat) (v508 : Int) (v509 : Int) (s0 : Int × (List Nat) × (List Nat)) : Option ((List Nat) × (List Nat)) := whileM (fun s => (impl_AddRow_l2_T v504 v505 v506 v508 v509 s).run) s0
def impl_AddRow_l2_E (v246 : Int) (v247 : Int) (v248 : List Nat) (v249 : List Nat) (v504 : Int) (v505 : Nat) (v506 : Nat) (v508 : Int) (v509 : Int) (s : Int × (List Nat) × (List Nat)) : Sd := ([.top, .top, .top, .top, .ptr 0 (0 : Nat) 0 (3 : Nat), .top, .ptr 1 (0 : Nat) 0 (3 : Nat), .own 2 0 ((s.2.1).length), .int .i64 v504, .top, .top, .top, .flt .f32 v505, .flt .f32 v506, .int .i64 s.1, .top, .top, .top, .top, .top, .top, .top, .top, .top, .top, .top, .top, .top, .top, .top, .top, .top, .top, .top, .top, .top, .top, .top, .int .i64 v508, .int .i64 v504, .top, .top, .top, .top, .top, .top, .top, .top, .top, .top, .top, .top, .top, .top, .top, .top, .top, .top, .top, .top, .top, .top, .top, .top, .top, .top, .top, .top, .top, .top, .top, .top, .top, .top, .top, .top, .top, .top, .top, .top, .top, .top, .top, .top, .top, .top, .top, .top, .top, .top, .top, .top, .top, .top, .top, .top, .top, .top, .top, .top, .top, .top, .top, .top, .top, .top, .top, .top], [.gen [.int .i64 (0 : Int), .int .i64 (0 : Int), .nilslc] false 0, .gen [.int .i64 v508, .int .i64 v509, .own 3 0 ((s.2.2).length)] false 0, .row (.f32 s.2.1) 0, .row (.f32 s.2.2) 0])
def impl_AddRow_l2_X (v246 : Int) (v247 : Int) (v248 : List Nat) (v249 : List Nat) (v504 : Int) (v505 : Nat) (v506 : Nat) (v508 : Int) (v509 : Int) (x : (List Nat) × (List Nat)) : Out := (.normal, [.top, .top, .top, .top, .ptr 0 (0 : Nat) 0 (3 : Nat), .top, .ptr 1 (0 : Nat) 0 (3 : Nat), .own 2 0 ((x.1).length), .top, .top, .top, .top, .top, .top, .top, .top, .top, .top, .top, .top, .top, .top, .top, .top, .top, .top, .top, .top, .top, .top, .top, .top, .top, .top, .top, .top, .top, .top, .int .i64 v508, .int .i64 v504, .top, .top, .top, .top, .top, .top, .top, .top, .top, .top, .top, .top, .top, .top, .top, .top, .top, .top, .top, .top, .top, .top, .top, .top, .top, .top, .top, .top, .top, .top, .top, .top, .top, .top, .top, .top, .top, .top, .top, .top, .top, .top, .top, .top, .top, .top, .top, .top, .top, .top, .top, .top, .top, .top, .top, .top, .top, .top, .top, .top, .top, .top, .top, .top, .top, .top, .top, .top], [.gen [.int .i64 (0 : Int), .int .i64 (0 : Int), .nilslc] false 0, .gen [.int .i64 v508, .int .i64 v509, .own 3 0 ((x.2).length)] false 0, .row (.f32 x.1) 0, .row (.f32 x.2) 0])
def impl_AddRow_l2_kill : List Nat := [1, 1, 1, 1, 0, 1, 0, 0, 0, 1, 1, 1, 0, 0, 0, 1, 1, 1, 1, 1, 1, 1, 1, 1, 1, 1, 1, 1, 1, 1, 1, 1, 1, 1, 1, 1, 1, 1, 0, 0, 1, 1, 1, 1, 1, 1, 1, 1, 1, 1, 1, 1, 1, 1, 1, 1, 1, 1, 1, 1, 1, 1, 1, 1, 1, 1, 1, 1, 1, 1, 1, 1, 1, 1, 1, 1, 1, 1, 1, 1, 1, 1, 1, 1, 1, 1, 1, 1, 1, 1, 1, 1, 1, 1, 1, 1, 1, 1, 1, 1, 1, 1, 1, 1, 1, 1, 1, 1]
def impl_AddRow_l2_nx : Exit → List Nat
  | .exit 0 => [1, 1, 1, 1, 0, 1, 0, 1, 1, 1, 1, 1, 1, 1, 1, 1, 1, 1, 1, 1, 1, 1, 1, 1, 1, 1, 1, 1, 1, 1, 1, 1, 1, 1, 1, 1, 1, 1, 1, 1, 1, 1, 1, 1, 1, 1, 1, 1, 1, 1, 1, 1, 1, 1, 1, 1, 1, 1, 1, 1, 1, 1, 1, 1, 1, 1, 1, 1, 1, 1, 1, 1, 1, 1, 1, 1, 1, 1, 1, 1, 1, 1, 1, 1, 1, 1, 1, 1, 1, 1, 1, 1, 1, 1, 1, 1, 1, 1, 1, 1, 1, 1, 1, 1, 1, 1, 1, 1]
  | .exit 1 => [1, 1, 1, 1, 0, 1, 0, 0, 1, 1, 1, 1, 1, 1, 1, 1, 1, 1, 1, 1, 1, 1, 1, 1, 1, 1, 1, 1, 1, 1, 1, 1, 1, 1, 1, 1, 1, 1, 0, 0, 1, 1, 1, 1, 1, 1, 1, 1, 1, 1, 1, 1, 1, 1, 1, 1, 1, 1, 1, 1, 1, 1, 1, 1, 1, 1, 1, 1, 1, 1, 1, 1, 1, 1, 1, 1, 1, 1, 1, 1, 1, 1, 1, 1, 1, 1, 1, 1, 1, 1, 1, 1, 1, 1, 1, 1, 1, 1, 1, 1, 1, 1, 1, 1, 1, 1, 1, 1]
  | .exit 2 => [1, 1, 1, 1, 0, 1, 0, 0, 1, 1, 1, 1, 1, 1, 1, 1, 1, 1, 1, 1, 1, 1, 1, 1, 1, 1, 1, 1, 1, 1, 1, 1, 1, 1, 1, 1, 1, 1, 0, 0, 1, 1, 1, 1, 1, 1, 1, 1, 1, 1, 1, 1, 1, 1, 1, 1, 1, 1, 1, 1, 1, 1, 1, 1, 1, 1, 1, 1, 1, 1, 1, 1, 1, 1, 1, 1, 1, 1, 1, 1, 1, 1, 1, 1, 1, 1, 1, 1, 1, 1, 1, 1, 1, 1, 1, 1, 1, 1, 1, 1, 1, 1, 1, 1, 1, 1, 1, 1]
  | .ret => [1, 1, 1, 1, 0, 0, 1, 1, 1, 1, 1, 1, 1, 1, 1, 1, 1, 1, 1, 1, 1, 1, 1, 1, 1, 1, 1, 1, 1, 1, 1, 1, 1, 1, 1, 1, 1, 1, 1, 1, 1, 1, 1, 1, 1, 1, 1, 1, 1, 1, 1, 1, 1, 1, 1, 1, 1, 1, 1, 1, 1, 1, 1, 1, 1, 1, 1, 1, 1, 1, 1, 1, 1, 1, 1, 1, 1, 1, 1, 1, 1, 1, 1, 1, 1, 1, 1, 1, 1, 1, 1, 1, 1, 1, 1, 1, 1, 1, 1, 1, 1, 1, 1, 1, 1, 1, 1, 1]
  | _ => []
noncomputable def impl_AddRow_l0_T (v246 : Int) (v247 : Int) (v248 : List Nat) (v249 : List Nat) (v477 : Int) (v479 : Int) (s : Int × (List Nat) × (List Nat)) : Tree ((Int × (List Nat) × (List Nat)) ⊕ ((List Nat))) :=
  (.br (decide (s.1 < v477)) (
   (.call (impl_Matrix_at_g v479 s.2.2 s.1 s.1) fun v482 =>
   (.grd (inb s.1 ((s.2.1).length)) <|
   (.call (impl_RootNumber_g (fadd .f32 (impl_mul_v v482 v482) (impl_mul_v (nth s.2.1 (Int.toNat s.1)) (nth s.2.1 (Int.toNat s.1))))) fun v483 =>
   (.br (!(fgrt .f32 v483 (0 : Nat))) (
    .leaf (.inl (IntKind.i64.wrap (s.1 + (1 : Int)), s.2.1, s.2.2))
   ) (
    (.need (some (impl_AddRow_l2_E v246 v247 v248 v249 s.1 (fdiv .f32 v482 v483) (fdiv .f32 (nth s.2.1 (Int.toNat s.1)) v483) v477 v479 (s.1, s.2.1, s.2.2)) = some (impl_AddRow_l2_E v246 v247 v248 v249 s.1 (fdiv .f32 v482 v483) (fdiv .f32 (nth s.2.1 (Int.toNat s.1)) v483) v477 v479 (s.1, s.2.1, s.2.2))) <|
    (.call (impl_AddRow_l2_g s.1 (fdiv .f32 v482 v483) (fdiv .f32 (nth s.2.1 (Int.toNat s.1)) v483) v477 v479 (s.1, s.2.1, s.2.2)) fun v514 =>
    .leaf (.inl (IntKind.i64.wrap (s.1 + (1 : Int)), v514.1, v514.2))))
   )))))
  ) (
   .leaf (.inr s.2.2)
  ))

noncomputable def impl_AddRow_l0_g (v246 : Int) (v247 : Int) (v248 : List Nat) (v249 : List Nat) (v477 : Int) (v479 : Int) (s0 : Int × (List Nat) × (List Nat)) : Option ((List Nat)) := whileM (fun s => (impl_AddRow_l0_T v246 v247 v248 v249 v477 v479 s).run) s0
def impl_AddRow_l0_E (v246 : Int) (v247 : Int) (v248 : List Nat) (v249 : List Nat) (v477 : Int) (v479 : Int) (s : Int × (List Nat) × (List Nat)) : Sd := ([.top, .top, .top, .top, .ptr 0 (0 : Nat) 0 (3 : Nat), .top, .ptr 1 (0 : Nat) 0 (3 : Nat), .own 2 0 ((s.2.1).length), .top, .top, .top, .top, .top, .top, .top, .top, .top, .top, .top, .top, .top, .top, .top, .top, .top, .top, .top, .top, .top, .top, .top, .top, .top, .top, .top, .top, .top, .top, .int .i64 v477, .int .i64 s.1, .top, .top, .top, .top, .top, .top, .top, .top, .top, .top, .top, .top, .top, .top, .top, .top, .top, .top, .top, .top, .top, .top, .top, .top, .top, .top, .top, .top, .top, .top, .top, .top, .top, .top, .top, .top, .top, .top, .top, .top, .top, .top, .top, .top, .top, .top, .top, .top, .top, .top, .top, .top, .top, .top, .top, .top, .top, .top, .top, .top, .top, .top, .top, .top, .top, .top, .top, .top], [.gen [.int .i64 (0 : Int), .int .i64 (0 : Int), .nilslc] false 0, .gen [.int .i64 v477, .int .i64 v479, .own 3 0 ((s.2.2).length)] false 0, .row (.f32 s.2.1) 0, .row (.f32 s.2.2) 0])
def impl_AddRow_l0_X (v246 : Int) (v247 : Int) (v248 : List Nat) (v249 : List Nat) (v477 : Int) (v479 : Int) (x : (List Nat)) : Out := (.normal, [.top, .top, .top, .top, .ptr 0 (0 : Nat) 0 (3 : Nat), .top, .ptr 1 (0 : Nat) 0 (3 : Nat), .top, .top, .top, .top, .top, .top, .top, .top, .top, .top, .top, .top, .top, .top, .top, .top, .top, .top, .top, .top, .top, .top, .top, .top, .top, .top, .top, .top, .top, .top, .top, .top, .top, .top, .top, .top, .top, .top, .top, .top, .top, .top, .top, .top, .top, .top, .top, .top, .top, .top, .top, .top, .top, .top, .top, .top, .top, .top, .top, .top, .top, .top, .top, .top, .top, .top, .top, .top, .top, .top, .top, .top, .top, .top, .top, .top, .top, .top, .top, .top, .top, .top, .top, .top, .top, .top, .top, .top, .top, .top, .top, .top, .top, .top, .top, .top, .top, .top, .top, .top, .top], [.gen [.int .i64 (0 : Int), .int .i64 (0 : Int), .nilslc] false 0, .gen [.int .i64 v477, .int .i64 v479, .own 2 0 ((x).length)] false 0, .row (.f32 x) 0])
def impl_AddRow_l0_kill : List Nat := [1, 1, 1, 1, 0, 1, 0, 0, 1, 1, 1, 1, 1, 1, 1, 1, 1, 1, 1, 1, 1, 1, 1, 1, 1, 1, 1, 1, 1, 1, 1, 1, 1, 1, 1, 1, 1, 1, 0, 0, 1, 1, 1, 1, 1, 1, 1, 1, 1, 1, 1, 1, 1, 1, 1, 1, 1, 1, 1, 1, 1, 1, 1, 1, 1, 1, 1, 1, 1, 1, 1, 1, 1, 1, 1, 1, 1, 1, 1, 1, 1, 1, 1, 1, 1, 1, 1, 1, 1, 1, 1, 1, 1, 1, 1, 1, 1, 1, 1, 1, 1, 1, 1, 1, 1, 1, 1, 1]
def impl_AddRow_l0_nx : Exit → List Nat
  | .exit 0 => [1, 1, 1, 1, 0, 1, 0, 1, 1, 1, 1, 1, 1, 1, 1, 1, 1, 1, 1, 1, 1, 1, 1, 1, 1, 1, 1, 1, 1, 1, 1, 1, 1, 1, 1, 1, 1, 1, 1, 1, 1, 1, 1, 1, 1, 1, 1, 1, 1, 1, 1, 1, 1, 1, 1, 1, 1, 1, 1, 1, 1, 1, 1, 1, 1, 1, 1, 1, 1, 1, 1, 1, 1, 1, 1, 1, 1, 1, 1, 1, 1, 1, 1, 1, 1, 1, 1, 1, 1, 1, 1, 1, 1, 1, 1, 1, 1, 1, 1, 1, 1, 1, 1, 1, 1, 1, 1, 1]
  | .ret => [1, 1, 1, 1, 0, 0, 1, 1, 1, 1, 1, 1, 1, 1, 1, 1, 1, 1, 1, 1, 1, 1, 1, 1, 1, 1, 1, 1, 1, 1, 1, 1, 1, 1, 1, 1, 1, 1, 1, 1, 1, 1, 1, 1, 1, 1, 1, 1, 1, 1, 1, 1, 1, 1, 1, 1, 1, 1, 1, 1, 1, 1, 1, 1, 1, 1, 1, 1, 1, 1, 1, 1, 1, 1, 1, 1, 1, 1, 1, 1, 1, 1, 1, 1, 1, 1, 1, 1, 1, 1, 1, 1, 1, 1, 1, 1, 1, 1, 1, 1, 1, 1, 1, 1, 1, 1, 1, 1]
  | _ => []
noncomputable def impl_AddRow_LO (v246 : Int) (v247 : Int) (v248 : List Nat) (v249 : List Nat) : LOr := fun id e L =>
  match id with
  | 2 => .need (normA 0 impl_AddRow_l2_kill e L = some (impl_AddRow_l2_E v246 v247 v248 v249 (gI (vAt e 8)) (gF (vAt e 12)) (gF (vAt e 13)) (gI (vAt e 38)) (gI (cAt L (vAt e 6) 1)) ((gI (vAt e 14)), (gRF L (vAt e 7)), (gRF L (cAt L (vAt e 6) 2))))) (.call (impl_AddRow_l2_g (gI (vAt e 8)) (gF (vAt e 12)) (gF (vAt e 13)) (gI (vAt e 38)) (gI (cAt L (vAt e 6) 1)) ((gI (vAt e 14)), (gRF L (vAt e 7)), (gRF L (cAt L (vAt e 6) 2)))) fun x => .leaf (impl_AddRow_l2_X v246 v247 v248 v249 (gI (vAt e 8)) (gF (vAt e 12)) (gF (vAt e 13)) (gI (vAt e 38)) (gI (cAt L (vAt e 6) 1)) x))
  | 0 => .need (normA 0 impl_AddRow_l0_kill e L = some (impl_AddRow_l0_E v246 v247 v248 v249 (gI (vAt e 38)) (gI (cAt L (vAt e 6) 1)) ((gI (vAt e 39)), (gRF L (vAt e 7)), (gRF L (cAt L (vAt e 6) 2))))) (.call (impl_AddRow_l0_g v246 v247 v248 v249 (gI (vAt e 38)) (gI (cAt L (vAt e 6) 1)) ((gI (vAt e 39)), (gRF L (vAt e 7)), (gRF L (cAt L (vAt e 6) 2)))) fun x => .leaf (impl_AddRow_l0_X v246 v247 v248 v249 (gI (vAt e 38)) (gI (cAt L (vAt e 6) 1)) x))
  | _ => .fail
noncomputable def impl_AddRow_tab : List (FuncId × DFn × Bool) := [(62, impl_isSquare_F, true), (111, impl_IsVector_F, true), (112, impl_lengthF_F, true), (113, impl_Matrix_upper_F, true), (105, slices_CloneF_F, true), (64, impl_Matrix_at_F, true), (65, impl_mul_F, true), (114, impl_RootNumber_F, true), (66, impl_Matrix_set_F, false), (83, impl_Matrix_valid_F, true)]
theorem impl_AddRow_hO : OrcOk Try.prog (tabD impl_AddRow_tab) (tabM impl_AddRow_tab) := tabD_cons impl_isSquare_Fok (tabD_cons impl_IsVector_Fok (tabD_cons impl_lengthF_Fok (tabD_cons impl_Matrix_upper_Fok (tabD_cons slices_CloneF_Fok (tabD_cons impl_Matrix_at_Fok (tabD_cons impl_mul_Fok (tabD_cons impl_RootNumber_Fok (tabD_cons impl_Matrix_set_Fok (tabD_cons impl_Matrix_valid_Fok (tabD_nil _))))))))))
theorem impl_AddRow_l2_be (v246 : Int) (v247 : Int) (v248 : List Nat) (v249 : List Nat) (v504 : Int) (v505 : Nat) (v506 : Nat) (v508 : Int) (v509 : Int) (s : Int × (List Nat) × (List Nat)) : bodyT TT (tabD impl_AddRow_tab) (tabM impl_AddRow_tab) (impl_AddRow_LO v246 v247 v248 v249) 0 impl_AddRow_l2_kill impl_AddRow_l2_nx (bodyOf Try.f49 2) 2 (impl_AddRow_l2_E v246 v247 v248 v249 v504 v505 v506 v508 v509 s) = (impl_AddRow_l2_T v504 v505 v506 v508 v509 s).bind fun y => .leaf (outS (impl_AddRow_l2_E v246 v247 v248 v249 v504 v505 v506 v508 v509) (impl_AddRow_l2_X v246 v247 v248 v249 v504 v505 v506 v508 v509) y) := by kernel_rfl
theorem impl_AddRow_l2_ok (v246 : Int) (v247 : Int) (v248 : List Nat) (v249 : List Nat) : LSound Try.prog 0 (impl_AddRow_LO v246 v247 v248 v249) 2 (bodyOf Try.f49 2) := by
  intro e L out h
  exact lo_ok (E := impl_AddRow_l2_E v246 v247 v248 v249 (gI (vAt e 8)) (gF (vAt e 12)) (gF (vAt e 13)) (gI (vAt e 38)) (gI (cAt L (vAt e 6) 1))) (gT := impl_AddRow_l2_T (gI (vAt e 8)) (gF (vAt e 12)) (gF (vAt e 13)) (gI (vAt e 38)) (gI (cAt L (vAt e 6) 1))) (X := impl_AddRow_l2_X v246 v247 v248 v249 (gI (vAt e 8)) (gF (vAt e 12)) (gF (vAt e 13)) (gI (vAt e 38)) (gI (cAt L (vAt e 6) 1))) (s0 := ((gI (vAt e 14)), (gRF L (vAt e 7)), (gRF L (cAt L (vAt e 6) 2)))) tok impl_AddRow_hO mixed (LoopsOk_eq (l := []) (by kernel_rfl) trivial) (impl_AddRow_l2_be v246 v247 v248 v249 (gI (vAt e 8)) (gF (vAt e 12)) (gF (vAt e 13)) (gI (vAt e 38)) (gI (cAt L (vAt e 6) 1))) rfl (by intro x; rfl) h
theorem impl_AddRow_l0_be (v246 : Int) (v247 : Int) (v248 : List Nat) (v249 : List Nat) (v477 : Int) (v479 : Int) (s : Int × (List Nat) × (List Nat)) : bodyT TT (tabD impl_AddRow_tab) (tabM impl_AddRow_tab) (impl_AddRow_LO v246 v247 v248 v249) 0 impl_AddRow_l0_kill impl_AddRow_l0_nx (bodyOf Try.f49 0) 0 (impl_AddRow_l0_E v246 v247 v248 v249 v477 v479 s) = (impl_AddRow_l0_T v246 v247 v248 v249 v477 v479 s).bind fun y => .leaf (outS (impl_AddRow_l0_E v246 v247 v248 v249 v477 v479) (impl_AddRow_l0_X v246 v247 v248 v249 v477 v479) y) := by kernel_rfl
theorem impl_AddRow_l0_ok (v246 : Int) (v247 : Int) (v248 : List Nat) (v249 : List Nat) : LSound Try.prog 0 (impl_AddRow_LO v246 v247 v248 v249) 0 (bodyOf Try.f49 0) := by
  intro e L out h
  exact lo_ok (E := impl_AddRow_l0_E v246 v247 v248 v249 (gI (vAt e 38)) (gI (cAt L (vAt e 6) 1))) (gT := impl_AddRow_l0_T v246 v247 v248 v249 (gI (vAt e 38)) (gI (cAt L (vAt e 6) 1))) (X := impl_AddRow_l0_X v246 v247 v248 v249 (gI (vAt e 38)) (gI (cAt L (vAt e 6) 1))) (s0 := ((gI (vAt e 39)), (gRF L (vAt e 7)), (gRF L (cAt L (vAt e 6) 2)))) tok impl_AddRow_hO mixed (LoopsOk_eq (l := [(2, bodyOf Try.f49 2)]) (by kernel_rfl) ⟨impl_AddRow_l2_ok v246 v247 v248 v249, trivial⟩) (impl_AddRow_l0_be v246 v247 v248 v249 (gI (vAt e 38)) (gI (cAt L (vAt e 6) 1))) rfl (by intro x; rfl) h
noncomputable def impl_AddRow_T (v246 : Int) (v247 : Int) (v248 : List Nat) (v249 : List Nat) : Tree ((Unit) ⊕ (Int × Int × (List Nat))) :=
  (.call (impl_isSquare_g v246 v247 v248) fun v280 =>
  (.br (!v280) (
   .leaf (.inl ())
  ) (
   (.call (impl_IsVector_g v249) fun v283 =>
   (.br (!v283) (
    .leaf (.inl ())
   ) (
    (.br (!decide ((impl_lengthF_v v249) = v247)) (
     .leaf (.inl ())
    ) (
     (.call (impl_Matrix_upper_g v246 v247 v248) fun v396 =>
     (.call (slices_CloneF_g v249) fun v398 =>
     (.need (some (impl_AddRow_l0_E v246 v247 v248 v249 v396.1 v396.2.1 ((0 : Int), ([] : List Nat) ++ v249, v396.2.2)) = some (impl_AddRow_l0_E v246 v247 v248 v249 v396.1 v396.2.1 ((0 : Int), ([] : List Nat) ++ v249, v396.2.2))) <|
     (.call (impl_AddRow_l0_g v246 v247 v248 v249 v396.1 v396.2.1 ((0 : Int), ([] : List Nat) ++ v249, v396.2.2)) fun v515 =>
     (.call (impl_Matrix_valid_g v396.1 v396.2.1 v515) fun v520 =>
     (.sum v520 (fun v521 =>
      .leaf (.inl ())
     ) (fun v522 =>
      .leaf (.inr (v522.1, v522.2, v515))
     )))))))
    ))
   )))
  )))

noncomputable def impl_AddRow_g (v246 : Int) (v247 : Int) (v248 : List Nat) (v249 : List Nat) : Option ((Unit) ⊕ (Int × Int × (List Nat))) := (impl_AddRow_T v246 v247 v248 v249).run
def impl_AddRow_enc (v246 : Int) (v247 : Int) (v248 : List Nat) (v249 : List Nat) (y : (Unit) ⊕ (Int × Int × (List Nat))) : Rs := (match y with | .inl y => (.tup [.agg [.int .i64 (0 : Int), .int .i64 (0 : Int), .nilslc], .lit false], []) | .inr y => (.tup [.agg [.int .i64 y.1, .int .i64 y.2.1, .own 0 0 ((y.2.2).length)], .lit true], [.row (.f32 y.2.2) 0]))
theorem impl_AddRow_den (v246 : Int) (v247 : Int) (v248 : List Nat) (v249 : List Nat) : (den TT (tabD impl_AddRow_tab) (tabM impl_AddRow_tab) (impl_AddRow_LO v246 v247 v248 v249) (codeOf Try.f49) ([.agg [.int .i64 v246, .int .i64 v247, .bslc (BR.root 0) (.f32 v248)], .bslc (BR.root 1) (.f32 v249)] ++ List.replicate (Try.f49.ntmps - ([.agg [.int .i64 v246, .int .i64 v247, .bslc (BR.root 0) (.f32 v248)], .bslc (BR.root 1) (.f32 v249)] : List DV).length) .undef) []).bind (retD TT Try.f49.results.toList 0) = (impl_AddRow_T v246 v247 v248 v249).bind fun y => .leaf (impl_AddRow_enc v246 v247 v248 v249 y) := by kernel_rfl
theorem impl_AddRow_fn (v246 : Int) (v247 : Int) (v248 : List Nat) (v249 : List Nat) (F : Fr) (hm : F.ids.length = 0) (h0 : St F [] F.H0) (hA : DVs.Ok F [] [.agg [.int .i64 v246, .int .i64 v247, .bslc (BR.root 0) (.f32 v248)], .bslc (BR.root 1) (.f32 v249)]) {y : (Unit) ⊕ (Int × Int × (List Nat))} (hy : impl_AddRow_g v246 v247 v248 v249 = some y) : ∃ H', FnOk Try.prog 49 (DVs.av F [.agg [.int .i64 v246, .int .i64 v247, .bslc (BR.root 0) (.f32 v248)], .bslc (BR.root 1) (.f32 v249)]) F.H0 ((impl_AddRow_enc v246 v247 v248 v249 y).1.av F) H' ∧ St F (impl_AddRow_enc v246 v247 v248 v249 y).2 H' ∧ (impl_AddRow_enc v246 v247 v248 v249 y).1.Ok F (impl_AddRow_enc v246 v247 v248 v249 y).2 :=
  fn_fin tok impl_AddRow_hO mixed Try.func49 Try.call49 (by kernel_rfl) (LoopsOk_eq (l := [(0, bodyOf Try.f49 0)]) (by kernel_rfl) ⟨impl_AddRow_l0_ok v246 v247 v248 v249, trivial⟩) (impl_AddRow_den v246 v247 v248 v249) hy hm h0 hA
noncomputable def impl_AddRow_F : DFn := fun args L =>
  match args with
  | [.agg [.int .i64 v246, .int .i64 v247, a1], a2] =>
    optT (rowF32 L a1) fun v248 =>
    optT (rowF32 L a2) fun v249 =>
    .call (impl_AddRow_g v246 v247 v248 v249) fun y => .sum y (fun y0 => .leaf (.tup [.agg [.int .i64 (0 : Int), .int .i64 (0 : Int), .nilslc], .lit false], L)) (fun z0 => .leaf (.tup [.agg [.int .i64 z0.1, .int .i64 z0.2.1, .own (L.length + 0) 0 ((z0.2.2).length)], .lit true], L ++ [.row (.f32 z0.2.2) 0]))
  | _ => .fail
theorem impl_AddRow_Fok : COk Try.prog 49 impl_AddRow_F true := by
  intro F L H args r L' hs ha hr
  unfold impl_AddRow_F at hr
  split at hr
  · rename_i v246 v247 a1 a2
    obtain ⟨v248, hv248, hr⟩ := optT_run hr
    obtain ⟨v249, hv249, hr⟩ := optT_run hr
    simp only [Tree.run] at hr
    obtain ⟨y, hy, hr⟩ := Option.bind_eq_some_iff.1 hr
    cases y with
    | inl y =>
      simp only [Tree.run, Option.some.injEq, Prod.mk.injEq] at hr
      obtain ⟨rfl, rfl⟩ := hr
      exact call_ok0 hs (fun k => (([a1.av F, a2.av F] : List AV)[k]?).getD .top) [.agg [.int .i64 v246, .int .i64 v247, a1], a2] [.agg [.int .i64 v246, .int .i64 v247, .bslc (BR.root 0) (.f32 v248)], .bslc (BR.root 1) (.f32 v249)] (fun F' h0 hi hρ => ⟨by simp [DVs.av, DV.av, BR.av, hρ], impl_AddRow_fn v246 v247 v248 v249 F' (by rw [hi]; rfl) (st_nil hi) ⟨⟨trivial, trivial, bslc_ok hi (by rw [h0, hρ]; exact rowF32_ok hs (DVs.okAt (DVs.okAt ha 0 rfl) 2 rfl) hv248), trivial⟩, bslc_ok hi (by rw [h0, hρ]; exact rowF32_ok hs (DVs.okAt ha 1 rfl) hv249), trivial⟩ hy⟩) rfl
    | inr y =>
      simp only [Tree.run, Option.some.injEq, Prod.mk.injEq] at hr
      obtain ⟨rfl, rfl⟩ := hr
      exact call_ok1 hs (fun k => (([a1.av F, a2.av F] : List AV)[k]?).getD .top) [.agg [.int .i64 v246, .int .i64 v247, a1], a2] [.agg [.int .i64 v246, .int .i64 v247, .bslc (BR.root 0) (.f32 v248)], .bslc (BR.root 1) (.f32 v249)] (fun F' h0 hi hρ => ⟨by simp [DVs.av, DV.av, BR.av, hρ], impl_AddRow_fn v246 v247 v248 v249 F' (by rw [hi]; rfl) (st_nil hi) ⟨⟨trivial, trivial, bslc_ok hi (by rw [h0, hρ]; exact rowF32_ok hs (DVs.okAt (DVs.okAt ha 0 rfl) 2 rfl) hv248), trivial⟩, bslc_ok hi (by rw [h0, hρ]; exact rowF32_ok hs (DVs.okAt ha 1 rfl) hv249), trivial⟩ hy⟩) rfl rfl
  · cases hr
/-! laws.sameFloat -/
noncomputable def laws_sameFloat_LO (v535 : Nat) (v536 : Nat) : LOr := fun id e L =>
  match id with
  | _ => .fail
noncomputable def laws_sameFloat_tab : List (FuncId × DFn × Bool) := []
theorem laws_sameFloat_hO : OrcOk Try.prog (tabD laws_sameFloat_tab) (tabM laws_sameFloat_tab) := tabD_nil _
noncomputable def laws_sameFloat_T (v535 : Nat) (v536 : Nat) : Tree (Bool) :=
  (.br (!feq .f64 v535 v535) (
   (.br (!feq .f64 v535 v535) (
    .leaf (!feq .f64 v536 v536)
   ) (
    .leaf false
   ))
  ) (
   (.br (!feq .f64 v536 v536) (
    (.br (!feq .f64 v535 v535) (
     .leaf (!feq .f64 v536 v536)
    ) (
     .leaf false
    ))
   ) (
    (.br (feq .f64 v535 (0 : Nat)) (
     (.br (feq .f64 v536 (0 : Nat)) (
      .leaf ((fgrt .f64 (fdiv .f64 (4607182418800017408 : Nat) v535) (0 : Nat)) == (fgrt .f64 (fdiv .f64 (4607182418800017408 : Nat) v536) (0 : Nat)))
     ) (
      .leaf (feq .f64 v535 v536)
     ))
    ) (
     .leaf (feq .f64 v535 v536)
    ))
   ))
  ))

noncomputable def laws_sameFloat_g (v535 : Nat) (v536 : Nat) : Option (Bool) := (laws_sameFloat_T v535 v536).run
def laws_sameFloat_enc (v535 : Nat) (v536 : Nat) (y : Bool) : Rs := (.bool y, [])
theorem laws_sameFloat_den (v535 : Nat) (v536 : Nat) : (den TT (tabD laws_sameFloat_tab) (tabM laws_sameFloat_tab) (laws_sameFloat_LO v535 v536) (codeOf Try.f31) ([.flt .f64 v535, .flt .f64 v536] ++ List.replicate (Try.f31.ntmps - ([.flt .f64 v535, .flt .f64 v536] : List DV).length) .undef) []).bind (retD TT Try.f31.results.toList 0) = (laws_sameFloat_T v535 v536).bind fun y => .leaf (laws_sameFloat_enc v535 v536 y) := by kernel_rfl
theorem laws_sameFloat_fn (v535 : Nat) (v536 : Nat) (F : Fr) (hm : F.ids.length = 0) (h0 : St F [] F.H0) (hA : DVs.Ok F [] [.flt .f64 v535, .flt .f64 v536]) {y : Bool} (hy : laws_sameFloat_g v535 v536 = some y) : ∃ H', FnOk Try.prog 31 (DVs.av F [.flt .f64 v535, .flt .f64 v536]) F.H0 ((laws_sameFloat_enc v535 v536 y).1.av F) H' ∧ St F (laws_sameFloat_enc v535 v536 y).2 H' ∧ (laws_sameFloat_enc v535 v536 y).1.Ok F (laws_sameFloat_enc v535 v536 y).2 :=
  fn_fin tok laws_sameFloat_hO mixed Try.func31 Try.call31 (by kernel_rfl) (LoopsOk_eq (l := []) (by kernel_rfl) trivial) (laws_sameFloat_den v535 v536) hy hm h0 hA
def laws_sameFloat_v (v535 : Nat) (v536 : Nat) : Bool :=
  if (!feq .f64 v535 v535) = true then (
   if (!feq .f64 v535 v535) = true then (
    !feq .f64 v536 v536
   ) else (
    false
   )
  ) else (
   if (!feq .f64 v536 v536) = true then (
    if (!feq .f64 v535 v535) = true then (
     !feq .f64 v536 v536
    ) else (
     false
    )
   ) else (
    if (feq .f64 v535 (0 : Nat)) = true then (
     if (feq .f64 v536 (0 : Nat)) = true then (
      (fgrt .f64 (fdiv .f64 (4607182418800017408 : Nat) v535) (0 : Nat)) == (fgrt .f64 (fdiv .f64 (4607182418800017408 : Nat) v536) (0 : Nat))
     ) else (
      feq .f64 v535 v536
     )
    ) else (
     feq .f64 v535 v536
    )
   )
  )
theorem laws_sameFloat_tot (v535 : Nat) (v536 : Nat) : laws_sameFloat_g v535 v536 = some (laws_sameFloat_v v535 v536) := by
  unfold laws_sameFloat_g laws_sameFloat_T laws_sameFloat_v
  simp only [Tree.run]
  repeat' (first | rfl | split)
noncomputable def laws_sameFloat_F : DFn := fun args L =>
  match args with
  | [.flt .f64 v535, .flt .f64 v536] =>
    .leaf (.bool (laws_sameFloat_v v535 v536), L)
  | _ => .fail
theorem laws_sameFloat_Fok : COk Try.prog 31 laws_sameFloat_F true := by
  intro F L H args r L' hs ha hr
  unfold laws_sameFloat_F at hr
  split at hr
  · rename_i v535 v536
    have hy := laws_sameFloat_tot v535 v536
    generalize laws_sameFloat_v v535 v536 = y at hy hr
    simp only [Tree.run, Option.some.injEq, Prod.mk.injEq] at hr
    obtain ⟨rfl, rfl⟩ := hr
    exact call_ok0 hs (fun k => (([] : List AV)[k]?).getD .top) [.flt .f64 v535, .flt .f64 v536] [.flt .f64 v535, .flt .f64 v536] (fun F' h0 hi hρ => ⟨by simp [DVs.av, DV.av, BR.av, hρ], laws_sameFloat_fn v535 v536 F' (by rw [hi]; rfl) (st_nil hi) ⟨trivial, trivial, trivial⟩ hy⟩) rfl
  · cases hr
/-! laws.eqFloat32S -/
noncomputable def laws_eqFloat32S_l0_T (v532 : List Nat) (v533 : List Nat) (s : Int) : Tree ((Int) ⊕ ((Unit) ⊕ (Unit))) :=
  (.br (decide (s < ((v532.length : Nat) : Int))) (
   (.grd (inb s v532.length) <|
   (.grd (inb s v533.length) <|
   (.br (!(laws_sameFloat_v (wid (nth v532 (Int.toNat s))) (wid (nth v533 (Int.toNat s))))) (
    .leaf (.inr (.inl ()))
   ) (
    .leaf (.inl (IntKind.i64.wrap (s + (1 : Int))))
   ))))
  ) (
   .leaf (.inr (.inr ()))
  ))

noncomputable def laws_eqFloat32S_l0_g (v532 : List Nat) (v533 : List Nat) (s0 : Int) : Option ((Unit) ⊕ (Unit)) := whileM (fun s => (laws_eqFloat32S_l0_T v532 v533 s).run) s0
def laws_eqFloat32S_l0_E (v532 : List Nat) (v533 : List Nat) (s : Int) : Sd := ([.bslc (BR.root 0) (.f32 v532), .bslc (BR.root 1) (.f32 v533), .top, .top, .top, .int .i64 s, .top, .top, .top, .top, .top, .top, .top, .top, .top, .top, .top, .top, .top, .top, .top, .top, .top, .top, .top, .top, .top, .top, .top], [])
def laws_eqFloat32S_l0_X (v532 : List Nat) (v533 : List Nat) (x : (Unit) ⊕ (Unit)) : Out := (match x with | .inl x => (.ret, [.top, .top, .top, .top, .lit false, .top, .top, .top, .top, .top, .top, .top, .top, .top, .top, .top, .top, .top, .top, .top, .top, .top, .top, .top, .top, .top, .top, .top, .top], []) | .inr x => (.normal, [.top, .top, .top, .top, .top, .top, .top, .top, .top, .top, .top, .top, .top, .top, .top, .top, .top, .top, .top, .top, .top, .top, .top, .top, .top, .top, .top, .top, .top], []))
def laws_eqFloat32S_l0_kill : List Nat := [0, 0, 1, 1, 1, 0, 1, 1, 1, 1, 1, 1, 1, 1, 1, 1, 1, 1, 1, 1, 1, 1, 1, 1, 1, 1, 1, 1, 1]
def laws_eqFloat32S_l0_nx : Exit → List Nat
  | .exit 0 => [1, 1, 1, 1, 1, 1, 1, 1, 1, 1, 1, 1, 1, 1, 1, 1, 1, 1, 1, 1, 1, 1, 1, 1, 1, 1, 1, 1, 1]
  | .ret => [1, 1, 1, 1, 0, 1, 1, 1, 1, 1, 1, 1, 1, 1, 1, 1, 1, 1, 1, 1, 1, 1, 1, 1, 1, 1, 1, 1, 1]
  | _ => []
noncomputable def laws_eqFloat32S_LO (v532 : List Nat) (v533 : List Nat) : LOr := fun id e L =>
  match id with
  | 0 => .need (normA 0 laws_eqFloat32S_l0_kill e L = some (laws_eqFloat32S_l0_E v532 v533 (gI (vAt e 5)))) (.call (laws_eqFloat32S_l0_g v532 v533 (gI (vAt e 5))) fun x => .sum x (fun b0 => .leaf (laws_eqFloat32S_l0_X v532 v533 (.inl b0))) (fun c0 => .leaf (laws_eqFloat32S_l0_X v532 v533 (.inr c0))))
  | _ => .fail
noncomputable def laws_eqFloat32S_tab : List (FuncId × DFn × Bool) := [(31, laws_sameFloat_F, true)]
theorem laws_eqFloat32S_hO : OrcOk Try.prog (tabD laws_eqFloat32S_tab) (tabM laws_eqFloat32S_tab) := tabD_cons laws_sameFloat_Fok (tabD_nil _)
theorem laws_eqFloat32S_l0_be (v532 : List Nat) (v533 : List Nat) (s : Int) : bodyT TT (tabD laws_eqFloat32S_tab) (tabM laws_eqFloat32S_tab) (laws_eqFloat32S_LO v532 v533) 0 laws_eqFloat32S_l0_kill laws_eqFloat32S_l0_nx (bodyOf Try.f20 0) 0 (laws_eqFloat32S_l0_E v532 v533 s) = (laws_eqFloat32S_l0_T v532 v533 s).bind fun y => .leaf (outS (laws_eqFloat32S_l0_E v532 v533) (laws_eqFloat32S_l0_X v532 v533) y) := by kernel_rfl
theorem laws_eqFloat32S_l0_ok (v532 : List Nat) (v533 : List Nat) : LSound Try.prog 0 (laws_eqFloat32S_LO v532 v533) 0 (bodyOf Try.f20 0) := by
  intro e L out h
  exact lo_ok (E := laws_eqFloat32S_l0_E v532 v533) (gT := laws_eqFloat32S_l0_T v532 v533) (X := laws_eqFloat32S_l0_X v532 v533) (s0 := (gI (vAt e 5))) tok laws_eqFloat32S_hO mixed (LoopsOk_eq (l := []) (by kernel_rfl) trivial) (laws_eqFloat32S_l0_be v532 v533) rfl (by intro x; (cases x with | inl b => rfl | inr x => exact rfl)) h
noncomputable def laws_eqFloat32S_T (v532 : List Nat) (v533 : List Nat) : Tree (Bool) :=
  (.br (!decide (((v532.length : Nat) : Int) = ((v533.length : Nat) : Int))) (
   .leaf false
  ) (
   (.need (some (laws_eqFloat32S_l0_E v532 v533 (0 : Int)) = some (laws_eqFloat32S_l0_E v532 v533 (0 : Int))) <|
   (.call (laws_eqFloat32S_l0_g v532 v533 (0 : Int)) fun v539 =>
   (.sum v539 (fun v540 =>
    .leaf false
   ) (fun v541 =>
    .leaf true
   ))))
  ))

noncomputable def laws_eqFloat32S_g (v532 : List Nat) (v533 : List Nat) : Option (Bool) := (laws_eqFloat32S_T v532 v533).run
def laws_eqFloat32S_enc (v532 : List Nat) (v533 : List Nat) (y : Bool) : Rs := (.bool y, [])
theorem laws_eqFloat32S_den (v532 : List Nat) (v533 : List Nat) : (den TT (tabD laws_eqFloat32S_tab) (tabM laws_eqFloat32S_tab) (laws_eqFloat32S_LO v532 v533) (codeOf Try.f20) ([.bslc (BR.root 0) (.f32 v532), .bslc (BR.root 1) (.f32 v533)] ++ List.replicate (Try.f20.ntmps - ([.bslc (BR.root 0) (.f32 v532), .bslc (BR.root 1) (.f32 v533)] : List DV).length) .undef) []).bind (retD TT Try.f20.results.toList 0) = (laws_eqFloat32S_T v532 v533).bind fun y => .leaf (laws_eqFloat32S_enc v532 v533 y) := by kernel_rfl
theorem laws_eqFloat32S_fn (v532 : List Nat) (v533 : List Nat) (F : Fr) (hm : F.ids.length = 0) (h0 : St F [] F.H0) (hA : DVs.Ok F [] [.bslc (BR.root 0) (.f32 v532), .bslc (BR.root 1) (.f32 v533)]) {y : Bool} (hy : laws_eqFloat32S_g v532 v533 = some y) : ∃ H', FnOk Try.prog 20 (DVs.av F [.bslc (BR.root 0) (.f32 v532), .bslc (BR.root 1) (.f32 v533)]) F.H0 ((laws_eqFloat32S_enc v532 v533 y).1.av F) H' ∧ St F (laws_eqFloat32S_enc v532 v533 y).2 H' ∧ (laws_eqFloat32S_enc v532 v533 y).1.Ok F (laws_eqFloat32S_enc v532 v533 y).2 :=
  fn_fin tok laws_eqFloat32S_hO mixed Try.func20 Try.call20 (by kernel_rfl) (LoopsOk_eq (l := [(0, bodyOf Try.f20 0)]) (by kernel_rfl) ⟨laws_eqFloat32S_l0_ok v532 v533, trivial⟩) (laws_eqFloat32S_den v532 v533) hy hm h0 hA
noncomputable def laws_eqFloat32S_F : DFn := fun args L =>
  match args with
  | [a1, a2] =>
    optT (rowF32 L a1) fun v532 =>
    optT (rowF32 L a2) fun v533 =>
    .call (laws_eqFloat32S_g v532 v533) fun y => .leaf (.bool y, L)
  | _ => .fail
theorem laws_eqFloat32S_Fok : COk Try.prog 20 laws_eqFloat32S_F true := by
  intro F L H args r L' hs ha hr
  unfold laws_eqFloat32S_F at hr
  split at hr
  · rename_i a1 a2
    obtain ⟨v532, hv532, hr⟩ := optT_run hr
    obtain ⟨v533, hv533, hr⟩ := optT_run hr
    simp only [Tree.run] at hr
    obtain ⟨y, hy, hr⟩ := Option.bind_eq_some_iff.1 hr
    simp only [Tree.run, Option.some.injEq, Prod.mk.injEq] at hr
    obtain ⟨rfl, rfl⟩ := hr
    exact call_ok0 hs (fun k => (([a1.av F, a2.av F] : List AV)[k]?).getD .top) [a1, a2] [.bslc (BR.root 0) (.f32 v532), .bslc (BR.root 1) (.f32 v533)] (fun F' h0 hi hρ => ⟨by simp [DVs.av, DV.av, BR.av, hρ], laws_eqFloat32S_fn v532 v533 F' (by rw [hi]; rfl) (st_nil hi) ⟨bslc_ok hi (by rw [h0, hρ]; exact rowF32_ok hs (DVs.okAt ha 0 rfl) hv532), bslc_ok hi (by rw [h0, hρ]; exact rowF32_ok hs (DVs.okAt ha 1 rfl) hv533), trivial⟩ hy⟩) rfl
  · cases hr
/-! laws.eqMatrix -/
noncomputable def laws_eqMatrix_LO (v526 : Int) (v527 : Int) (v528 : List Nat) (v529 : Int) (v530 : Int) (v531 : List Nat) : LOr := fun id e L =>
  match id with
  | _ => .fail
noncomputable def laws_eqMatrix_tab : List (FuncId × DFn × Bool) := [(20, laws_eqFloat32S_F, true)]
theorem laws_eqMatrix_hO : OrcOk Try.prog (tabD laws_eqMatrix_tab) (tabM laws_eqMatrix_tab) := tabD_cons laws_eqFloat32S_Fok (tabD_nil _)
noncomputable def laws_eqMatrix_T (v526 : Int) (v527 : Int) (v528 : List Nat) (v529 : Int) (v530 : Int) (v531 : List Nat) : Tree (Bool) :=
  (.br (!decide (v526 = v529)) (
   .leaf false
  ) (
   (.br (!decide (v527 = v530)) (
    .leaf false
   ) (
    (.call (laws_eqFloat32S_g v528 v531) fun v542 =>
    (.br (!v542) (
     .leaf false
    ) (
     .leaf true
    )))
   ))
  ))

noncomputable def laws_eqMatrix_g (v526 : Int) (v527 : Int) (v528 : List Nat) (v529 : Int) (v530 : Int) (v531 : List Nat) : Option (Bool) := (laws_eqMatrix_T v526 v527 v528 v529 v530 v531).run
def laws_eqMatrix_enc (v526 : Int) (v527 : Int) (v528 : List Nat) (v529 : Int) (v530 : Int) (v531 : List Nat) (y : Bool) : Rs := (.bool y, [])
theorem laws_eqMatrix_den (v526 : Int) (v527 : Int) (v528 : List Nat) (v529 : Int) (v530 : Int) (v531 : List Nat) : (den TT (tabD laws_eqMatrix_tab) (tabM laws_eqMatrix_tab) (laws_eqMatrix_LO v526 v527 v528 v529 v530 v531) (codeOf Try.f19) ([.agg [.int .i64 v526, .int .i64 v527, .bslc (BR.root 0) (.f32 v528)], .agg [.int .i64 v529, .int .i64 v530, .bslc (BR.root 1) (.f32 v531)]] ++ List.replicate (Try.f19.ntmps - ([.agg [.int .i64 v526, .int .i64 v527, .bslc (BR.root 0) (.f32 v528)], .agg [.int .i64 v529, .int .i64 v530, .bslc (BR.root 1) (.f32 v531)]] : List DV).length) .undef) []).bind (retD TT Try.f19.results.toList 0) = (laws_eqMatrix_T v526 v527 v528 v529 v530 v531).bind fun y => .leaf (laws_eqMatrix_enc v526 v527 v528 v529 v530 v531 y) := by kernel_rfl
theorem laws_eqMatrix_fn (v526 : Int) (v527 : Int) (v528 : List Nat) (v529 : Int) (v530 : Int) (v531 : List Nat) (F : Fr) (hm : F.ids.length = 0) (h0 : St F [] F.H0) (hA : DVs.Ok F [] [.agg [.int .i64 v526, .int .i64 v527, .bslc (BR.root 0) (.f32 v528)], .agg [.int .i64 v529, .int .i64 v530, .bslc (BR.root 1) (.f32 v531)]]) {y : Bool} (hy : laws_eqMatrix_g v526 v527 v528 v529 v530 v531 = some y) : ∃ H', FnOk Try.prog 19 (DVs.av F [.agg [.int .i64 v526, .int .i64 v527, .bslc (BR.root 0) (.f32 v528)], .agg [.int .i64 v529, .int .i64 v530, .bslc (BR.root 1) (.f32 v531)]]) F.H0 ((laws_eqMatrix_enc v526 v527 v528 v529 v530 v531 y).1.av F) H' ∧ St F (laws_eqMatrix_enc v526 v527 v528 v529 v530 v531 y).2 H' ∧ (laws_eqMatrix_enc v526 v527 v528 v529 v530 v531 y).1.Ok F (laws_eqMatrix_enc v526 v527 v528 v529 v530 v531 y).2 :=
  fn_fin tok laws_eqMatrix_hO mixed Try.func19 Try.call19 (by kernel_rfl) (LoopsOk_eq (l := []) (by kernel_rfl) trivial) (laws_eqMatrix_den v526 v527 v528 v529 v530 v531) hy hm h0 hA
noncomputable def laws_eqMatrix_F : DFn := fun args L =>
  match args with
  | [.agg [.int .i64 v526, .int .i64 v527, a1], .agg [.int .i64 v529, .int .i64 v530, a2]] =>
    optT (rowF32 L a1) fun v528 =>
    optT (rowF32 L a2) fun v531 =>
    .call (laws_eqMatrix_g v526 v527 v528 v529 v530 v531) fun y => .leaf (.bool y, L)
  | _ => .fail
theorem laws_eqMatrix_Fok : COk Try.prog 19 laws_eqMatrix_F true := by
  intro F L H args r L' hs ha hr
  unfold laws_eqMatrix_F at hr
  split at hr
  · rename_i v526 v527 a1 v529 v530 a2
    obtain ⟨v528, hv528, hr⟩ := optT_run hr
    obtain ⟨v531, hv531, hr⟩ := optT_run hr
    simp only [Tree.run] at hr
    obtain ⟨y, hy, hr⟩ := Option.bind_eq_some_iff.1 hr
    simp only [Tree.run, Option.some.injEq, Prod.mk.injEq] at hr
    obtain ⟨rfl, rfl⟩ := hr
    exact call_ok0 hs (fun k => (([a1.av F, a2.av F] : List AV)[k]?).getD .top) [.agg [.int .i64 v526, .int .i64 v527, a1], .agg [.int .i64 v529, .int .i64 v530, a2]] [.agg [.int .i64 v526, .int .i64 v527, .bslc (BR.root 0) (.f32 v528)], .agg [.int .i64 v529, .int .i64 v530, .bslc (BR.root 1) (.f32 v531)]] (fun F' h0 hi hρ => ⟨by simp [DVs.av, DV.av, BR.av, hρ], laws_eqMatrix_fn v526 v527 v528 v529 v530 v531 F' (by rw [hi]; rfl) (st_nil hi) ⟨⟨trivial, trivial, bslc_ok hi (by rw [h0, hρ]; exact rowF32_ok hs (DVs.okAt (DVs.okAt ha 0 rfl) 2 rfl) hv528), trivial⟩, ⟨trivial, trivial, bslc_ok hi (by rw [h0, hρ]; exact rowF32_ok hs (DVs.okAt (DVs.okAt ha 1 rfl) 2 rfl) hv531), trivial⟩, trivial⟩ hy⟩) rfl
  · cases hr
/-! laws.markFloat32S -/
noncomputable def laws_markFloat32S_l0_T (s : Int × Int × (List Nat)) : Tree ((Int × Int × (List Nat)) ⊕ (Int × (List Nat))) :=
  (.br (decide (s.2.1 < (((s.2.2).length : Nat) : Int))) (
   (.grd (inb s.2.1 ((s.2.2).length)) <|
   .leaf (.inl (IntKind.i64.wrap (s.1 + (1 : Int)), IntKind.i64.wrap (s.2.1 + (1 : Int)), List.set s.2.2 (Int.toNat s.2.1) (fofint .f32 s.1))))
  ) (
   .leaf (.inr (s.1, s.2.2))
  ))

noncomputable def laws_markFloat32S_l0_g (s0 : Int × Int × (List Nat)) : Option (Int × (List Nat)) := whileM (fun s => (laws_markFloat32S_l0_T s).run) s0
def laws_markFloat32S_l0_E (v556 : List Nat) (v557 : Int) (s : Int × Int × (List Nat)) : Sd := ([.own 0 0 ((s.2.2).length), .int .i64 s.1, .top, .top, .top, .int .i64 s.2.1, .top, .top, .top, .top, .top, .top, .top, .top, .top, .top, .top, .top, .top, .top], [.row (.f32 s.2.2) 0])
def laws_markFloat32S_l0_X (v556 : List Nat) (v557 : Int) (x : Int × (List Nat)) : Out := (.normal, [.top, .int .i64 x.1, .top, .top, .top, .top, .top, .top, .top, .top, .top, .top, .top, .top, .top, .top, .top, .top, .top, .top], [.row (.f32 x.2) 0])
def laws_markFloat32S_l0_kill : List Nat := [0, 0, 1, 1, 1, 0, 1, 1, 1, 1, 1, 1, 1, 1, 1, 1, 1, 1, 1, 1]
def laws_markFloat32S_l0_nx : Exit → List Nat
  | .exit 0 => [1, 0, 1, 1, 1, 1, 1, 1, 1, 1, 1, 1, 1, 1, 1, 1, 1, 1, 1, 1]
  | .ret => [1, 1, 1, 1, 0, 1, 1, 1, 1, 1, 1, 1, 1, 1, 1, 1, 1, 1, 1, 1]
  | _ => []
noncomputable def laws_markFloat32S_LO (v556 : List Nat) (v557 : Int) : LOr := fun id e L =>
  match id with
  | 0 => .need (normA 1 laws_markFloat32S_l0_kill e L = some (laws_markFloat32S_l0_E v556 v557 ((gI (vAt e 1)), (gI (vAt e 5)), (gRF L (vAt e 0))))) (.call (laws_markFloat32S_l0_g ((gI (vAt e 1)), (gI (vAt e 5)), (gRF L (vAt e 0)))) fun x => .leaf (laws_markFloat32S_l0_X v556 v557 x))
  | _ => .fail
noncomputable def laws_markFloat32S_tab : List (FuncId × DFn × Bool) := []
theorem laws_markFloat32S_hO : OrcOk Try.prog (tabD laws_markFloat32S_tab) (tabM laws_markFloat32S_tab) := tabD_nil _
theorem laws_markFloat32S_l0_be (v556 : List Nat) (v557 : Int) (s : Int × Int × (List Nat)) : bodyT TT (tabD laws_markFloat32S_tab) (tabM laws_markFloat32S_tab) (laws_markFloat32S_LO v556 v557) 1 laws_markFloat32S_l0_kill laws_markFloat32S_l0_nx (bodyOf Try.f22 0) 0 (laws_markFloat32S_l0_E v556 v557 s) = (laws_markFloat32S_l0_T s).bind fun y => .leaf (outS (laws_markFloat32S_l0_E v556 v557) (laws_markFloat32S_l0_X v556 v557) y) := by kernel_rfl
theorem laws_markFloat32S_l0_ok (v556 : List Nat) (v557 : Int) : LSound Try.prog 1 (laws_markFloat32S_LO v556 v557) 0 (bodyOf Try.f22 0) := by
  intro e L out h
  exact lo_ok (E := laws_markFloat32S_l0_E v556 v557) (gT := laws_markFloat32S_l0_T) (X := laws_markFloat32S_l0_X v556 v557) (s0 := ((gI (vAt e 1)), (gI (vAt e 5)), (gRF L (vAt e 0)))) tok laws_markFloat32S_hO mixed (LoopsOk_eq (l := []) (by kernel_rfl) trivial) (laws_markFloat32S_l0_be v556 v557) rfl (by intro x; rfl) h
noncomputable def laws_markFloat32S_T (v556 : List Nat) (v557 : Int) : Tree (Int × (List Nat)) :=
  (.need (some (laws_markFloat32S_l0_E v556 v557 (v557, (0 : Int), v556)) = some (laws_markFloat32S_l0_E v556 v557 (v557, (0 : Int), v556))) <|
  (.call (laws_markFloat32S_l0_g (v557, (0 : Int), v556)) fun v566 =>
  .leaf (v566.1, v566.2)))

noncomputable def laws_markFloat32S_g (v556 : List Nat) (v557 : Int) : Option (Int × (List Nat)) := (laws_markFloat32S_T v556 v557).run
def laws_markFloat32S_enc (v556 : List Nat) (v557 : Int) (y : Int × (List Nat)) : Rs := (.int .i64 y.1, [.row (.f32 y.2) 0])
theorem laws_markFloat32S_den (v556 : List Nat) (v557 : Int) : (den TT (tabD laws_markFloat32S_tab) (tabM laws_markFloat32S_tab) (laws_markFloat32S_LO v556 v557) (codeOf Try.f22) ([.own 0 0 v556.length, .int .i64 v557] ++ List.replicate (Try.f22.ntmps - ([.own 0 0 v556.length, .int .i64 v557] : List DV).length) .undef) [.row (.f32 v556) 0]).bind (retD TT Try.f22.results.toList 1) = (laws_markFloat32S_T v556 v557).bind fun y => .leaf (laws_markFloat32S_enc v556 v557 y) := by kernel_rfl
theorem laws_markFloat32S_fn (v556 : List Nat) (v557 : Int) (F : Fr) (hm : F.ids.length = 1) (h0 : St F [.row (.f32 v556) 0] F.H0) (hA : DVs.Ok F [.row (.f32 v556) 0] [.own 0 0 v556.length, .int .i64 v557]) {y : Int × (List Nat)} (hy : laws_markFloat32S_g v556 v557 = some y) : ∃ H', FnOk Try.prog 22 (DVs.av F [.own 0 0 v556.length, .int .i64 v557]) F.H0 ((laws_markFloat32S_enc v556 v557 y).1.av F) H' ∧ St F (laws_markFloat32S_enc v556 v557 y).2 H' ∧ (laws_markFloat32S_enc v556 v557 y).1.Ok F (laws_markFloat32S_enc v556 v557 y).2 :=
  fn_fin tok laws_markFloat32S_hO mixed Try.func22 Try.call22 (by kernel_rfl) (LoopsOk_eq (l := [(0, bodyOf Try.f22 0)]) (by kernel_rfl) ⟨laws_markFloat32S_l0_ok v556 v557, trivial⟩) (laws_markFloat32S_den v556 v557) hy hm h0 hA
noncomputable def laws_markFloat32S_F : DFn := fun args L =>
  match args with
  | [a1, .int .i64 v557] =>
    optT (ownF32 L a1) fun qv556 =>
    (match sepB [qv556.1] [] with
    | true =>
    .call (laws_markFloat32S_g qv556.2 v557) fun y => .grd (decide (y.2.length = qv556.2.length)) (.leaf (.int .i64 y.1, setRows L ([qv556.1].zip [.f32 y.2])))
    | false => .fail)
  | _ => .fail
theorem laws_markFloat32S_Fok : COk Try.prog 22 laws_markFloat32S_F false := by
  intro F L H args r L' hs ha hr
  unfold laws_markFloat32S_F at hr
  split at hr
  · rename_i a1 v557
    obtain ⟨⟨jv556, v556⟩, hqv556, hr⟩ := optT_run hr
    simp only at hr
    split at hr
    · rename_i hsep
      obtain ⟨hnd, hsepv⟩ := sepB_spec hsep
      simp only [Tree.run] at hr
      obtain ⟨y, hy, hr⟩ := Option.bind_eq_some_iff.1 hr
      try simp only [Tree.run] at hr
      obtain ⟨hl0, hr⟩ := ite_run hr
      simp only [Option.some.injEq, Prod.mk.injEq] at hr
      obtain ⟨rfl, rfl⟩ := hr
      obtain ⟨hr0, hu0, ha0, hb0⟩ := (ownR_spec (DVs.okAt ha 0 rfl) (ownF32_or hqv556))
      exact mut_ok hs (fun k => (([a1.av F] : List AV)[k]?).getD .top) [a1, .int .i64 v557] [.own 0 0 v556.length, .int .i64 v557] [jv556] [.f32 v556] [.f32 y.2] hnd rfl rfl (fun i j q h1 h2 => by
          rcases i with _ | i
          · simp at h1 h2; subst h1; subst h2; exact hr0
          · simp at h1) (fun i q q' h1 h2 => by
          rcases i with _ | i
          · simp at h1 h2; subst h1; subst h2; exact of_decide_eq_true hl0
          · simp at h1) (fun j hj => by simp at hj; subst hj; simp [DVs.refs, DV.refs, hu0]) (fun F' h0 hi hρ hst hS => ⟨by (have ab0 : F'.abs 0 = F.abs jv556 := (by simp [Fr.abs, hi]); simp [DVs.av, DV.av, BR.av, hρ, Row.len, ha0, ab0]), by
          obtain ⟨H1, k1, k2, _⟩ := laws_markFloat32S_fn v556 v557 F' (by rw [hi]; rfl) hst ⟨⟨_, rfl, Nat.le_refl _, Nat.le_refl _, fun _ => rfl, (ownR_spec (DVs.okAt ha 0 rfl) (ownF32_or hqv556)).2.2.2⟩, trivial, trivial⟩ hy
          exact ⟨H1, k1, k2⟩⟩) (fun F' => rfl) (fun L' => trivial)
    · cases hr
  · cases hr
/-! laws.markMatrix -/
noncomputable def laws_markMatrix_LO (v567 : Int) (v568 : Int) (v569 : List Nat) (v570 : Int) : LOr := fun id e L =>
  match id with
  | _ => .fail
noncomputable def laws_markMatrix_tab : List (FuncId × DFn × Bool) := [(22, laws_markFloat32S_F, false)]
theorem laws_markMatrix_hO : OrcOk Try.prog (tabD laws_markMatrix_tab) (tabM laws_markMatrix_tab) := tabD_cons laws_markFloat32S_Fok (tabD_nil _)
noncomputable def laws_markMatrix_T (v569 : List Nat) (v570 : Int) : Tree (Int × (List Nat)) :=
  (.call (laws_markFloat32S_g v569 v570) fun v571 =>
  (.grd (decide (v571.2.length = v569.length)) <|
  .leaf (v571.1, v571.2)))

noncomputable def laws_markMatrix_g (v569 : List Nat) (v570 : Int) : Option (Int × (List Nat)) := (laws_markMatrix_T v569 v570).run
def laws_markMatrix_enc (v567 : Int) (v568 : Int) (v569 : List Nat) (v570 : Int) (y : Int × (List Nat)) : Rs := (.int .i64 y.1, [.row (.f32 y.2) 0])
theorem laws_markMatrix_den (v567 : Int) (v568 : Int) (v569 : List Nat) (v570 : Int) : (den TT (tabD laws_markMatrix_tab) (tabM laws_markMatrix_tab) (laws_markMatrix_LO v567 v568 v569 v570) (codeOf Try.f21) ([.agg [.int .i64 v567, .int .i64 v568, .own 0 0 v569.length], .int .i64 v570] ++ List.replicate (Try.f21.ntmps - ([.agg [.int .i64 v567, .int .i64 v568, .own 0 0 v569.length], .int .i64 v570] : List DV).length) .undef) [.row (.f32 v569) 0]).bind (retD TT Try.f21.results.toList 1) = (laws_markMatrix_T v569 v570).bind fun y => .leaf (laws_markMatrix_enc v567 v568 v569 v570 y) := by kernel_rfl
theorem laws_markMatrix_fn (v567 : Int) (v568 : Int) (v569 : List Nat) (v570 : Int) (F : Fr) (hm : F.ids.length = 1) (h0 : St F [.row (.f32 v569) 0] F.H0) (hA : DVs.Ok F [.row (.f32 v569) 0] [.agg [.int .i64 v567, .int .i64 v568, .own 0 0 v569.length], .int .i64 v570]) {y : Int × (List Nat)} (hy : laws_markMatrix_g v569 v570 = some y) : ∃ H', FnOk Try.prog 21 (DVs.av F [.agg [.int .i64 v567, .int .i64 v568, .own 0 0 v569.length], .int .i64 v570]) F.H0 ((laws_markMatrix_enc v567 v568 v569 v570 y).1.av F) H' ∧ St F (laws_markMatrix_enc v567 v568 v569 v570 y).2 H' ∧ (laws_markMatrix_enc v567 v568 v569 v570 y).1.Ok F (laws_markMatrix_enc v567 v568 v569 v570 y).2 :=
  fn_fin tok laws_markMatrix_hO mixed Try.func21 Try.call21 (by kernel_rfl) (LoopsOk_eq (l := []) (by kernel_rfl) trivial) (laws_markMatrix_den v567 v568 v569 v570) hy hm h0 hA
noncomputable def laws_markMatrix_F : DFn := fun args L =>
  match args with
  | [.agg [.int .i64 v567, .int .i64 v568, a1], .int .i64 v570] =>
    optT (ownF32 L a1) fun qv569 =>
    (match sepB [qv569.1] [] with
    | true =>
    .call (laws_markMatrix_g qv569.2 v570) fun y => .grd (decide (y.2.length = qv569.2.length)) (.leaf (.int .i64 y.1, setRows L ([qv569.1].zip [.f32 y.2])))
    | false => .fail)
  | _ => .fail
theorem laws_markMatrix_Fok : COk Try.prog 21 laws_markMatrix_F false := by
  intro F L H args r L' hs ha hr
  unfold laws_markMatrix_F at hr
  split at hr
  · rename_i v567 v568 a1 v570
    obtain ⟨⟨jv569, v569⟩, hqv569, hr⟩ := optT_run hr
    simp only at hr
    split at hr
    · rename_i hsep
      obtain ⟨hnd, hsepv⟩ := sepB_spec hsep
      simp only [Tree.run] at hr
      obtain ⟨y, hy, hr⟩ := Option.bind_eq_some_iff.1 hr
      try simp only [Tree.run] at hr
      obtain ⟨hl0, hr⟩ := ite_run hr
      simp only [Option.some.injEq, Prod.mk.injEq] at hr
      obtain ⟨rfl, rfl⟩ := hr
      obtain ⟨hr0, hu0, ha0, hb0⟩ := (ownR_spec (DVs.okAt (DVs.okAt ha 0 rfl) 2 rfl) (ownF32_or hqv569))
      exact mut_ok hs (fun k => (([a1.av F] : List AV)[k]?).getD .top) [.agg [.int .i64 v567, .int .i64 v568, a1], .int .i64 v570] [.agg [.int .i64 v567, .int .i64 v568, .own 0 0 v569.length], .int .i64 v570] [jv569] [.f32 v569] [.f32 y.2] hnd rfl rfl (fun i j q h1 h2 => by
          rcases i with _ | i
          · simp at h1 h2; subst h1; subst h2; exact hr0
          · simp at h1) (fun i q q' h1 h2 => by
          rcases i with _ | i
          · simp at h1 h2; subst h1; subst h2; exact of_decide_eq_true hl0
          · simp at h1) (fun j hj => by simp at hj; subst hj; simp [DVs.refs, DV.refs, hu0]) (fun F' h0 hi hρ hst hS => ⟨by (have ab0 : F'.abs 0 = F.abs jv569 := (by simp [Fr.abs, hi]); simp [DVs.av, DV.av, BR.av, hρ, Row.len, ha0, ab0]), by
          obtain ⟨H1, k1, k2, _⟩ := laws_markMatrix_fn v567 v568 v569 v570 F' (by rw [hi]; rfl) hst ⟨⟨trivial, trivial, ⟨_, rfl, Nat.le_refl _, Nat.le_refl _, fun _ => rfl, (ownR_spec (DVs.okAt (DVs.okAt ha 0 rfl) 2 rfl) (ownF32_or hqv569)).2.2.2⟩, trivial⟩, trivial, trivial⟩ hy
          exact ⟨H1, k1, k2⟩⟩) (fun F' => rfl) (fun L' => trivial)
    · cases hr
  · cases hr
/-! laws.markFloat32S -/
noncomputable def laws_markFloat32S_i1_l0_T (s : Unit) : Tree ((Unit) ⊕ (Unit)) :=
  (.br (decide ((0 : Int) < (0 : Int))) (
   .fail
  ) (
   .leaf (.inr ())
  ))

noncomputable def laws_markFloat32S_i1_l0_g (s0 : Unit) : Option (Unit) := whileM (fun s => (laws_markFloat32S_i1_l0_T s).run) s0
def laws_markFloat32S_i1_l0_E (v578 : Int) (s : Unit) : Sd := ([.nilslc, .int .i64 v578, .top, .top, .top, .int .i64 (0 : Int), .top, .top, .top, .top, .top, .top, .top, .top, .top, .top, .top, .top, .top, .top], [])
def laws_markFloat32S_i1_l0_X (v578 : Int) (x : Unit) : Out := (.normal, [.top, .int .i64 v578, .top, .top, .top, .top, .top, .top, .top, .top, .top, .top, .top, .top, .top, .top, .top, .top, .top, .top], [])
def laws_markFloat32S_i1_l0_kill : List Nat := [0, 0, 1, 1, 1, 0, 1, 1, 1, 1, 1, 1, 1, 1, 1, 1, 1, 1, 1, 1]
def laws_markFloat32S_i1_l0_nx : Exit → List Nat
  | .exit 0 => [1, 0, 1, 1, 1, 1, 1, 1, 1, 1, 1, 1, 1, 1, 1, 1, 1, 1, 1, 1]
  | .ret => [1, 1, 1, 1, 0, 1, 1, 1, 1, 1, 1, 1, 1, 1, 1, 1, 1, 1, 1, 1]
  | _ => []
noncomputable def laws_markFloat32S_i1_LO (v578 : Int) : LOr := fun id e L =>
  match id with
  | 0 => .need (normA 0 laws_markFloat32S_i1_l0_kill e L = some (laws_markFloat32S_i1_l0_E v578 ())) (.call (laws_markFloat32S_i1_l0_g ()) fun x => .leaf (laws_markFloat32S_i1_l0_X v578 x))
  | _ => .fail
noncomputable def laws_markFloat32S_i1_tab : List (FuncId × DFn × Bool) := []
theorem laws_markFloat32S_i1_hO : OrcOk Try.prog (tabD laws_markFloat32S_i1_tab) (tabM laws_markFloat32S_i1_tab) := tabD_nil _
theorem laws_markFloat32S_i1_l0_be (v578 : Int) (s : Unit) : bodyT TT (tabD laws_markFloat32S_i1_tab) (tabM laws_markFloat32S_i1_tab) (laws_markFloat32S_i1_LO v578) 0 laws_markFloat32S_i1_l0_kill laws_markFloat32S_i1_l0_nx (bodyOf Try.f22 0) 0 (laws_markFloat32S_i1_l0_E v578 s) = (laws_markFloat32S_i1_l0_T s).bind fun y => .leaf (outS (laws_markFloat32S_i1_l0_E v578) (laws_markFloat32S_i1_l0_X v578) y) := by kernel_rfl
theorem laws_markFloat32S_i1_l0_ok (v578 : Int) : LSound Try.prog 0 (laws_markFloat32S_i1_LO v578) 0 (bodyOf Try.f22 0) := by
  intro e L out h
  exact lo_ok (E := laws_markFloat32S_i1_l0_E v578) (gT := laws_markFloat32S_i1_l0_T) (X := laws_markFloat32S_i1_l0_X v578) (s0 := ()) tok laws_markFloat32S_i1_hO mixed (LoopsOk_eq (l := []) (by kernel_rfl) trivial) (laws_markFloat32S_i1_l0_be v578) rfl (by intro x; rfl) h
noncomputable def laws_markFloat32S_i1_T (v578 : Int) : Tree (Int) :=
  (.need (some (laws_markFloat32S_i1_l0_E v578 ()) = some (laws_markFloat32S_i1_l0_E v578 ())) <|
  (.call (laws_markFloat32S_i1_l0_g ()) fun v581 =>
  .leaf v578))

noncomputable def laws_markFloat32S_i1_g (v578 : Int) : Option (Int) := (laws_markFloat32S_i1_T v578).run
def laws_markFloat32S_i1_enc (v578 : Int) (y : Int) : Rs := (.int .i64 y, [])
theorem laws_markFloat32S_i1_den (v578 : Int) : (den TT (tabD laws_markFloat32S_i1_tab) (tabM laws_markFloat32S_i1_tab) (laws_markFloat32S_i1_LO v578) (codeOf Try.f22) ([.nilslc, .int .i64 v578] ++ List.replicate (Try.f22.ntmps - ([.nilslc, .int .i64 v578] : List DV).length) .undef) []).bind (retD TT Try.f22.results.toList 0) = (laws_markFloat32S_i1_T v578).bind fun y => .leaf (laws_markFloat32S_i1_enc v578 y) := by kernel_rfl
theorem laws_markFloat32S_i1_fn (v578 : Int) (F : Fr) (hm : F.ids.length = 0) (h0 : St F [] F.H0) (hA : DVs.Ok F [] [.nilslc, .int .i64 v578]) {y : Int} (hy : laws_markFloat32S_i1_g v578 = some y) : ∃ H', FnOk Try.prog 22 (DVs.av F [.nilslc, .int .i64 v578]) F.H0 ((laws_markFloat32S_i1_enc v578 y).1.av F) H' ∧ St F (laws_markFloat32S_i1_enc v578 y).2 H' ∧ (laws_markFloat32S_i1_enc v578 y).1.Ok F (laws_markFloat32S_i1_enc v578 y).2 :=
  fn_fin tok laws_markFloat32S_i1_hO mixed Try.func22 Try.call22 (by kernel_rfl) (LoopsOk_eq (l := [(0, bodyOf Try.f22 0)]) (by kernel_rfl) ⟨laws_markFloat32S_i1_l0_ok v578, trivial⟩) (laws_markFloat32S_i1_den v578) hy hm h0 hA
noncomputable def laws_markFloat32S_i1_F : DFn := fun args L =>
  match args with
  | [.nilslc, .int .i64 v578] =>
    .call (laws_markFloat32S_i1_g v578) fun y => .leaf (.int .i64 y, L)
  | _ => .fail
theorem laws_markFloat32S_i1_Fok : COk Try.prog 22 laws_markFloat32S_i1_F true := by
  intro F L H args r L' hs ha hr
  unfold laws_markFloat32S_i1_F at hr
  split at hr
  · rename_i v578
    simp only [Tree.run] at hr
    obtain ⟨y, hy, hr⟩ := Option.bind_eq_some_iff.1 hr
    simp only [Tree.run, Option.some.injEq, Prod.mk.injEq] at hr
    obtain ⟨rfl, rfl⟩ := hr
    exact call_ok0 hs (fun k => (([] : List AV)[k]?).getD .top) [.nilslc, .int .i64 v578] [.nilslc, .int .i64 v578] (fun F' h0 hi hρ => ⟨by simp [DVs.av, DV.av, BR.av, hρ], laws_markFloat32S_i1_fn v578 F' (by rw [hi]; rfl) (st_nil hi) ⟨trivial, trivial, trivial⟩ hy⟩) rfl
  · cases hr
/-! laws.markMatrix -/
noncomputable def laws_markMatrix_i1_LO (v575 : Int) (v576 : Int) (v577 : Int) : LOr := fun id e L =>
  match id with
  | _ => .fail
noncomputable def laws_markMatrix_i1_tab : List (FuncId × DFn × Bool) := [(22, laws_markFloat32S_i1_F, true)]
theorem laws_markMatrix_i1_hO : OrcOk Try.prog (tabD laws_markMatrix_i1_tab) (tabM laws_markMatrix_i1_tab) := tabD_cons laws_markFloat32S_i1_Fok (tabD_nil _)
noncomputable def laws_markMatrix_i1_T (v577 : Int) : Tree (Int) :=
  (.call (laws_markFloat32S_i1_g v577) fun v582 =>
  .leaf v582)

noncomputable def laws_markMatrix_i1_g (v577 : Int) : Option (Int) := (laws_markMatrix_i1_T v577).run
def laws_markMatrix_i1_enc (v575 : Int) (v576 : Int) (v577 : Int) (y : Int) : Rs := (.int .i64 y, [])
theorem laws_markMatrix_i1_den (v575 : Int) (v576 : Int) (v577 : Int) : (den TT (tabD laws_markMatrix_i1_tab) (tabM laws_markMatrix_i1_tab) (laws_markMatrix_i1_LO v575 v576 v577) (codeOf Try.f21) ([.agg [.int .i64 v575, .int .i64 v576, .nilslc], .int .i64 v577] ++ List.replicate (Try.f21.ntmps - ([.agg [.int .i64 v575, .int .i64 v576, .nilslc], .int .i64 v577] : List DV).length) .undef) []).bind (retD TT Try.f21.results.toList 0) = (laws_markMatrix_i1_T v577).bind fun y => .leaf (laws_markMatrix_i1_enc v575 v576 v577 y) := by kernel_rfl
theorem laws_markMatrix_i1_fn (v575 : Int) (v576 : Int) (v577 : Int) (F : Fr) (hm : F.ids.length = 0) (h0 : St F [] F.H0) (hA : DVs.Ok F [] [.agg [.int .i64 v575, .int .i64 v576, .nilslc], .int .i64 v577]) {y : Int} (hy : laws_markMatrix_i1_g v577 = some y) : ∃ H', FnOk Try.prog 21 (DVs.av F [.agg [.int .i64 v575, .int .i64 v576, .nilslc], .int .i64 v577]) F.H0 ((laws_markMatrix_i1_enc v575 v576 v577 y).1.av F) H' ∧ St F (laws_markMatrix_i1_enc v575 v576 v577 y).2 H' ∧ (laws_markMatrix_i1_enc v575 v576 v577 y).1.Ok F (laws_markMatrix_i1_enc v575 v576 v577 y).2 :=
  fn_fin tok laws_markMatrix_i1_hO mixed Try.func21 Try.call21 (by kernel_rfl) (LoopsOk_eq (l := []) (by kernel_rfl) trivial) (laws_markMatrix_i1_den v575 v576 v577) hy hm h0 hA
noncomputable def laws_markMatrix_i1_F : DFn := fun args L =>
  match args with
  | [.agg [.int .i64 v575, .int .i64 v576, .nilslc], .int .i64 v577] =>
    .call (laws_markMatrix_i1_g v577) fun y => .leaf (.int .i64 y, L)
  | _ => .fail
theorem laws_markMatrix_i1_Fok : COk Try.prog 21 laws_markMatrix_i1_F true := by
  intro F L H args r L' hs ha hr
  unfold laws_markMatrix_i1_F at hr
  split at hr
  · rename_i v575 v576 v577
    simp only [Tree.run] at hr
    obtain ⟨y, hy, hr⟩ := Option.bind_eq_some_iff.1 hr
    simp only [Tree.run, Option.some.injEq, Prod.mk.injEq] at hr
    obtain ⟨rfl, rfl⟩ := hr
    exact call_ok0 hs (fun k => (([] : List AV)[k]?).getD .top) [.agg [.int .i64 v575, .int .i64 v576, .nilslc], .int .i64 v577] [.agg [.int .i64 v575, .int .i64 v576, .nilslc], .int .i64 v577] (fun F' h0 hi hρ => ⟨by simp [DVs.av, DV.av, BR.av, hρ], laws_markMatrix_i1_fn v575 v576 v577 F' (by rw [hi]; rfl) (st_nil hi) ⟨⟨trivial, trivial, trivial, trivial⟩, trivial, trivial⟩ hy⟩) rfl
  · cases hr
/-! laws.heldFloat32S -/
noncomputable def laws_heldFloat32S_l0_T (v588 : List Nat) (s : Int × Int) : Tree ((Int × Int) ⊕ ((Unit) ⊕ (Int))) :=
  (.br (decide (s.2 < ((v588.length : Nat) : Int))) (
   (.grd (inb s.2 v588.length) <|
   (.br (!feq .f32 (nth v588 (Int.toNat s.2)) (fofint .f32 s.1)) (
    .leaf (.inr (.inl ()))
   ) (
    .leaf (.inl (IntKind.i64.wrap (s.1 + (1 : Int)), IntKind.i64.wrap (s.2 + (1 : Int))))
   )))
  ) (
   .leaf (.inr (.inr s.1))
  ))

noncomputable def laws_heldFloat32S_l0_g (v588 : List Nat) (s0 : Int × Int) : Option ((Unit) ⊕ (Int)) := whileM (fun s => (laws_heldFloat32S_l0_T v588 s).run) s0
def laws_heldFloat32S_l0_E (v588 : List Nat) (v589 : Int) (s : Int × Int) : Sd := ([.bslc (BR.root 0) (.f32 v588), .int .i64 s.1, .top, .top, .top, .int .i64 s.2, .top, .top, .top, .top, .top, .top, .top, .top, .top, .top, .top, .top, .top, .top, .top, .top], [])
def laws_heldFloat32S_l0_X (v588 : List Nat) (v589 : Int) (x : (Unit) ⊕ (Int)) : Out := (match x with | .inl x => (.ret, [.top, .top, .top, .top, .int .i64 (-1 : Int), .top, .top, .top, .top, .top, .top, .top, .top, .top, .top, .top, .top, .top, .top, .top, .top, .top], []) | .inr x => (.normal, [.top, .int .i64 x, .top, .top, .top, .top, .top, .top, .top, .top, .top, .top, .top, .top, .top, .top, .top, .top, .top, .top, .top, .top], []))
def laws_heldFloat32S_l0_kill : List Nat := [0, 0, 1, 1, 1, 0, 1, 1, 1, 1, 1, 1, 1, 1, 1, 1, 1, 1, 1, 1, 1, 1]
def laws_heldFloat32S_l0_nx : Exit → List Nat
  | .exit 0 => [1, 0, 1, 1, 1, 1, 1, 1, 1, 1, 1, 1, 1, 1, 1, 1, 1, 1, 1, 1, 1, 1]
  | .ret => [1, 1, 1, 1, 0, 1, 1, 1, 1, 1, 1, 1, 1, 1, 1, 1, 1, 1, 1, 1, 1, 1]
  | _ => []
noncomputable def laws_heldFloat32S_LO (v588 : List Nat) (v589 : Int) : LOr := fun id e L =>
  match id with
  | 0 => .need (normA 0 laws_heldFloat32S_l0_kill e L = some (laws_heldFloat32S_l0_E v588 v589 ((gI (vAt e 1)), (gI (vAt e 5))))) (.call (laws_heldFloat32S_l0_g v588 ((gI (vAt e 1)), (gI (vAt e 5)))) fun x => .sum x (fun b0 => .leaf (laws_heldFloat32S_l0_X v588 v589 (.inl b0))) (fun c0 => .leaf (laws_heldFloat32S_l0_X v588 v589 (.inr c0))))
  | _ => .fail
noncomputable def laws_heldFloat32S_tab : List (FuncId × DFn × Bool) := []
theorem laws_heldFloat32S_hO : OrcOk Try.prog (tabD laws_heldFloat32S_tab) (tabM laws_heldFloat32S_tab) := tabD_nil _
theorem laws_heldFloat32S_l0_be (v588 : List Nat) (v589 : Int) (s : Int × Int) : bodyT TT (tabD laws_heldFloat32S_tab) (tabM laws_heldFloat32S_tab) (laws_heldFloat32S_LO v588 v589) 0 laws_heldFloat32S_l0_kill laws_heldFloat32S_l0_nx (bodyOf Try.f24 0) 0 (laws_heldFloat32S_l0_E v588 v589 s) = (laws_heldFloat32S_l0_T v588 s).bind fun y => .leaf (outS (laws_heldFloat32S_l0_E v588 v589) (laws_heldFloat32S_l0_X v588 v589) y) := by kernel_rfl
theorem laws_heldFloat32S_l0_ok (v588 : List Nat) (v589 : Int) : LSound Try.prog 0 (laws_heldFloat32S_LO v588 v589) 0 (bodyOf Try.f24 0) := by
  intro e L out h
  exact lo_ok (E := laws_heldFloat32S_l0_E v588 v589) (gT := laws_heldFloat32S_l0_T v588) (X := laws_heldFloat32S_l0_X v588 v589) (s0 := ((gI (vAt e 1)), (gI (vAt e 5)))) tok laws_heldFloat32S_hO mixed (LoopsOk_eq (l := []) (by kernel_rfl) trivial) (laws_heldFloat32S_l0_be v588 v589) rfl (by intro x; (cases x with | inl b => rfl | inr x => exact rfl)) h
noncomputable def laws_heldFloat32S_T (v588 : List Nat) (v589 : Int) : Tree (Int) :=
  (.need (some (laws_heldFloat32S_l0_E v588 v589 (v589, (0 : Int))) = some (laws_heldFloat32S_l0_E v588 v589 (v589, (0 : Int)))) <|
  (.call (laws_heldFloat32S_l0_g v588 (v589, (0 : Int))) fun v596 =>
  (.sum v596 (fun v597 =>
   .leaf (-1 : Int)
  ) (fun v598 =>
   .leaf v598
  ))))

noncomputable def laws_heldFloat32S_g (v588 : List Nat) (v589 : Int) : Option (Int) := (laws_heldFloat32S_T v588 v589).run
def laws_heldFloat32S_enc (v588 : List Nat) (v589 : Int) (y : Int) : Rs := (.int .i64 y, [])
theorem laws_heldFloat32S_den (v588 : List Nat) (v589 : Int) : (den TT (tabD laws_heldFloat32S_tab) (tabM laws_heldFloat32S_tab) (laws_heldFloat32S_LO v588 v589) (codeOf Try.f24) ([.bslc (BR.root 0) (.f32 v588), .int .i64 v589] ++ List.replicate (Try.f24.ntmps - ([.bslc (BR.root 0) (.f32 v588), .int .i64 v589] : List DV).length) .undef) []).bind (retD TT Try.f24.results.toList 0) = (laws_heldFloat32S_T v588 v589).bind fun y => .leaf (laws_heldFloat32S_enc v588 v589 y) := by kernel_rfl
theorem laws_heldFloat32S_fn (v588 : List Nat) (v589 : Int) (F : Fr) (hm : F.ids.length = 0) (h0 : St F [] F.H0) (hA : DVs.Ok F [] [.bslc (BR.root 0) (.f32 v588), .int .i64 v589]) {y : Int} (hy : laws_heldFloat32S_g v588 v589 = some y) : ∃ H', FnOk Try.prog 24 (DVs.av F [.bslc (BR.root 0) (.f32 v588), .int .i64 v589]) F.H0 ((laws_heldFloat32S_enc v588 v589 y).1.av F) H' ∧ St F (laws_heldFloat32S_enc v588 v589 y).2 H' ∧ (laws_heldFloat32S_enc v588 v589 y).1.Ok F (laws_heldFloat32S_enc v588 v589 y).2 :=
  fn_fin tok laws_heldFloat32S_hO mixed Try.func24 Try.call24 (by kernel_rfl) (LoopsOk_eq (l := [(0, bodyOf Try.f24 0)]) (by kernel_rfl) ⟨laws_heldFloat32S_l0_ok v588 v589, trivial⟩) (laws_heldFloat32S_den v588 v589) hy hm h0 hA
noncomputable def laws_heldFloat32S_F : DFn := fun args L =>
  match args with
  | [a1, .int .i64 v589] =>
    optT (rowF32 L a1) fun v588 =>
    .call (laws_heldFloat32S_g v588 v589) fun y => .leaf (.int .i64 y, L)
  | _ => .fail
theorem laws_heldFloat32S_Fok : COk Try.prog 24 laws_heldFloat32S_F true := by
  intro F L H args r L' hs ha hr
  unfold laws_heldFloat32S_F at hr
  split at hr
  · rename_i a1 v589
    obtain ⟨v588, hv588, hr⟩ := optT_run hr
    simp only [Tree.run] at hr
    obtain ⟨y, hy, hr⟩ := Option.bind_eq_some_iff.1 hr
    simp only [Tree.run, Option.some.injEq, Prod.mk.injEq] at hr
    obtain ⟨rfl, rfl⟩ := hr
    exact call_ok0 hs (fun k => (([a1.av F] : List AV)[k]?).getD .top) [a1, .int .i64 v589] [.bslc (BR.root 0) (.f32 v588), .int .i64 v589] (fun F' h0 hi hρ => ⟨by simp [DVs.av, DV.av, BR.av, hρ], laws_heldFloat32S_fn v588 v589 F' (by rw [hi]; rfl) (st_nil hi) ⟨bslc_ok hi (by rw [h0, hρ]; exact rowF32_ok hs (DVs.okAt ha 0 rfl) hv588), trivial, trivial⟩ hy⟩) rfl
  · cases hr
/-! laws.heldMatrix -/
noncomputable def laws_heldMatrix_LO (v584 : Int) (v585 : Int) (v586 : List Nat) (v587 : Int) : LOr := fun id e L =>
  match id with
  | _ => .fail
noncomputable def laws_heldMatrix_tab : List (FuncId × DFn × Bool) := [(24, laws_heldFloat32S_F, true)]
theorem laws_heldMatrix_hO : OrcOk Try.prog (tabD laws_heldMatrix_tab) (tabM laws_heldMatrix_tab) := tabD_cons laws_heldFloat32S_Fok (tabD_nil _)
noncomputable def laws_heldMatrix_T (v586 : List Nat) (v587 : Int) : Tree (Int) :=
  (.call (laws_heldFloat32S_g v586 v587) fun v599 =>
  (.br (decide (v599 < (0 : Int))) (
   .leaf (-1 : Int)
  ) (
   .leaf v599
  )))

noncomputable def laws_heldMatrix_g (v586 : List Nat) (v587 : Int) : Option (Int) := (laws_heldMatrix_T v586 v587).run
def laws_heldMatrix_enc (v584 : Int) (v585 : Int) (v586 : List Nat) (v587 : Int) (y : Int) : Rs := (.int .i64 y, [])
theorem laws_heldMatrix_den (v584 : Int) (v585 : Int) (v586 : List Nat) (v587 : Int) : (den TT (tabD laws_heldMatrix_tab) (tabM laws_heldMatrix_tab) (laws_heldMatrix_LO v584 v585 v586 v587) (codeOf Try.f23) ([.agg [.int .i64 v584, .int .i64 v585, .bslc (BR.root 0) (.f32 v586)], .int .i64 v587] ++ List.replicate (Try.f23.ntmps - ([.agg [.int .i64 v584, .int .i64 v585, .bslc (BR.root 0) (.f32 v586)], .int .i64 v587] : List DV).length) .undef) []).bind (retD TT Try.f23.results.toList 0) = (laws_heldMatrix_T v586 v587).bind fun y => .leaf (laws_heldMatrix_enc v584 v585 v586 v587 y) := by kernel_rfl
theorem laws_heldMatrix_fn (v584 : Int) (v585 : Int) (v586 : List Nat) (v587 : Int) (F : Fr) (hm : F.ids.length = 0) (h0 : St F [] F.H0) (hA : DVs.Ok F [] [.agg [.int .i64 v584, .int .i64 v585, .bslc (BR.root 0) (.f32 v586)], .int .i64 v587]) {y : Int} (hy : laws_heldMatrix_g v586 v587 = some y) : ∃ H', FnOk Try.prog 23 (DVs.av F [.agg [.int .i64 v584, .int .i64 v585, .bslc (BR.root 0) (.f32 v586)], .int .i64 v587]) F.H0 ((laws_heldMatrix_enc v584 v585 v586 v587 y).1.av F) H' ∧ St F (laws_heldMatrix_enc v584 v585 v586 v587 y).2 H' ∧ (laws_heldMatrix_enc v584 v585 v586 v587 y).1.Ok F (laws_heldMatrix_enc v584 v585 v586 v587 y).2 :=
  fn_fin tok laws_heldMatrix_hO mixed Try.func23 Try.call23 (by kernel_rfl) (LoopsOk_eq (l := []) (by kernel_rfl) trivial) (laws_heldMatrix_den v584 v585 v586 v587) hy hm h0 hA
noncomputable def laws_heldMatrix_F : DFn := fun args L =>
  match args with
  | [.agg [.int .i64 v584, .int .i64 v585, a1], .int .i64 v587] =>
    optT (rowF32 L a1) fun v586 =>
    .call (laws_heldMatrix_g v586 v587) fun y => .leaf (.int .i64 y, L)
  | _ => .fail
theorem laws_heldMatrix_Fok : COk Try.prog 23 laws_heldMatrix_F true := by
  intro F L H args r L' hs ha hr
  unfold laws_heldMatrix_F at hr
  split at hr
  · rename_i v584 v585 a1 v587
    obtain ⟨v586, hv586, hr⟩ := optT_run hr
    simp only [Tree.run] at hr
    obtain ⟨y, hy, hr⟩ := Option.bind_eq_some_iff.1 hr
    simp only [Tree.run, Option.some.injEq, Prod.mk.injEq] at hr
    obtain ⟨rfl, rfl⟩ := hr
    exact call_ok0 hs (fun k => (([a1.av F] : List AV)[k]?).getD .top) [.agg [.int .i64 v584, .int .i64 v585, a1], .int .i64 v587] [.agg [.int .i64 v584, .int .i64 v585, .bslc (BR.root 0) (.f32 v586)], .int .i64 v587] (fun F' h0 hi hρ => ⟨by simp [DVs.av, DV.av, BR.av, hρ], laws_heldMatrix_fn v584 v585 v586 v587 F' (by rw [hi]; rfl) (st_nil hi) ⟨⟨trivial, trivial, bslc_ok hi (by rw [h0, hρ]; exact rowF32_ok hs (DVs.okAt (DVs.okAt ha 0 rfl) 2 rfl) hv586), trivial⟩, trivial, trivial⟩ hy⟩) rfl
  · cases hr
/-! laws.FnExactAddRow -/
noncomputable def laws_FnExactAddRow_LO (v1 : Int) (v2 : Int) (v3 : List Nat) (v4 : List Nat) : LOr := fun id e L =>
  match id with
  | _ => .fail
noncomputable def laws_FnExactAddRow_tab : List (FuncId × DFn × Bool) := [(15, laws_szMatrix_F, true), (17, laws_toMatrix_F, true), (33, laws_toFloat32S_F, true), (48, spec_AddRow_F, true), (49, impl_AddRow_F, true), (19, laws_eqMatrix_F, true), (20, laws_eqFloat32S_F, true), (21, (orD (fun args => match args with | [.agg [_, _, .nilslc], _] => true | _ => false) laws_markMatrix_i1_F laws_markMatrix_F), false), (22, laws_markFloat32S_F, false), (23, laws_heldMatrix_F, true)]
theorem laws_FnExactAddRow_hO : OrcOk Try.prog (tabD laws_FnExactAddRow_tab) (tabM laws_FnExactAddRow_tab) := tabD_cons laws_szMatrix_Fok (tabD_cons laws_toMatrix_Fok (tabD_cons laws_toFloat32S_Fok (tabD_cons spec_AddRow_Fok (tabD_cons impl_AddRow_Fok (tabD_cons laws_eqMatrix_Fok (tabD_cons laws_eqFloat32S_Fok (tabD_cons (orD_ok (COk.weak laws_markMatrix_i1_Fok) laws_markMatrix_Fok) (tabD_cons laws_markFloat32S_Fok (tabD_cons laws_heldMatrix_Fok (tabD_nil _))))))))))
noncomputable def laws_FnExactAddRow_T (v1 : Int) (v2 : Int) (v3 : List Nat) (v4 : List Nat) : Tree (Bool) :=
  (.br (decide ((1048576 : Int) < ((v4.length : Nat) : Int))) (
   .leaf true
  ) (
   (.br (decide ((laws_szMatrix_v v3 (1048576 : Int)) < (0 : Int))) (
    .leaf true
   ) (
    (.call (laws_toMatrix_g v1 v2 v3) fun v22 =>
    (.call (laws_toFloat32S_g v4) fun v23 =>
    (.call (spec_AddRow_g v22.1 v22.2.1 v22.2.2 v23) fun v241 =>
    (.sum v241 (fun v242 =>
     (.call (laws_toMatrix_g v1 v2 v3) fun v244 =>
     (.call (laws_toFloat32S_g v4) fun v245 =>
     (.call (impl_AddRow_g v244.1 v244.2.1 v244.2.2 v245) fun v523 =>
     (.sum v523 (fun v524 =>
      (.call (laws_eqMatrix_g (0 : Int) (0 : Int) ([] : List Nat) (0 : Int) (0 : Int) ([] : List Nat)) fun v543 =>
      (.br (!v543) (
       .leaf false
      ) (
       (.br (!(false == false)) (
        .leaf false
       ) (
        (.call (laws_toMatrix_g v1 v2 v3) fun v544 =>
        (.call (laws_eqMatrix_g v244.1 v244.2.1 v244.2.2 v544.1 v544.2.1 v544.2.2) fun v545 =>
        (.br (!v545) (
         .leaf false
        ) (
         (.call (laws_toFloat32S_g v4) fun v546 =>
         (.call (laws_eqFloat32S_g v245 v546) fun v547 =>
         (.br (!v547) (
          .leaf false
         ) (
          (.call (laws_markMatrix_g v244.2.2 (1 : Int)) fun v572 =>
          (.grd (decide (v572.2.length = v244.2.2.length)) <|
          (.call (laws_markFloat32S_g v245 v572.1) fun v573 =>
          (.grd (decide (v573.2.length = v245.length)) <|
          (.br (decide (v573.1 < (0 : Int))) (
           .leaf false
          ) (
           (.call (laws_eqMatrix_g (0 : Int) (0 : Int) ([] : List Nat) (0 : Int) (0 : Int) ([] : List Nat)) fun v574 =>
           (.br (!v574) (
            .leaf false
           ) (
            (.br (!(false == false)) (
             .leaf false
            ) (
             (.call (laws_markMatrix_i1_g (1 : Int)) fun v583 =>
             (.call (laws_heldMatrix_g ([] : List Nat) (1 : Int)) fun v600 =>
             (.br (decide (v600 < (0 : Int))) (
              .leaf false
             ) (
              (.br (!decide (v600 = v583)) (
               .leaf false
              ) (
               (.call (laws_toMatrix_g v1 v2 v3) fun v601 =>
               (.call (laws_toFloat32S_g v4) fun v602 =>
               (.call (impl_AddRow_g v601.1 v601.2.1 v601.2.2 v602) fun v603 =>
               (.sum v603 (fun v604 =>
                (.call (laws_eqMatrix_g (0 : Int) (0 : Int) ([] : List Nat) (0 : Int) (0 : Int) ([] : List Nat)) fun v606 =>
                (.br (!v606) (
                 .leaf false
                ) (
                 (.br (!(false == false)) (
                  .leaf false
                 ) (
                  (.call (laws_heldMatrix_g ([] : List Nat) (1 : Int)) fun v607 =>
                  (.br (decide (v607 < (0 : Int))) (
                   .leaf false
                  ) (
                   (.br (!decide (v607 = v583)) (
                    .leaf false
                   ) (
                    .leaf true
                   ))
                  )))
                 ))
                )))
               ) (fun v605 =>
                (.call (laws_eqMatrix_g v605.1 v605.2.1 v605.2.2 (0 : Int) (0 : Int) ([] : List Nat)) fun v608 =>
                (.br (!v608) (
                 .leaf false
                ) (
                 (.br (!(true == false)) (
                  .leaf false
                 ) (
                  (.call (laws_heldMatrix_g ([] : List Nat) (1 : Int)) fun v609 =>
                  (.br (decide (v609 < (0 : Int))) (
                   .leaf false
                  ) (
                   (.br (!decide (v609 = v583)) (
                    .leaf false
                   ) (
                    .leaf true
                   ))
                  )))
                 ))
                )))
               )))))
              ))
             ))))
            ))
           )))
          ))))))
         ))))
        ))))
       ))
      )))
     ) (fun v525 =>
      (.call (laws_eqMatrix_g v525.1 v525.2.1 v525.2.2 (0 : Int) (0 : Int) ([] : List Nat)) fun v610 =>
      (.br (!v610) (
       .leaf false
      ) (
       (.br (!(true == false)) (
        .leaf false
       ) (
        (.call (laws_toMatrix_g v1 v2 v3) fun v611 =>
        (.call (laws_eqMatrix_g v244.1 v244.2.1 v244.2.2 v611.1 v611.2.1 v611.2.2) fun v612 =>
        (.br (!v612) (
         .leaf false
        ) (
         (.call (laws_toFloat32S_g v4) fun v613 =>
         (.call (laws_eqFloat32S_g v245 v613) fun v614 =>
         (.br (!v614) (
          .leaf false
         ) (
          (.call (laws_markMatrix_g v244.2.2 (1 : Int)) fun v615 =>
          (.grd (decide (v615.2.length = v244.2.2.length)) <|
          (.call (laws_markFloat32S_g v245 v615.1) fun v616 =>
          (.grd (decide (v616.2.length = v245.length)) <|
          (.br (decide (v616.1 < (0 : Int))) (
           .leaf false
          ) (
           (.call (laws_eqMatrix_g v525.1 v525.2.1 v525.2.2 (0 : Int) (0 : Int) ([] : List Nat)) fun v617 =>
           (.br (!v617) (
            .leaf false
           ) (
            (.br (!(true == false)) (
             .leaf false
            ) (
             (.call (laws_markMatrix_g v525.2.2 (1 : Int)) fun v618 =>
             (.grd (decide (v618.2.length = v525.2.2.length)) <|
             (.call (laws_heldMatrix_g v618.2 (1 : Int)) fun v619 =>
             (.br (decide (v619 < (0 : Int))) (
              .leaf false
             ) (
              (.br (!decide (v619 = v618.1)) (
               .leaf false
              ) (
               (.call (laws_toMatrix_g v1 v2 v3) fun v620 =>
               (.call (laws_toFloat32S_g v4) fun v621 =>
               (.call (impl_AddRow_g v620.1 v620.2.1 v620.2.2 v621) fun v622 =>
               (.sum v622 (fun v623 =>
                (.call (laws_eqMatrix_g (0 : Int) (0 : Int) ([] : List Nat) (0 : Int) (0 : Int) ([] : List Nat)) fun v625 =>
                (.br (!v625) (
                 .leaf false
                ) (
                 (.br (!(false == false)) (
                  .leaf false
                 ) (
                  (.call (laws_heldMatrix_g v618.2 (1 : Int)) fun v626 =>
                  (.br (decide (v626 < (0 : Int))) (
                   .leaf false
                  ) (
                   (.br (!decide (v626 = v618.1)) (
                    .leaf false
                   ) (
                    .leaf true
                   ))
                  )))
                 ))
                )))
               ) (fun v624 =>
                (.call (laws_eqMatrix_g v624.1 v624.2.1 v624.2.2 (0 : Int) (0 : Int) ([] : List Nat)) fun v627 =>
                (.br (!v627) (
                 .leaf false
                ) (
                 (.br (!(true == false)) (
                  .leaf false
                 ) (
                  (.call (laws_heldMatrix_g v618.2 (1 : Int)) fun v628 =>
                  (.br (decide (v628 < (0 : Int))) (
                   .leaf false
                  ) (
                   (.br (!decide (v628 = v618.1)) (
                    .leaf false
                   ) (
                    .leaf true
                   ))
                  )))
                 ))
                )))
               )))))
              ))
             )))))
            ))
           )))
          ))))))
         ))))
        ))))
       ))
      )))
     )))))
    ) (fun v243 =>
     (.call (laws_toMatrix_g v1 v2 v3) fun v629 =>
     (.call (laws_toFloat32S_g v4) fun v630 =>
     (.call (impl_AddRow_g v629.1 v629.2.1 v629.2.2 v630) fun v631 =>
     (.sum v631 (fun v632 =>
      (.call (laws_eqMatrix_g (0 : Int) (0 : Int) ([] : List Nat) v243.1 v243.2.1 v243.2.2) fun v634 =>
      (.br (!v634) (
       .leaf false
      ) (
       (.br (!(false == true)) (
        .leaf false
       ) (
        (.call (laws_toMatrix_g v1 v2 v3) fun v635 =>
        (.call (laws_eqMatrix_g v629.1 v629.2.1 v629.2.2 v635.1 v635.2.1 v635.2.2) fun v636 =>
        (.br (!v636) (
         .leaf false
        ) (
         (.call (laws_toFloat32S_g v4) fun v637 =>
         (.call (laws_eqFloat32S_g v630 v637) fun v638 =>
         (.br (!v638) (
          .leaf false
         ) (
          (.call (laws_markMatrix_g v629.2.2 (1 : Int)) fun v639 =>
          (.grd (decide (v639.2.length = v629.2.2.length)) <|
          (.call (laws_markFloat32S_g v630 v639.1) fun v640 =>
          (.grd (decide (v640.2.length = v630.length)) <|
          (.br (decide (v640.1 < (0 : Int))) (
           .leaf false
          ) (
           (.call (laws_eqMatrix_g (0 : Int) (0 : Int) ([] : List Nat) v243.1 v243.2.1 v243.2.2) fun v641 =>
           (.br (!v641) (
            .leaf false
           ) (
            (.br (!(false == true)) (
             .leaf false
            ) (
             (.call (laws_markMatrix_i1_g (1 : Int)) fun v642 =>
             (.call (laws_heldMatrix_g ([] : List Nat) (1 : Int)) fun v643 =>
             (.br (decide (v643 < (0 : Int))) (
              .leaf false
             ) (
              (.br (!decide (v643 = v642)) (
               .leaf false
              ) (
               (.call (laws_toMatrix_g v1 v2 v3) fun v644 =>
               (.call (laws_toFloat32S_g v4) fun v645 =>
               (.call (impl_AddRow_g v644.1 v644.2.1 v644.2.2 v645) fun v646 =>
               (.sum v646 (fun v647 =>
                (.call (laws_eqMatrix_g (0 : Int) (0 : Int) ([] : List Nat) v243.1 v243.2.1 v243.2.2) fun v649 =>
                (.br (!v649) (
                 .leaf false
                ) (
                 (.br (!(false == true)) (
                  .leaf false
                 ) (
                  (.call (laws_heldMatrix_g ([] : List Nat) (1 : Int)) fun v650 =>
                  (.br (decide (v650 < (0 : Int))) (
                   .leaf false
                  ) (
                   (.br (!decide (v650 = v642)) (
                    .leaf false
                   ) (
                    .leaf true
                   ))
                  )))
                 ))
                )))
               ) (fun v648 =>
                (.call (laws_eqMatrix_g v648.1 v648.2.1 v648.2.2 v243.1 v243.2.1 v243.2.2) fun v651 =>
                (.br (!v651) (
                 .leaf false
                ) (
                 (.br (!(true == true)) (
                  .leaf false
                 ) (
                  (.call (laws_heldMatrix_g ([] : List Nat) (1 : Int)) fun v652 =>
                  (.br (decide (v652 < (0 : Int))) (
                   .leaf false
                  ) (
                   (.br (!decide (v652 = v642)) (
                    .leaf false
                   ) (
                    .leaf true
                   ))
                  )))
                 ))
                )))
               )))))
              ))
             ))))
            ))
           )))
          ))))))
         ))))
        ))))
       ))
      )))
     ) (fun v633 =>
      (.call (laws_eqMatrix_g v633.1 v633.2.1 v633.2.2 v243.1 v243.2.1 v243.2.2) fun v653 =>
      (.br (!v653) (
       .leaf false
      ) (
       (.br (!(true == true)) (
        .leaf false
       ) (
        (.call (laws_toMatrix_g v1 v2 v3) fun v654 =>
        (.call (laws_eqMatrix_g v629.1 v629.2.1 v629.2.2 v654.1 v654.2.1 v654.2.2) fun v655 =>
        (.br (!v655) (
         .leaf false
        ) (
         (.call (laws_toFloat32S_g v4) fun v656 =>
         (.call (laws_eqFloat32S_g v630 v656) fun v657 =>
         (.br (!v657) (
          .leaf false
         ) (
          (.call (laws_markMatrix_g v629.2.2 (1 : Int)) fun v658 =>
          (.grd (decide (v658.2.length = v629.2.2.length)) <|
          (.call (laws_markFloat32S_g v630 v658.1) fun v659 =>
          (.grd (decide (v659.2.length = v630.length)) <|
          (.br (decide (v659.1 < (0 : Int))) (
           .leaf false
          ) (
           (.call (laws_eqMatrix_g v633.1 v633.2.1 v633.2.2 v243.1 v243.2.1 v243.2.2) fun v660 =>
           (.br (!v660) (
            .leaf false
           ) (
            (.br (!(true == true)) (
             .leaf false
            ) (
             (.call (laws_markMatrix_g v633.2.2 (1 : Int)) fun v661 =>
             (.grd (decide (v661.2.length = v633.2.2.length)) <|
             (.call (laws_heldMatrix_g v661.2 (1 : Int)) fun v662 =>
             (.br (decide (v662 < (0 : Int))) (
              .leaf false
             ) (
              (.br (!decide (v662 = v661.1)) (
               .leaf false
              ) (
               (.call (laws_toMatrix_g v1 v2 v3) fun v663 =>
               (.call (laws_toFloat32S_g v4) fun v664 =>
               (.call (impl_AddRow_g v663.1 v663.2.1 v663.2.2 v664) fun v665 =>
               (.sum v665 (fun v666 =>
                (.call (laws_eqMatrix_g (0 : Int) (0 : Int) ([] : List Nat) v243.1 v243.2.1 v243.2.2) fun v668 =>
                (.br (!v668) (
                 .leaf false
                ) (
                 (.br (!(false == true)) (
                  .leaf false
                 ) (
                  (.call (laws_heldMatrix_g v661.2 (1 : Int)) fun v669 =>
                  (.br (decide (v669 < (0 : Int))) (
                   .leaf false
                  ) (
                   (.br (!decide (v669 = v661.1)) (
                    .leaf false
                   ) (
                    .leaf true
                   ))
                  )))
                 ))
                )))
               ) (fun v667 =>
                (.call (laws_eqMatrix_g v667.1 v667.2.1 v667.2.2 v243.1 v243.2.1 v243.2.2) fun v670 =>
                (.br (!v670) (
                 .leaf false
                ) (
                 (.br (!(true == true)) (
                  .leaf false
                 ) (
                  (.call (laws_heldMatrix_g v661.2 (1 : Int)) fun v671 =>
                  (.br (decide (v671 < (0 : Int))) (
                   .leaf false
                  ) (
                   (.br (!decide (v671 = v661.1)) (
                    .leaf false
                   ) (
                    .leaf true
                   ))
                  )))
                 ))
                )))
               )))))
              ))
             )))))
            ))
           )))
          ))))))
         ))))
        ))))
       ))
      )))
     )))))
    )))))
   ))
  ))

noncomputable def laws_FnExactAddRow_g (v1 : Int) (v2 : Int) (v3 : List Nat) (v4 : List Nat) : Option (Bool) := (laws_FnExactAddRow_T v1 v2 v3 v4).run
def laws_FnExactAddRow_enc (v1 : Int) (v2 : Int) (v3 : List Nat) (v4 : List Nat) (y : Bool) : Rs := (.bool y, [])
theorem laws_FnExactAddRow_den (v1 : Int) (v2 : Int) (v3 : List Nat) (v4 : List Nat) : (den TT (tabD laws_FnExactAddRow_tab) (tabM laws_FnExactAddRow_tab) (laws_FnExactAddRow_LO v1 v2 v3 v4) (codeOf Try.f11) ([.agg [.int .i64 v1, .int .i64 v2, .bslc (BR.root 0) (.f32 v3)], .bslc (BR.root 1) (.f32 v4)] ++ List.replicate (Try.f11.ntmps - ([.agg [.int .i64 v1, .int .i64 v2, .bslc (BR.root 0) (.f32 v3)], .bslc (BR.root 1) (.f32 v4)] : List DV).length) .undef) []).bind (retD TT Try.f11.results.toList 0) = (laws_FnExactAddRow_T v1 v2 v3 v4).bind fun y => .leaf (laws_FnExactAddRow_enc v1 v2 v3 v4 y) := by kernel_rfl
theorem laws_FnExactAddRow_fn (v1 : Int) (v2 : Int) (v3 : List Nat) (v4 : List Nat) (F : Fr) (hm : F.ids.length = 0) (h0 : St F [] F.H0) (hA : DVs.Ok F [] [.agg [.int .i64 v1, .int .i64 v2, .bslc (BR.root 0) (.f32 v3)], .bslc (BR.root 1) (.f32 v4)]) {y : Bool} (hy : laws_FnExactAddRow_g v1 v2 v3 v4 = some y) : ∃ H', FnOk Try.prog 11 (DVs.av F [.agg [.int .i64 v1, .int .i64 v2, .bslc (BR.root 0) (.f32 v3)], .bslc (BR.root 1) (.f32 v4)]) F.H0 ((laws_FnExactAddRow_enc v1 v2 v3 v4 y).1.av F) H' ∧ St F (laws_FnExactAddRow_enc v1 v2 v3 v4 y).2 H' ∧ (laws_FnExactAddRow_enc v1 v2 v3 v4 y).1.Ok F (laws_FnExactAddRow_enc v1 v2 v3 v4 y).2 :=
  fn_fin tok laws_FnExactAddRow_hO mixed Try.func11 Try.call11 (by kernel_rfl) (LoopsOk_eq (l := []) (by kernel_rfl) trivial) (laws_FnExactAddRow_den v1 v2 v3 v4) hy hm h0 hA
noncomputable def laws_FnExactAddRow_F : DFn := fun args L =>
  match args with
  | [.agg [.int .i64 v1, .int .i64 v2, a1], a2] =>
    optT (rowF32 L a1) fun v3 =>
    optT (rowF32 L a2) fun v4 =>
    .call (laws_FnExactAddRow_g v1 v2 v3 v4) fun y => .leaf (.bool y, L)
  | _ => .fail
theorem laws_FnExactAddRow_Fok : COk Try.prog 11 laws_FnExactAddRow_F true := by
  intro F L H args r L' hs ha hr
  unfold laws_FnExactAddRow_F at hr
  split at hr
  · rename_i v1 v2 a1 a2
    obtain ⟨v3, hv3, hr⟩ := optT_run hr
    obtain ⟨v4, hv4, hr⟩ := optT_run hr
    simp only [Tree.run] at hr
    obtain ⟨y, hy, hr⟩ := Option.bind_eq_some_iff.1 hr
    simp only [Tree.run, Option.some.injEq, Prod.mk.injEq] at hr
    obtain ⟨rfl, rfl⟩ := hr
    exact call_ok0 hs (fun k => (([a1.av F, a2.av F] : List AV)[k]?).getD .top) [.agg [.int .i64 v1, .int .i64 v2, a1], a2] [.agg [.int .i64 v1, .int .i64 v2, .bslc (BR.root 0) (.f32 v3)], .bslc (BR.root 1) (.f32 v4)] (fun F' h0 hi hρ => ⟨by simp [DVs.av, DV.av, BR.av, hρ], laws_FnExactAddRow_fn v1 v2 v3 v4 F' (by rw [hi]; rfl) (st_nil hi) ⟨⟨trivial, trivial, bslc_ok hi (by rw [h0, hρ]; exact rowF32_ok hs (DVs.okAt (DVs.okAt ha 0 rfl) 2 rfl) hv3), trivial⟩, bslc_ok hi (by rw [h0, hρ]; exact rowF32_ok hs (DVs.okAt ha 1 rfl) hv4), trivial⟩ hy⟩) rfl
  · cases hr
/-! laws.szFloat32S -/
noncomputable def laws_szFloat32S_len_LO (v680 : Nat) (v681 : Int) : LOr := fun id e L =>
  match id with
  | _ => .fail
noncomputable def laws_szFloat32S_len_tab : List (FuncId × DFn × Bool) := []
theorem laws_szFloat32S_len_hO : OrcOk Try.prog (tabD laws_szFloat32S_len_tab) (tabM laws_szFloat32S_len_tab) := tabD_nil _
noncomputable def laws_szFloat32S_len_T (v680 : Nat) (v681 : Int) : Tree (Int) :=
  (.br (decide (IntKind.i64.wrap (v681 - ((v680 : Nat) : Int)) < (0 : Int))) (
   .leaf (-1 : Int)
  ) (
   .leaf (IntKind.i64.wrap (v681 - ((v680 : Nat) : Int)))
  ))

noncomputable def laws_szFloat32S_len_g (v680 : Nat) (v681 : Int) : Option (Int) := (laws_szFloat32S_len_T v680 v681).run
def laws_szFloat32S_len_enc (v680 : Nat) (v681 : Int) (y : Int) : Rs := (.int .i64 y, [])
theorem laws_szFloat32S_len_den (v680 : Nat) (v681 : Int) : (den TT (tabD laws_szFloat32S_len_tab) (tabM laws_szFloat32S_len_tab) (laws_szFloat32S_len_LO v680 v681) (codeOf Try.f56) ([.hslc (BR.root 0) v680, .int .i64 v681] ++ List.replicate (Try.f56.ntmps - ([.hslc (BR.root 0) v680, .int .i64 v681] : List DV).length) .undef) []).bind (retD TT Try.f56.results.toList 0) = (laws_szFloat32S_len_T v680 v681).bind fun y => .leaf (laws_szFloat32S_len_enc v680 v681 y) := by kernel_rfl
theorem laws_szFloat32S_len_fn (v680 : Nat) (v681 : Int) (F : Fr) (hm : F.ids.length = 0) (h0 : St F [] F.H0) (hA : DVs.Ok F [] [.hslc (BR.root 0) v680, .int .i64 v681]) {y : Int} (hy : laws_szFloat32S_len_g v680 v681 = some y) : ∃ H', FnOk Try.prog 56 (DVs.av F [.hslc (BR.root 0) v680, .int .i64 v681]) F.H0 ((laws_szFloat32S_len_enc v680 v681 y).1.av F) H' ∧ St F (laws_szFloat32S_len_enc v680 v681 y).2 H' ∧ (laws_szFloat32S_len_enc v680 v681 y).1.Ok F (laws_szFloat32S_len_enc v680 v681 y).2 :=
  fn_fin tok laws_szFloat32S_len_hO mixed Try.func56 Try.call56 (by kernel_rfl) (LoopsOk_eq (l := []) (by kernel_rfl) trivial) (laws_szFloat32S_len_den v680 v681) hy hm h0 hA
def laws_szFloat32S_len_v (v680 : Nat) (v681 : Int) : Int :=
  if (decide (IntKind.i64.wrap (v681 - ((v680 : Nat) : Int)) < (0 : Int))) = true then (
   (-1 : Int)
  ) else (
   IntKind.i64.wrap (v681 - ((v680 : Nat) : Int))
  )
theorem laws_szFloat32S_len_tot (v680 : Nat) (v681 : Int) : laws_szFloat32S_len_g v680 v681 = some (laws_szFloat32S_len_v v680 v681) := by
  unfold laws_szFloat32S_len_g laws_szFloat32S_len_T laws_szFloat32S_len_v
  simp only [Tree.run]
  repeat' (first | rfl | split)
noncomputable def laws_szFloat32S_len_F : DFn := fun args L =>
  match args with
  | [a1, .int .i64 v681] =>
    optT (lenV L a1) fun v680 =>
    .leaf (.int .i64 (laws_szFloat32S_len_v v680 v681), L)
  | _ => .fail
theorem laws_szFloat32S_len_Fok : COk Try.prog 56 laws_szFloat32S_len_F true := by
  intro F L H args r L' hs ha hr
  unfold laws_szFloat32S_len_F at hr
  split at hr
  · rename_i a1 v681
    obtain ⟨v680, hv680, hr⟩ := optT_run hr
    have hy := laws_szFloat32S_len_tot v680 v681
    generalize laws_szFloat32S_len_v v680 v681 = y at hy hr
    simp only [Tree.run, Option.some.injEq, Prod.mk.injEq] at hr
    obtain ⟨rfl, rfl⟩ := hr
    exact call_ok0 hs (fun k => (([a1.av F] : List AV)[k]?).getD .top) [a1, .int .i64 v681] [.hslc (BR.root 0) v680, .int .i64 v681] (fun F' h0 hi hρ => ⟨by simp [DVs.av, DV.av, BR.av, hρ], laws_szFloat32S_len_fn v680 v681 F' (by rw [hi]; rfl) (st_nil hi) ⟨hslc_ok hi (by rw [h0, hρ]; exact lenV_ok hs (DVs.okAt ha 0 rfl) hv680), trivial, trivial⟩ hy⟩) rfl
  · cases hr
/-! laws.szMatrix -/
noncomputable def laws_szMatrix_len_LO (v676 : Int) (v677 : Int) (v678 : Nat) (v679 : Int) : LOr := fun id e L =>
  match id with
  | _ => .fail
noncomputable def laws_szMatrix_len_tab : List (FuncId × DFn × Bool) := [(56, laws_szFloat32S_len_F, true)]
theorem laws_szMatrix_len_hO : OrcOk Try.prog (tabD laws_szMatrix_len_tab) (tabM laws_szMatrix_len_tab) := tabD_cons laws_szFloat32S_len_Fok (tabD_nil _)
noncomputable def laws_szMatrix_len_T (v678 : Nat) (v679 : Int) : Tree (Int) :=
  (.br (decide ((laws_szFloat32S_len_v v678 v679) < (0 : Int))) (
   .leaf (-1 : Int)
  ) (
   .leaf (laws_szFloat32S_len_v v678 v679)
  ))

noncomputable def laws_szMatrix_len_g (v678 : Nat) (v679 : Int) : Option (Int) := (laws_szMatrix_len_T v678 v679).run
def laws_szMatrix_len_enc (v676 : Int) (v677 : Int) (v678 : Nat) (v679 : Int) (y : Int) : Rs := (.int .i64 y, [])
theorem laws_szMatrix_len_den (v676 : Int) (v677 : Int) (v678 : Nat) (v679 : Int) : (den TT (tabD laws_szMatrix_len_tab) (tabM laws_szMatrix_len_tab) (laws_szMatrix_len_LO v676 v677 v678 v679) (codeOf Try.f15) ([.agg [.int .i64 v676, .int .i64 v677, .hslc (BR.root 0) v678], .int .i64 v679] ++ List.replicate (Try.f15.ntmps - ([.agg [.int .i64 v676, .int .i64 v677, .hslc (BR.root 0) v678], .int .i64 v679] : List DV).length) .undef) []).bind (retD TT Try.f15.results.toList 0) = (laws_szMatrix_len_T v678 v679).bind fun y => .leaf (laws_szMatrix_len_enc v676 v677 v678 v679 y) := by kernel_rfl
theorem laws_szMatrix_len_fn (v676 : Int) (v677 : Int) (v678 : Nat) (v679 : Int) (F : Fr) (hm : F.ids.length = 0) (h0 : St F [] F.H0) (hA : DVs.Ok F [] [.agg [.int .i64 v676, .int .i64 v677, .hslc (BR.root 0) v678], .int .i64 v679]) {y : Int} (hy : laws_szMatrix_len_g v678 v679 = some y) : ∃ H', FnOk Try.prog 15 (DVs.av F [.agg [.int .i64 v676, .int .i64 v677, .hslc (BR.root 0) v678], .int .i64 v679]) F.H0 ((laws_szMatrix_len_enc v676 v677 v678 v679 y).1.av F) H' ∧ St F (laws_szMatrix_len_enc v676 v677 v678 v679 y).2 H' ∧ (laws_szMatrix_len_enc v676 v677 v678 v679 y).1.Ok F (laws_szMatrix_len_enc v676 v677 v678 v679 y).2 :=
  fn_fin tok laws_szMatrix_len_hO mixed Try.func15 Try.call15 (by kernel_rfl) (LoopsOk_eq (l := []) (by kernel_rfl) trivial) (laws_szMatrix_len_den v676 v677 v678 v679) hy hm h0 hA
def laws_szMatrix_len_v (v678 : Nat) (v679 : Int) : Int :=
  if (decide ((laws_szFloat32S_len_v v678 v679) < (0 : Int))) = true then (
   (-1 : Int)
  ) else (
   (laws_szFloat32S_len_v v678 v679)
  )
theorem laws_szMatrix_len_tot (v678 : Nat) (v679 : Int) : laws_szMatrix_len_g v678 v679 = some (laws_szMatrix_len_v v678 v679) := by
  unfold laws_szMatrix_len_g laws_szMatrix_len_T laws_szMatrix_len_v
  simp only [Tree.run]
  repeat' (first | rfl | split)
noncomputable def laws_szMatrix_len_F : DFn := fun args L =>
  match args with
  | [.agg [.int .i64 v676, .int .i64 v677, a1], .int .i64 v679] =>
    optT (lenV L a1) fun v678 =>
    .leaf (.int .i64 (laws_szMatrix_len_v v678 v679), L)
  | _ => .fail
theorem laws_szMatrix_len_Fok : COk Try.prog 15 laws_szMatrix_len_F true := by
  intro F L H args r L' hs ha hr
  unfold laws_szMatrix_len_F at hr
  split at hr
  · rename_i v676 v677 a1 v679
    obtain ⟨v678, hv678, hr⟩ := optT_run hr
    have hy := laws_szMatrix_len_tot v678 v679
    generalize laws_szMatrix_len_v v678 v679 = y at hy hr
    simp only [Tree.run, Option.some.injEq, Prod.mk.injEq] at hr
    obtain ⟨rfl, rfl⟩ := hr
    exact call_ok0 hs (fun k => (([a1.av F] : List AV)[k]?).getD .top) [.agg [.int .i64 v676, .int .i64 v677, a1], .int .i64 v679] [.agg [.int .i64 v676, .int .i64 v677, .hslc (BR.root 0) v678], .int .i64 v679] (fun F' h0 hi hρ => ⟨by simp [DVs.av, DV.av, BR.av, hρ], laws_szMatrix_len_fn v676 v677 v678 v679 F' (by rw [hi]; rfl) (st_nil hi) ⟨⟨trivial, trivial, hslc_ok hi (by rw [h0, hρ]; exact lenV_ok hs (DVs.okAt (DVs.okAt ha 0 rfl) 2 rfl) hv678), trivial⟩, trivial, trivial⟩ hy⟩) rfl
  · cases hr
/-! laws.FnExactAddRow -/
noncomputable def laws_FnExactAddRow_len_LO (v672 : Int) (v673 : Int) (v674 : Nat) (v675 : Nat) : LOr := fun id e L =>
  match id with
  | _ => .fail
noncomputable def laws_FnExactAddRow_len_tab : List (FuncId × DFn × Bool) := [(15, laws_szMatrix_len_F, true)]
theorem laws_FnExactAddRow_len_hO : OrcOk Try.prog (tabD laws_FnExactAddRow_len_tab) (tabM laws_FnExactAddRow_len_tab) := tabD_cons laws_szMatrix_len_Fok (tabD_nil _)
noncomputable def laws_FnExactAddRow_len_T (v674 : Nat) (v675 : Nat) : Tree (Bool) :=
  (.br (decide ((1048576 : Int) < ((v675 : Nat) : Int))) (
   .leaf true
  ) (
   (.br (decide ((laws_szMatrix_len_v v674 (1048576 : Int)) < (0 : Int))) (
    .leaf true
   ) (
    .fail
   ))
  ))

noncomputable def laws_FnExactAddRow_len_g (v674 : Nat) (v675 : Nat) : Option (Bool) := (laws_FnExactAddRow_len_T v674 v675).run
def laws_FnExactAddRow_len_enc (v672 : Int) (v673 : Int) (v674 : Nat) (v675 : Nat) (y : Bool) : Rs := (.bool y, [])
theorem laws_FnExactAddRow_len_den (v672 : Int) (v673 : Int) (v674 : Nat) (v675 : Nat) : (den TT (tabD laws_FnExactAddRow_len_tab) (tabM laws_FnExactAddRow_len_tab) (laws_FnExactAddRow_len_LO v672 v673 v674 v675) (codeOf Try.f11) ([.agg [.int .i64 v672, .int .i64 v673, .hslc (BR.root 0) v674], .hslc (BR.root 1) v675] ++ List.replicate (Try.f11.ntmps - ([.agg [.int .i64 v672, .int .i64 v673, .hslc (BR.root 0) v674], .hslc (BR.root 1) v675] : List DV).length) .undef) []).bind (retD TT Try.f11.results.toList 0) = (laws_FnExactAddRow_len_T v674 v675).bind fun y => .leaf (laws_FnExactAddRow_len_enc v672 v673 v674 v675 y) := by kernel_rfl
theorem laws_FnExactAddRow_len_fn (v672 : Int) (v673 : Int) (v674 : Nat) (v675 : Nat) (F : Fr) (hm : F.ids.length = 0) (h0 : St F [] F.H0) (hA : DVs.Ok F [] [.agg [.int .i64 v672, .int .i64 v673, .hslc (BR.root 0) v674], .hslc (BR.root 1) v675]) {y : Bool} (hy : laws_FnExactAddRow_len_g v674 v675 = some y) : ∃ H', FnOk Try.prog 11 (DVs.av F [.agg [.int .i64 v672, .int .i64 v673, .hslc (BR.root 0) v674], .hslc (BR.root 1) v675]) F.H0 ((laws_FnExactAddRow_len_enc v672 v673 v674 v675 y).1.av F) H' ∧ St F (laws_FnExactAddRow_len_enc v672 v673 v674 v675 y).2 H' ∧ (laws_FnExactAddRow_len_enc v672 v673 v674 v675 y).1.Ok F (laws_FnExactAddRow_len_enc v672 v673 v674 v675 y).2 :=
  fn_fin tok laws_FnExactAddRow_len_hO mixed Try.func11 Try.call11 (by kernel_rfl) (LoopsOk_eq (l := []) (by kernel_rfl) trivial) (laws_FnExactAddRow_len_den v672 v673 v674 v675) hy hm h0 hA
noncomputable def laws_FnExactAddRow_len_F : DFn := fun args L =>
  match args with
  | [.agg [.int .i64 v672, .int .i64 v673, a1], a2] =>
    optT (lenV L a1) fun v674 =>
    optT (lenV L a2) fun v675 =>
    .call (laws_FnExactAddRow_len_g v674 v675) fun y => .leaf (.bool y, L)
  | _ => .fail
theorem laws_FnExactAddRow_len_Fok : COk Try.prog 11 laws_FnExactAddRow_len_F true := by
  intro F L H args r L' hs ha hr
  unfold laws_FnExactAddRow_len_F at hr
  split at hr
  · rename_i v672 v673 a1 a2
    obtain ⟨v674, hv674, hr⟩ := optT_run hr
    obtain ⟨v675, hv675, hr⟩ := optT_run hr
    simp only [Tree.run] at hr
    obtain ⟨y, hy, hr⟩ := Option.bind_eq_some_iff.1 hr
    simp only [Tree.run, Option.some.injEq, Prod.mk.injEq] at hr
    obtain ⟨rfl, rfl⟩ := hr
    exact call_ok0 hs (fun k => (([a1.av F, a2.av F] : List AV)[k]?).getD .top) [.agg [.int .i64 v672, .int .i64 v673, a1], a2] [.agg [.int .i64 v672, .int .i64 v673, .hslc (BR.root 0) v674], .hslc (BR.root 1) v675] (fun F' h0 hi hρ => ⟨by simp [DVs.av, DV.av, BR.av, hρ], laws_FnExactAddRow_len_fn v672 v673 v674 v675 F' (by rw [hi]; rfl) (st_nil hi) ⟨⟨trivial, trivial, hslc_ok hi (by rw [h0, hρ]; exact lenV_ok hs (DVs.okAt (DVs.okAt ha 0 rfl) 2 rfl) hv674), trivial⟩, hslc_ok hi (by rw [h0, hρ]; exact lenV_ok hs (DVs.okAt ha 1 rfl) hv675), trivial⟩ hy⟩) rfl
  · cases hr
end Go.Proofs.Ytooakheodgndaaa.AM
