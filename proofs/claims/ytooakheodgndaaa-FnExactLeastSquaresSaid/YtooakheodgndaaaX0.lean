/- Functions: what they come to. -/
import Derived.Test.YtooakheodgndaaaBase
set_option maxRecDepth 100000
set_option maxHeartbeats 4000000
set_option linter.unusedSimpArgs false
set_option linter.unusedVariables false
namespace Go.Proofs.Ytooakheodgndaaa.AM
open Go.Proofs
/-! laws.szFloat32S -/
noncomputable def laws_szFloat32S_LO (v9 : List Nat) (v10 : Int) : LOr := fun id e L =>
  match id with
  | _ => .fail
noncomputable def laws_szFloat32S_tab : List (FuncId × DFn × Bool) := []
theorem laws_szFloat32S_hO : OrcOk Try.prog (tabD laws_szFloat32S_tab) (tabM laws_szFloat32S_tab) := tabD_nil _
noncomputable def laws_szFloat32S_T (v9 : List Nat) (v10 : Int) : Tree (Int) :=
  (.br (decide (IntKind.i64.wrap (v10 - ((v9.length : Nat) : Int)) < (0 : Int))) (
   .leaf (-1 : Int)
  ) (
   .leaf (IntKind.i64.wrap (v10 - ((v9.length : Nat) : Int)))
  ))

noncomputable def laws_szFloat32S_g (v9 : List Nat) (v10 : Int) : Option (Int) := (laws_szFloat32S_T v9 v10).run
def laws_szFloat32S_enc (v9 : List Nat) (v10 : Int) (y : Int) : Rs := (.int .i64 y, [])
theorem laws_szFloat32S_den (v9 : List Nat) (v10 : Int) : (den TT (tabD laws_szFloat32S_tab) (tabM laws_szFloat32S_tab) (laws_szFloat32S_LO v9 v10) (codeOf Try.f56) ([.bslc (BR.root 0) (.f32 v9), .int .i64 v10] ++ List.replicate (Try.f56.ntmps - ([.bslc (BR.root 0) (.f32 v9), .int .i64 v10] : List DV).length) .undef) []).bind (retD TT Try.f56.results.toList 0) = (laws_szFloat32S_T v9 v10).bind fun y => .leaf (laws_szFloat32S_enc v9 v10 y) := by kernel_rfl
theorem laws_szFloat32S_fn (v9 : List Nat) (v10 : Int) (F : Fr) (hm : F.ids.length = 0) (h0 : St F [] F.H0) (hA : DVs.Ok F [] [.bslc (BR.root 0) (.f32 v9), .int .i64 v10]) {y : Int} (hy : laws_szFloat32S_g v9 v10 = some y) : ∃ H', FnOk Try.prog 56 (DVs.av F [.bslc (BR.root 0) (.f32 v9), .int .i64 v10]) F.H0 ((laws_szFloat32S_enc v9 v10 y).1.av F) H' ∧ St F (laws_szFloat32S_enc v9 v10 y).2 H' ∧ (laws_szFloat32S_enc v9 v10 y).1.Ok F (laws_szFloat32S_enc v9 v10 y).2 :=
  fn_fin tok laws_szFloat32S_hO mixed Try.func56 Try.call56 (by kernel_rfl) (LoopsOk_eq (l := []) (by kernel_rfl) trivial) (laws_szFloat32S_den v9 v10) hy hm h0 hA
def laws_szFloat32S_v (v9 : List Nat) (v10 : Int) : Int :=
  if (decide (IntKind.i64.wrap (v10 - ((v9.length : Nat) : Int)) < (0 : Int))) = true then (
   (-1 : Int)
  ) else (
   IntKind.i64.wrap (v10 - ((v9.length : Nat) : Int))
  )
theorem laws_szFloat32S_tot (v9 : List Nat) (v10 : Int) : laws_szFloat32S_g v9 v10 = some (laws_szFloat32S_v v9 v10) := by
  unfold laws_szFloat32S_g laws_szFloat32S_T laws_szFloat32S_v
  simp only [Tree.run]
  repeat' (first | rfl | split)
noncomputable def laws_szFloat32S_F : DFn := fun args L =>
  match args with
  | [a1, .int .i64 v10] =>
    optT (rowF32 L a1) fun v9 =>
    .leaf (.int .i64 (laws_szFloat32S_v v9 v10), L)
  | _ => .fail
theorem laws_szFloat32S_Fok : COk Try.prog 56 laws_szFloat32S_F true := by
  intro F L H args r L' hs ha hr
  unfold laws_szFloat32S_F at hr
  split at hr
  · rename_i a1 v10
    obtain ⟨v9, hv9, hr⟩ := optT_run hr
    have hy := laws_szFloat32S_tot v9 v10
    generalize laws_szFloat32S_v v9 v10 = y at hy hr
    simp only [Tree.run, Option.some.injEq, Prod.mk.injEq] at hr
    obtain ⟨rfl, rfl⟩ := hr
    exact call_ok0 hs (fun k => (([a1.av F] : List AV)[k]?).getD .top) [a1, .int .i64 v10] [.bslc (BR.root 0) (.f32 v9), .int .i64 v10] (fun F' h0 hi hρ => ⟨by simp [DVs.av, DV.av, BR.av, hρ], laws_szFloat32S_fn v9 v10 F' (by rw [hi]; rfl) (st_nil hi) ⟨bslc_ok hi (by rw [h0, hρ]; exact rowF32_ok hs (DVs.okAt ha 0 rfl) hv9), trivial, trivial⟩ hy⟩) rfl
  · cases hr
/-! laws.szMatrix -/
noncomputable def laws_szMatrix_LO (v5 : Int) (v6 : Int) (v7 : List Nat) (v8 : Int) : LOr := fun id e L =>
  match id with
  | _ => .fail
noncomputable def laws_szMatrix_tab : List (FuncId × DFn × Bool) := [(56, laws_szFloat32S_F, true)]
theorem laws_szMatrix_hO : OrcOk Try.prog (tabD laws_szMatrix_tab) (tabM laws_szMatrix_tab) := tabD_cons laws_szFloat32S_Fok (tabD_nil _)
noncomputable def laws_szMatrix_T (v7 : List Nat) (v8 : Int) : Tree (Int) :=
  (.br (decide ((laws_szFloat32S_v v7 v8) < (0 : Int))) (
   .leaf (-1 : Int)
  ) (
   .leaf (laws_szFloat32S_v v7 v8)
  ))

noncomputable def laws_szMatrix_g (v7 : List Nat) (v8 : Int) : Option (Int) := (laws_szMatrix_T v7 v8).run
def laws_szMatrix_enc (v5 : Int) (v6 : Int) (v7 : List Nat) (v8 : Int) (y : Int) : Rs := (.int .i64 y, [])
theorem laws_szMatrix_den (v5 : Int) (v6 : Int) (v7 : List Nat) (v8 : Int) : (den TT (tabD laws_szMatrix_tab) (tabM laws_szMatrix_tab) (laws_szMatrix_LO v5 v6 v7 v8) (codeOf Try.f15) ([.agg [.int .i64 v5, .int .i64 v6, .bslc (BR.root 0) (.f32 v7)], .int .i64 v8] ++ List.replicate (Try.f15.ntmps - ([.agg [.int .i64 v5, .int .i64 v6, .bslc (BR.root 0) (.f32 v7)], .int .i64 v8] : List DV).length) .undef) []).bind (retD TT Try.f15.results.toList 0) = (laws_szMatrix_T v7 v8).bind fun y => .leaf (laws_szMatrix_enc v5 v6 v7 v8 y) := by kernel_rfl
theorem laws_szMatrix_fn (v5 : Int) (v6 : Int) (v7 : List Nat) (v8 : Int) (F : Fr) (hm : F.ids.length = 0) (h0 : St F [] F.H0) (hA : DVs.Ok F [] [.agg [.int .i64 v5, .int .i64 v6, .bslc (BR.root 0) (.f32 v7)], .int .i64 v8]) {y : Int} (hy : laws_szMatrix_g v7 v8 = some y) : ∃ H', FnOk Try.prog 15 (DVs.av F [.agg [.int .i64 v5, .int .i64 v6, .bslc (BR.root 0) (.f32 v7)], .int .i64 v8]) F.H0 ((laws_szMatrix_enc v5 v6 v7 v8 y).1.av F) H' ∧ St F (laws_szMatrix_enc v5 v6 v7 v8 y).2 H' ∧ (laws_szMatrix_enc v5 v6 v7 v8 y).1.Ok F (laws_szMatrix_enc v5 v6 v7 v8 y).2 :=
  fn_fin tok laws_szMatrix_hO mixed Try.func15 Try.call15 (by kernel_rfl) (LoopsOk_eq (l := []) (by kernel_rfl) trivial) (laws_szMatrix_den v5 v6 v7 v8) hy hm h0 hA
def laws_szMatrix_v (v7 : List Nat) (v8 : Int) : Int :=
  if (decide ((laws_szFloat32S_v v7 v8) < (0 : Int))) = true then (
   (-1 : Int)
  ) else (
   (laws_szFloat32S_v v7 v8)
  )
theorem laws_szMatrix_tot (v7 : List Nat) (v8 : Int) : laws_szMatrix_g v7 v8 = some (laws_szMatrix_v v7 v8) := by
  unfold laws_szMatrix_g laws_szMatrix_T laws_szMatrix_v
  simp only [Tree.run]
  repeat' (first | rfl | split)
noncomputable def laws_szMatrix_F : DFn := fun args L =>
  match args with
  | [.agg [.int .i64 v5, .int .i64 v6, a1], .int .i64 v8] =>
    optT (rowF32 L a1) fun v7 =>
    .leaf (.int .i64 (laws_szMatrix_v v7 v8), L)
  | _ => .fail
theorem laws_szMatrix_Fok : COk Try.prog 15 laws_szMatrix_F true := by
  intro F L H args r L' hs ha hr
  unfold laws_szMatrix_F at hr
  split at hr
  · rename_i v5 v6 a1 v8
    obtain ⟨v7, hv7, hr⟩ := optT_run hr
    have hy := laws_szMatrix_tot v7 v8
    generalize laws_szMatrix_v v7 v8 = y at hy hr
    simp only [Tree.run, Option.some.injEq, Prod.mk.injEq] at hr
    obtain ⟨rfl, rfl⟩ := hr
    exact call_ok0 hs (fun k => (([a1.av F] : List AV)[k]?).getD .top) [.agg [.int .i64 v5, .int .i64 v6, a1], .int .i64 v8] [.agg [.int .i64 v5, .int .i64 v6, .bslc (BR.root 0) (.f32 v7)], .int .i64 v8] (fun F' h0 hi hρ => ⟨by simp [DVs.av, DV.av, BR.av, hρ], laws_szMatrix_fn v5 v6 v7 v8 F' (by rw [hi]; rfl) (st_nil hi) ⟨⟨trivial, trivial, bslc_ok hi (by rw [h0, hρ]; exact rowF32_ok hs (DVs.okAt (DVs.okAt ha 0 rfl) 2 rfl) hv7), trivial⟩, trivial, trivial⟩ hy⟩) rfl
  · cases hr
/-! laws.toFloat32S -/
noncomputable def laws_toFloat32S_l0_T (v14 : List Nat) (s : Int × (List Nat)) : Tree ((Int × (List Nat)) ⊕ ((List Nat))) :=
  (.br (decide (s.1 < ((v14.length : Nat) : Int))) (
   (.grd (inb s.1 v14.length) <|
   (.grd (inb s.1 ((s.2).length)) <|
   .leaf (.inl (IntKind.i64.wrap (s.1 + (1 : Int)), List.set s.2 (Int.toNat s.1) (nth v14 (Int.toNat s.1))))))
  ) (
   .leaf (.inr s.2)
  ))

noncomputable def laws_toFloat32S_l0_g (v14 : List Nat) (s0 : Int × (List Nat)) : Option ((List Nat)) := whileM (fun s => (laws_toFloat32S_l0_T v14 s).run) s0
def laws_toFloat32S_l0_E (v14 : List Nat) (s : Int × (List Nat)) : Sd := ([.bslc (BR.root 0) (.f32 v14), .top, .top, .own 0 0 ((s.2).length), .int .i64 s.1, .top, .top, .top, .top, .top, .top, .top, .top, .top, .top, .top, .top, .top, .top, .top, .top, .top], [.row (.f32 s.2) 0])
def laws_toFloat32S_l0_X (v14 : List Nat) (x : (List Nat)) : Out := (.normal, [.top, .top, .top, .own 0 0 ((x).length), .top, .top, .top, .top, .top, .top, .top, .top, .top, .top, .top, .top, .top, .top, .top, .top, .top, .top], [.row (.f32 x) 0])
def laws_toFloat32S_l0_kill : List Nat := [0, 1, 1, 0, 0, 1, 1, 1, 1, 1, 1, 1, 1, 1, 1, 1, 1, 1, 1, 1, 1, 1]
def laws_toFloat32S_l0_nx : Exit → List Nat
  | .exit 0 => [1, 1, 1, 0, 1, 1, 1, 1, 1, 1, 1, 1, 1, 1, 1, 1, 1, 1, 1, 1, 1, 1]
  | .ret => [1, 1, 0, 1, 1, 1, 1, 1, 1, 1, 1, 1, 1, 1, 1, 1, 1, 1, 1, 1, 1, 1]
  | _ => []
noncomputable def laws_toFloat32S_LO (v14 : List Nat) : LOr := fun id e L =>
  match id with
  | 0 => .need (normA 0 laws_toFloat32S_l0_kill e L = some (laws_toFloat32S_l0_E v14 ((gI (vAt e 4)), (gRF L (vAt e 3))))) (.call (laws_toFloat32S_l0_g v14 ((gI (vAt e 4)), (gRF L (vAt e 3)))) fun x => .leaf (laws_toFloat32S_l0_X v14 x))
  | _ => .fail
noncomputable def laws_toFloat32S_tab : List (FuncId × DFn × Bool) := []
theorem laws_toFloat32S_hO : OrcOk Try.prog (tabD laws_toFloat32S_tab) (tabM laws_toFloat32S_tab) := tabD_nil _
theorem laws_toFloat32S_l0_be (v14 : List Nat) (s : Int × (List Nat)) : bodyT TT (tabD laws_toFloat32S_tab) (tabM laws_toFloat32S_tab) (laws_toFloat32S_LO v14) 0 laws_toFloat32S_l0_kill laws_toFloat32S_l0_nx (bodyOf Try.f33 0) 0 (laws_toFloat32S_l0_E v14 s) = (laws_toFloat32S_l0_T v14 s).bind fun y => .leaf (outS (laws_toFloat32S_l0_E v14) (laws_toFloat32S_l0_X v14) y) := by kernel_rfl
theorem laws_toFloat32S_l0_ok (v14 : List Nat) : LSound Try.prog 0 (laws_toFloat32S_LO v14) 0 (bodyOf Try.f33 0) := by
  intro e L out h
  exact lo_ok (E := laws_toFloat32S_l0_E v14) (gT := laws_toFloat32S_l0_T v14) (X := laws_toFloat32S_l0_X v14) (s0 := ((gI (vAt e 4)), (gRF L (vAt e 3)))) tok laws_toFloat32S_hO mixed (LoopsOk_eq (l := []) (by kernel_rfl) trivial) (laws_toFloat32S_l0_be v14) rfl (by intro x; rfl) h
noncomputable def laws_toFloat32S_T (v14 : List Nat) : Tree ((List Nat)) :=
  (.need (((v14.length : Nat) : Int) = ((v14.length : Nat) : Int)) <|
  (.grd (inb ((v14.length : Nat) : Int) (maxN + 1)) <|
  (.need (some (laws_toFloat32S_l0_E v14 ((0 : Int), List.replicate (Int.toNat ((v14.length : Nat) : Int)) (0 : Nat))) = some (laws_toFloat32S_l0_E v14 ((0 : Int), List.replicate (Int.toNat ((v14.length : Nat) : Int)) (0 : Nat)))) <|
  (.call (laws_toFloat32S_l0_g v14 ((0 : Int), List.replicate (Int.toNat ((v14.length : Nat) : Int)) (0 : Nat))) fun v20 =>
  .leaf v20))))

noncomputable def laws_toFloat32S_g (v14 : List Nat) : Option ((List Nat)) := (laws_toFloat32S_T v14).run
def laws_toFloat32S_enc (v14 : List Nat) (y : (List Nat)) : Rs := (.own 0 0 ((y).length), [.row (.f32 y) 0])
theorem laws_toFloat32S_den (v14 : List Nat) : (den TT (tabD laws_toFloat32S_tab) (tabM laws_toFloat32S_tab) (laws_toFloat32S_LO v14) (codeOf Try.f33) ([.bslc (BR.root 0) (.f32 v14)] ++ List.replicate (Try.f33.ntmps - ([.bslc (BR.root 0) (.f32 v14)] : List DV).length) .undef) []).bind (retD TT Try.f33.results.toList 0) = (laws_toFloat32S_T v14).bind fun y => .leaf (laws_toFloat32S_enc v14 y) := by kernel_rfl
theorem laws_toFloat32S_fn (v14 : List Nat) (F : Fr) (hm : F.ids.length = 0) (h0 : St F [] F.H0) (hA : DVs.Ok F [] [.bslc (BR.root 0) (.f32 v14)]) {y : (List Nat)} (hy : laws_toFloat32S_g v14 = some y) : ∃ H', FnOk Try.prog 33 (DVs.av F [.bslc (BR.root 0) (.f32 v14)]) F.H0 ((laws_toFloat32S_enc v14 y).1.av F) H' ∧ St F (laws_toFloat32S_enc v14 y).2 H' ∧ (laws_toFloat32S_enc v14 y).1.Ok F (laws_toFloat32S_enc v14 y).2 :=
  fn_fin tok laws_toFloat32S_hO mixed Try.func33 Try.call33 (by kernel_rfl) (LoopsOk_eq (l := [(0, bodyOf Try.f33 0)]) (by kernel_rfl) ⟨laws_toFloat32S_l0_ok v14, trivial⟩) (laws_toFloat32S_den v14) hy hm h0 hA
noncomputable def laws_toFloat32S_F : DFn := fun args L =>
  match args with
  | [a1] =>
    optT (rowF32 L a1) fun v14 =>
    .call (laws_toFloat32S_g v14) fun y => .leaf (.own (L.length + 0) 0 ((y).length), L ++ [.row (.f32 y) 0])
  | _ => .fail
theorem laws_toFloat32S_Fok : COk Try.prog 33 laws_toFloat32S_F true := by
  intro F L H args r L' hs ha hr
  unfold laws_toFloat32S_F at hr
  split at hr
  · rename_i a1
    obtain ⟨v14, hv14, hr⟩ := optT_run hr
    simp only [Tree.run] at hr
    obtain ⟨y, hy, hr⟩ := Option.bind_eq_some_iff.1 hr
    simp only [Tree.run, Option.some.injEq, Prod.mk.injEq] at hr
    obtain ⟨rfl, rfl⟩ := hr
    exact call_ok1 hs (fun k => (([a1.av F] : List AV)[k]?).getD .top) [a1] [.bslc (BR.root 0) (.f32 v14)] (fun F' h0 hi hρ => ⟨by simp [DVs.av, DV.av, BR.av, hρ], laws_toFloat32S_fn v14 F' (by rw [hi]; rfl) (st_nil hi) ⟨bslc_ok hi (by rw [h0, hρ]; exact rowF32_ok hs (DVs.okAt ha 0 rfl) hv14), trivial⟩ hy⟩) rfl rfl
  · cases hr
/-! laws.toMatrix -/
noncomputable def laws_toMatrix_LO (v11 : Int) (v12 : Int) (v13 : List Nat) : LOr := fun id e L =>
  match id with
  | _ => .fail
noncomputable def laws_toMatrix_tab : List (FuncId × DFn × Bool) := [(33, laws_toFloat32S_F, true)]
theorem laws_toMatrix_hO : OrcOk Try.prog (tabD laws_toMatrix_tab) (tabM laws_toMatrix_tab) := tabD_cons laws_toFloat32S_Fok (tabD_nil _)
noncomputable def laws_toMatrix_T (v11 : Int) (v12 : Int) (v13 : List Nat) : Tree (Int × Int × (List Nat)) :=
  (.call (laws_toFloat32S_g v13) fun v21 =>
  .leaf (v11, v12, v21))

noncomputable def laws_toMatrix_g (v11 : Int) (v12 : Int) (v13 : List Nat) : Option (Int × Int × (List Nat)) := (laws_toMatrix_T v11 v12 v13).run
def laws_toMatrix_enc (v11 : Int) (v12 : Int) (v13 : List Nat) (y : Int × Int × (List Nat)) : Rs := (.agg [.int .i64 y.1, .int .i64 y.2.1, .own 0 0 ((y.2.2).length)], [.row (.f32 y.2.2) 0])
theorem laws_toMatrix_den (v11 : Int) (v12 : Int) (v13 : List Nat) : (den TT (tabD laws_toMatrix_tab) (tabM laws_toMatrix_tab) (laws_toMatrix_LO v11 v12 v13) (codeOf Try.f17) ([.agg [.int .i64 v11, .int .i64 v12, .bslc (BR.root 0) (.f32 v13)]] ++ List.replicate (Try.f17.ntmps - ([.agg [.int .i64 v11, .int .i64 v12, .bslc (BR.root 0) (.f32 v13)]] : List DV).length) .undef) []).bind (retD TT Try.f17.results.toList 0) = (laws_toMatrix_T v11 v12 v13).bind fun y => .leaf (laws_toMatrix_enc v11 v12 v13 y) := by kernel_rfl
theorem laws_toMatrix_fn (v11 : Int) (v12 : Int) (v13 : List Nat) (F : Fr) (hm : F.ids.length = 0) (h0 : St F [] F.H0) (hA : DVs.Ok F [] [.agg [.int .i64 v11, .int .i64 v12, .bslc (BR.root 0) (.f32 v13)]]) {y : Int × Int × (List Nat)} (hy : laws_toMatrix_g v11 v12 v13 = some y) : ∃ H', FnOk Try.prog 17 (DVs.av F [.agg [.int .i64 v11, .int .i64 v12, .bslc (BR.root 0) (.f32 v13)]]) F.H0 ((laws_toMatrix_enc v11 v12 v13 y).1.av F) H' ∧ St F (laws_toMatrix_enc v11 v12 v13 y).2 H' ∧ (laws_toMatrix_enc v11 v12 v13 y).1.Ok F (laws_toMatrix_enc v11 v12 v13 y).2 :=
  fn_fin tok laws_toMatrix_hO mixed Try.func17 Try.call17 (by kernel_rfl) (LoopsOk_eq (l := []) (by kernel_rfl) trivial) (laws_toMatrix_den v11 v12 v13) hy hm h0 hA
noncomputable def laws_toMatrix_F : DFn := fun args L =>
  match args with
  | [.agg [.int .i64 v11, .int .i64 v12, a1]] =>
    optT (rowF32 L a1) fun v13 =>
    .call (laws_toMatrix_g v11 v12 v13) fun y => .leaf (.agg [.int .i64 y.1, .int .i64 y.2.1, .own (L.length + 0) 0 ((y.2.2).length)], L ++ [.row (.f32 y.2.2) 0])
  | _ => .fail
theorem laws_toMatrix_Fok : COk Try.prog 17 laws_toMatrix_F true := by
  intro F L H args r L' hs ha hr
  unfold laws_toMatrix_F at hr
  split at hr
  · rename_i v11 v12 a1
    obtain ⟨v13, hv13, hr⟩ := optT_run hr
    simp only [Tree.run] at hr
    obtain ⟨y, hy, hr⟩ := Option.bind_eq_some_iff.1 hr
    simp only [Tree.run, Option.some.injEq, Prod.mk.injEq] at hr
    obtain ⟨rfl, rfl⟩ := hr
    exact call_ok1 hs (fun k => (([a1.av F] : List AV)[k]?).getD .top) [.agg [.int .i64 v11, .int .i64 v12, a1]] [.agg [.int .i64 v11, .int .i64 v12, .bslc (BR.root 0) (.f32 v13)]] (fun F' h0 hi hρ => ⟨by simp [DVs.av, DV.av, BR.av, hρ], laws_toMatrix_fn v11 v12 v13 F' (by rw [hi]; rfl) (st_nil hi) ⟨⟨trivial, trivial, bslc_ok hi (by rw [h0, hρ]; exact rowF32_ok hs (DVs.okAt (DVs.okAt ha 0 rfl) 2 rfl) hv13), trivial⟩, trivial⟩ hy⟩) rfl rfl
  · cases hr
/-! spec.l00In -/
noncomputable def spec_l00In_LO (v33 : Int) (v34 : Int) (v35 : Int) : LOr := fun id e L =>
  match id with
  | _ => .fail
noncomputable def spec_l00In_tab : List (FuncId × DFn × Bool) := []
theorem spec_l00In_hO : OrcOk Try.prog (tabD spec_l00In_tab) (tabM spec_l00In_tab) := tabD_nil _
noncomputable def spec_l00In_T (v33 : Int) (v34 : Int) (v35 : Int) : Tree (Bool) :=
  (.br (decide (v34 ≤ v33)) (
   .leaf (decide (v33 ≤ v35))
  ) (
   .leaf false
  ))

noncomputable def spec_l00In_g (v33 : Int) (v34 : Int) (v35 : Int) : Option (Bool) := (spec_l00In_T v33 v34 v35).run
def spec_l00In_enc (v33 : Int) (v34 : Int) (v35 : Int) (y : Bool) : Rs := (.bool y, [])
theorem spec_l00In_den (v33 : Int) (v34 : Int) (v35 : Int) : (den TT (tabD spec_l00In_tab) (tabM spec_l00In_tab) (spec_l00In_LO v33 v34 v35) (codeOf Try.f70) ([.int .i64 v33, .int .i64 v34, .int .i64 v35] ++ List.replicate (Try.f70.ntmps - ([.int .i64 v33, .int .i64 v34, .int .i64 v35] : List DV).length) .undef) []).bind (retD TT Try.f70.results.toList 0) = (spec_l00In_T v33 v34 v35).bind fun y => .leaf (spec_l00In_enc v33 v34 v35 y) := by kernel_rfl
theorem spec_l00In_fn (v33 : Int) (v34 : Int) (v35 : Int) (F : Fr) (hm : F.ids.length = 0) (h0 : St F [] F.H0) (hA : DVs.Ok F [] [.int .i64 v33, .int .i64 v34, .int .i64 v35]) {y : Bool} (hy : spec_l00In_g v33 v34 v35 = some y) : ∃ H', FnOk Try.prog 70 (DVs.av F [.int .i64 v33, .int .i64 v34, .int .i64 v35]) F.H0 ((spec_l00In_enc v33 v34 v35 y).1.av F) H' ∧ St F (spec_l00In_enc v33 v34 v35 y).2 H' ∧ (spec_l00In_enc v33 v34 v35 y).1.Ok F (spec_l00In_enc v33 v34 v35 y).2 :=
  fn_fin tok spec_l00In_hO mixed Try.func70 Try.call70 (by kernel_rfl) (LoopsOk_eq (l := []) (by kernel_rfl) trivial) (spec_l00In_den v33 v34 v35) hy hm h0 hA
def spec_l00In_v (v33 : Int) (v34 : Int) (v35 : Int) : Bool :=
  if (decide (v34 ≤ v33)) = true then (
   decide (v33 ≤ v35)
  ) else (
   false
  )
theorem spec_l00In_tot (v33 : Int) (v34 : Int) (v35 : Int) : spec_l00In_g v33 v34 v35 = some (spec_l00In_v v33 v34 v35) := by
  unfold spec_l00In_g spec_l00In_T spec_l00In_v
  simp only [Tree.run]
  repeat' (first | rfl | split)
noncomputable def spec_l00In_F : DFn := fun args L =>
  match args with
  | [.int .i64 v33, .int .i64 v34, .int .i64 v35] =>
    .leaf (.bool (spec_l00In_v v33 v34 v35), L)
  | _ => .fail
theorem spec_l00In_Fok : COk Try.prog 70 spec_l00In_F true := by
  intro F L H args r L' hs ha hr
  unfold spec_l00In_F at hr
  split at hr
  · rename_i v33 v34 v35
    have hy := spec_l00In_tot v33 v34 v35
    generalize spec_l00In_v v33 v34 v35 = y at hy hr
    simp only [Tree.run, Option.some.injEq, Prod.mk.injEq] at hr
    obtain ⟨rfl, rfl⟩ := hr
    exact call_ok0 hs (fun k => (([] : List AV)[k]?).getD .top) [.int .i64 v33, .int .i64 v34, .int .i64 v35] [.int .i64 v33, .int .i64 v34, .int .i64 v35] (fun F' h0 hi hρ => ⟨by simp [DVs.av, DV.av, BR.av, hρ], spec_l00In_fn v33 v34 v35 F' (by rw [hi]; rfl) (st_nil hi) ⟨trivial, trivial, trivial, trivial⟩ hy⟩) rfl
  · cases hr
/-! spec.l02Sides -/
noncomputable def spec_l02Sides_LO (v31 : Int) (v32 : Int) : LOr := fun id e L =>
  match id with
  | _ => .fail
noncomputable def spec_l02Sides_tab : List (FuncId × DFn × Bool) := [(70, spec_l00In_F, true)]
theorem spec_l02Sides_hO : OrcOk Try.prog (tabD spec_l02Sides_tab) (tabM spec_l02Sides_tab) := tabD_cons spec_l00In_Fok (tabD_nil _)
noncomputable def spec_l02Sides_T (v31 : Int) (v32 : Int) : Tree (Bool) :=
  (.br (spec_l00In_v v31 (1 : Int) (12 : Int)) (
   .leaf (spec_l00In_v v32 (1 : Int) (12 : Int))
  ) (
   .leaf false
  ))

noncomputable def spec_l02Sides_g (v31 : Int) (v32 : Int) : Option (Bool) := (spec_l02Sides_T v31 v32).run
def spec_l02Sides_enc (v31 : Int) (v32 : Int) (y : Bool) : Rs := (.bool y, [])
theorem spec_l02Sides_den (v31 : Int) (v32 : Int) : (den TT (tabD spec_l02Sides_tab) (tabM spec_l02Sides_tab) (spec_l02Sides_LO v31 v32) (codeOf Try.f134) ([.int .i64 v31, .int .i64 v32] ++ List.replicate (Try.f134.ntmps - ([.int .i64 v31, .int .i64 v32] : List DV).length) .undef) []).bind (retD TT Try.f134.results.toList 0) = (spec_l02Sides_T v31 v32).bind fun y => .leaf (spec_l02Sides_enc v31 v32 y) := by kernel_rfl
theorem spec_l02Sides_fn (v31 : Int) (v32 : Int) (F : Fr) (hm : F.ids.length = 0) (h0 : St F [] F.H0) (hA : DVs.Ok F [] [.int .i64 v31, .int .i64 v32]) {y : Bool} (hy : spec_l02Sides_g v31 v32 = some y) : ∃ H', FnOk Try.prog 134 (DVs.av F [.int .i64 v31, .int .i64 v32]) F.H0 ((spec_l02Sides_enc v31 v32 y).1.av F) H' ∧ St F (spec_l02Sides_enc v31 v32 y).2 H' ∧ (spec_l02Sides_enc v31 v32 y).1.Ok F (spec_l02Sides_enc v31 v32 y).2 :=
  fn_fin tok spec_l02Sides_hO mixed Try.func134 Try.call134 (by kernel_rfl) (LoopsOk_eq (l := []) (by kernel_rfl) trivial) (spec_l02Sides_den v31 v32) hy hm h0 hA
def spec_l02Sides_v (v31 : Int) (v32 : Int) : Bool :=
  if (spec_l00In_v v31 (1 : Int) (12 : Int)) = true then (
   (spec_l00In_v v32 (1 : Int) (12 : Int))
  ) else (
   false
  )
theorem spec_l02Sides_tot (v31 : Int) (v32 : Int) : spec_l02Sides_g v31 v32 = some (spec_l02Sides_v v31 v32) := by
  unfold spec_l02Sides_g spec_l02Sides_T spec_l02Sides_v
  simp only [Tree.run]
  repeat' (first | rfl | split)
noncomputable def spec_l02Sides_F : DFn := fun args L =>
  match args with
  | [.int .i64 v31, .int .i64 v32] =>
    .leaf (.bool (spec_l02Sides_v v31 v32), L)
  | _ => .fail
theorem spec_l02Sides_Fok : COk Try.prog 134 spec_l02Sides_F true := by
  intro F L H args r L' hs ha hr
  unfold spec_l02Sides_F at hr
  split at hr
  · rename_i v31 v32
    have hy := spec_l02Sides_tot v31 v32
    generalize spec_l02Sides_v v31 v32 = y at hy hr
    simp only [Tree.run, Option.some.injEq, Prod.mk.injEq] at hr
    obtain ⟨rfl, rfl⟩ := hr
    exact call_ok0 hs (fun k => (([] : List AV)[k]?).getD .top) [.int .i64 v31, .int .i64 v32] [.int .i64 v31, .int .i64 v32] (fun F' h0 hi hρ => ⟨by simp [DVs.av, DV.av, BR.av, hρ], spec_l02Sides_fn v31 v32 F' (by rw [hi]; rfl) (st_nil hi) ⟨trivial, trivial, trivial⟩ hy⟩) rfl
  · cases hr
/-! spec.l01Finite -/
noncomputable def spec_l01Finite_LO (v38 : Nat) : LOr := fun id e L =>
  match id with
  | _ => .fail
noncomputable def spec_l01Finite_tab : List (FuncId × DFn × Bool) := []
theorem spec_l01Finite_hO : OrcOk Try.prog (tabD spec_l01Finite_tab) (tabM spec_l01Finite_tab) := tabD_nil _
noncomputable def spec_l01Finite_T (v38 : Nat) : Tree (Bool) :=
  .leaf (feq .f32 (fsub .f32 v38 v38) (0 : Nat))

noncomputable def spec_l01Finite_g (v38 : Nat) : Option (Bool) := (spec_l01Finite_T v38).run
def spec_l01Finite_enc (v38 : Nat) (y : Bool) : Rs := (.bool y, [])
theorem spec_l01Finite_den (v38 : Nat) : (den TT (tabD spec_l01Finite_tab) (tabM spec_l01Finite_tab) (spec_l01Finite_LO v38) (codeOf Try.f60) ([.flt .f32 v38] ++ List.replicate (Try.f60.ntmps - ([.flt .f32 v38] : List DV).length) .undef) []).bind (retD TT Try.f60.results.toList 0) = (spec_l01Finite_T v38).bind fun y => .leaf (spec_l01Finite_enc v38 y) := by kernel_rfl
theorem spec_l01Finite_fn (v38 : Nat) (F : Fr) (hm : F.ids.length = 0) (h0 : St F [] F.H0) (hA : DVs.Ok F [] [.flt .f32 v38]) {y : Bool} (hy : spec_l01Finite_g v38 = some y) : ∃ H', FnOk Try.prog 60 (DVs.av F [.flt .f32 v38]) F.H0 ((spec_l01Finite_enc v38 y).1.av F) H' ∧ St F (spec_l01Finite_enc v38 y).2 H' ∧ (spec_l01Finite_enc v38 y).1.Ok F (spec_l01Finite_enc v38 y).2 :=
  fn_fin tok spec_l01Finite_hO mixed Try.func60 Try.call60 (by kernel_rfl) (LoopsOk_eq (l := []) (by kernel_rfl) trivial) (spec_l01Finite_den v38) hy hm h0 hA
def spec_l01Finite_v (v38 : Nat) : Bool :=
  feq .f32 (fsub .f32 v38 v38) (0 : Nat)
theorem spec_l01Finite_tot (v38 : Nat) : spec_l01Finite_g v38 = some (spec_l01Finite_v v38) := by
  unfold spec_l01Finite_g spec_l01Finite_T spec_l01Finite_v
  simp only [Tree.run]
  repeat' (first | rfl | split)
noncomputable def spec_l01Finite_F : DFn := fun args L =>
  match args with
  | [.flt .f32 v38] =>
    .leaf (.bool (spec_l01Finite_v v38), L)
  | _ => .fail
theorem spec_l01Finite_Fok : COk Try.prog 60 spec_l01Finite_F true := by
  intro F L H args r L' hs ha hr
  unfold spec_l01Finite_F at hr
  split at hr
  · rename_i v38
    have hy := spec_l01Finite_tot v38
    generalize spec_l01Finite_v v38 = y at hy hr
    simp only [Tree.run, Option.some.injEq, Prod.mk.injEq] at hr
    obtain ⟨rfl, rfl⟩ := hr
    exact call_ok0 hs (fun k => (([] : List AV)[k]?).getD .top) [.flt .f32 v38] [.flt .f32 v38] (fun F' h0 hi hρ => ⟨by simp [DVs.av, DV.av, BR.av, hρ], spec_l01Finite_fn v38 F' (by rw [hi]; rfl) (st_nil hi) ⟨trivial, trivial⟩ hy⟩) rfl
  · cases hr
/-! spec.l02Finite -/
noncomputable def spec_l02Finite_l0_T (v36 : List Nat) (s : Int) : Tree ((Int) ⊕ ((Unit) ⊕ (Unit))) :=
  (.br (decide (s < ((v36.length : Nat) : Int))) (
   (.grd (inb s v36.length) <|
   (.br (!(spec_l01Finite_v (nth v36 (Int.toNat s)))) (
    .leaf (.inr (.inl ()))
   ) (
    .leaf (.inl (IntKind.i64.wrap (s + (1 : Int))))
   )))
  ) (
   .leaf (.inr (.inr ()))
  ))

noncomputable def spec_l02Finite_l0_g (v36 : List Nat) (s0 : Int) : Option ((Unit) ⊕ (Unit)) := whileM (fun s => (spec_l02Finite_l0_T v36 s).run) s0
def spec_l02Finite_l0_E (v36 : List Nat) (s : Int) : Sd := ([.bslc (BR.root 0) (.f32 v36), .top, .top, .int .i64 s, .top, .top, .top, .top, .top, .top, .top, .top, .top, .top, .top, .top], [])
def spec_l02Finite_l0_X (v36 : List Nat) (x : (Unit) ⊕ (Unit)) : Out := (match x with | .inl x => (.ret, [.top, .top, .lit false, .top, .top, .top, .top, .top, .top, .top, .top, .top, .top, .top, .top, .top], []) | .inr x => (.normal, [.top, .top, .top, .top, .top, .top, .top, .top, .top, .top, .top, .top, .top, .top, .top, .top], []))
def spec_l02Finite_l0_kill : List Nat := [0, 1, 1, 0, 1, 1, 1, 1, 1, 1, 1, 1, 1, 1, 1, 1]
def spec_l02Finite_l0_nx : Exit → List Nat
  | .exit 0 => [1, 1, 1, 1, 1, 1, 1, 1, 1, 1, 1, 1, 1, 1, 1, 1]
  | .ret => [1, 1, 0, 1, 1, 1, 1, 1, 1, 1, 1, 1, 1, 1, 1, 1]
  | _ => []
noncomputable def spec_l02Finite_LO (v36 : List Nat) : LOr := fun id e L =>
  match id with
  | 0 => .need (normA 0 spec_l02Finite_l0_kill e L = some (spec_l02Finite_l0_E v36 (gI (vAt e 3)))) (.call (spec_l02Finite_l0_g v36 (gI (vAt e 3))) fun x => .sum x (fun b0 => .leaf (spec_l02Finite_l0_X v36 (.inl b0))) (fun c0 => .leaf (spec_l02Finite_l0_X v36 (.inr c0))))
  | _ => .fail
noncomputable def spec_l02Finite_tab : List (FuncId × DFn × Bool) := [(60, spec_l01Finite_F, true)]
theorem spec_l02Finite_hO : OrcOk Try.prog (tabD spec_l02Finite_tab) (tabM spec_l02Finite_tab) := tabD_cons spec_l01Finite_Fok (tabD_nil _)
theorem spec_l02Finite_l0_be (v36 : List Nat) (s : Int) : bodyT TT (tabD spec_l02Finite_tab) (tabM spec_l02Finite_tab) (spec_l02Finite_LO v36) 0 spec_l02Finite_l0_kill spec_l02Finite_l0_nx (bodyOf Try.f135 0) 0 (spec_l02Finite_l0_E v36 s) = (spec_l02Finite_l0_T v36 s).bind fun y => .leaf (outS (spec_l02Finite_l0_E v36) (spec_l02Finite_l0_X v36) y) := by kernel_rfl
theorem spec_l02Finite_l0_ok (v36 : List Nat) : LSound Try.prog 0 (spec_l02Finite_LO v36) 0 (bodyOf Try.f135 0) := by
  intro e L out h
  exact lo_ok (E := spec_l02Finite_l0_E v36) (gT := spec_l02Finite_l0_T v36) (X := spec_l02Finite_l0_X v36) (s0 := (gI (vAt e 3))) tok spec_l02Finite_hO mixed (LoopsOk_eq (l := []) (by kernel_rfl) trivial) (spec_l02Finite_l0_be v36) rfl (by intro x; (cases x with | inl b => rfl | inr x => exact rfl)) h
noncomputable def spec_l02Finite_T (v36 : List Nat) : Tree (Bool) :=
  (.need (some (spec_l02Finite_l0_E v36 (0 : Int)) = some (spec_l02Finite_l0_E v36 (0 : Int))) <|
  (.call (spec_l02Finite_l0_g v36 (0 : Int)) fun v41 =>
  (.sum v41 (fun v42 =>
   .leaf false
  ) (fun v43 =>
   .leaf true
  ))))

noncomputable def spec_l02Finite_g (v36 : List Nat) : Option (Bool) := (spec_l02Finite_T v36).run
def spec_l02Finite_enc (v36 : List Nat) (y : Bool) : Rs := (.bool y, [])
theorem spec_l02Finite_den (v36 : List Nat) : (den TT (tabD spec_l02Finite_tab) (tabM spec_l02Finite_tab) (spec_l02Finite_LO v36) (codeOf Try.f135) ([.bslc (BR.root 0) (.f32 v36)] ++ List.replicate (Try.f135.ntmps - ([.bslc (BR.root 0) (.f32 v36)] : List DV).length) .undef) []).bind (retD TT Try.f135.results.toList 0) = (spec_l02Finite_T v36).bind fun y => .leaf (spec_l02Finite_enc v36 y) := by kernel_rfl
theorem spec_l02Finite_fn (v36 : List Nat) (F : Fr) (hm : F.ids.length = 0) (h0 : St F [] F.H0) (hA : DVs.Ok F [] [.bslc (BR.root 0) (.f32 v36)]) {y : Bool} (hy : spec_l02Finite_g v36 = some y) : ∃ H', FnOk Try.prog 135 (DVs.av F [.bslc (BR.root 0) (.f32 v36)]) F.H0 ((spec_l02Finite_enc v36 y).1.av F) H' ∧ St F (spec_l02Finite_enc v36 y).2 H' ∧ (spec_l02Finite_enc v36 y).1.Ok F (spec_l02Finite_enc v36 y).2 :=
  fn_fin tok spec_l02Finite_hO mixed Try.func135 Try.call135 (by kernel_rfl) (LoopsOk_eq (l := [(0, bodyOf Try.f135 0)]) (by kernel_rfl) ⟨spec_l02Finite_l0_ok v36, trivial⟩) (spec_l02Finite_den v36) hy hm h0 hA
noncomputable def spec_l02Finite_F : DFn := fun args L =>
  match args with
  | [a1] =>
    optT (rowF32 L a1) fun v36 =>
    .call (spec_l02Finite_g v36) fun y => .leaf (.bool y, L)
  | _ => .fail
theorem spec_l02Finite_Fok : COk Try.prog 135 spec_l02Finite_F true := by
  intro F L H args r L' hs ha hr
  unfold spec_l02Finite_F at hr
  split at hr
  · rename_i a1
    obtain ⟨v36, hv36, hr⟩ := optT_run hr
    simp only [Tree.run] at hr
    obtain ⟨y, hy, hr⟩ := Option.bind_eq_some_iff.1 hr
    simp only [Tree.run, Option.some.injEq, Prod.mk.injEq] at hr
    obtain ⟨rfl, rfl⟩ := hr
    exact call_ok0 hs (fun k => (([a1.av F] : List AV)[k]?).getD .top) [a1] [.bslc (BR.root 0) (.f32 v36)] (fun F' h0 hi hρ => ⟨by simp [DVs.av, DV.av, BR.av, hρ], spec_l02Finite_fn v36 F' (by rw [hi]; rfl) (st_nil hi) ⟨bslc_ok hi (by rw [h0, hρ]; exact rowF32_ok hs (DVs.okAt ha 0 rfl) hv36), trivial⟩ hy⟩) rfl
  · cases hr
/-! spec.l02Is -/
noncomputable def spec_l02Is_LO (v28 : Int) (v29 : Int) (v30 : List Nat) : LOr := fun id e L =>
  match id with
  | _ => .fail
noncomputable def spec_l02Is_tab : List (FuncId × DFn × Bool) := [(134, spec_l02Sides_F, true), (135, spec_l02Finite_F, true)]
theorem spec_l02Is_hO : OrcOk Try.prog (tabD spec_l02Is_tab) (tabM spec_l02Is_tab) := tabD_cons spec_l02Sides_Fok (tabD_cons spec_l02Finite_Fok (tabD_nil _))
noncomputable def spec_l02Is_T (v28 : Int) (v29 : Int) (v30 : List Nat) : Tree (Bool) :=
  (.br (spec_l02Sides_v v28 v29) (
   (.br (decide (((v30.length : Nat) : Int) = IntKind.i64.wrap (v28 * v29))) (
    (.call (spec_l02Finite_g v30) fun v44 =>
    .leaf v44)
   ) (
    .leaf false
   ))
  ) (
   .leaf false
  ))

noncomputable def spec_l02Is_g (v28 : Int) (v29 : Int) (v30 : List Nat) : Option (Bool) := (spec_l02Is_T v28 v29 v30).run
def spec_l02Is_enc (v28 : Int) (v29 : Int) (v30 : List Nat) (y : Bool) : Rs := (.bool y, [])
theorem spec_l02Is_den (v28 : Int) (v29 : Int) (v30 : List Nat) : (den TT (tabD spec_l02Is_tab) (tabM spec_l02Is_tab) (spec_l02Is_LO v28 v29 v30) (codeOf Try.f61) ([.bptr (BR.root 0) [.int .i64 v28, .int .i64 v29, .bslc (BR.root 1) (.f32 v30)]] ++ List.replicate (Try.f61.ntmps - ([.bptr (BR.root 0) [.int .i64 v28, .int .i64 v29, .bslc (BR.root 1) (.f32 v30)]] : List DV).length) .undef) []).bind (retD TT Try.f61.results.toList 0) = (spec_l02Is_T v28 v29 v30).bind fun y => .leaf (spec_l02Is_enc v28 v29 v30 y) := by kernel_rfl
theorem spec_l02Is_fn (v28 : Int) (v29 : Int) (v30 : List Nat) (F : Fr) (hm : F.ids.length = 0) (h0 : St F [] F.H0) (hA : DVs.Ok F [] [.bptr (BR.root 0) [.int .i64 v28, .int .i64 v29, .bslc (BR.root 1) (.f32 v30)]]) {y : Bool} (hy : spec_l02Is_g v28 v29 v30 = some y) : ∃ H', FnOk Try.prog 61 (DVs.av F [.bptr (BR.root 0) [.int .i64 v28, .int .i64 v29, .bslc (BR.root 1) (.f32 v30)]]) F.H0 ((spec_l02Is_enc v28 v29 v30 y).1.av F) H' ∧ St F (spec_l02Is_enc v28 v29 v30 y).2 H' ∧ (spec_l02Is_enc v28 v29 v30 y).1.Ok F (spec_l02Is_enc v28 v29 v30 y).2 :=
  fn_fin tok spec_l02Is_hO mixed Try.func61 Try.call61 (by kernel_rfl) (LoopsOk_eq (l := []) (by kernel_rfl) trivial) (spec_l02Is_den v28 v29 v30) hy hm h0 hA
noncomputable def spec_l02Is_F : DFn := fun args L =>
  match args with
  | [a1] =>
    optT (cellsOf L 3 a1) fun cs0 =>
    (match cs0 with
    | [.int .i64 v28, .int .i64 v29, a2] =>
    optT (rowF32 L a2) fun v30 =>
    .call (spec_l02Is_g v28 v29 v30) fun y => .leaf (.bool y, L)
    | _ => .fail)
  | _ => .fail
theorem spec_l02Is_Fok : COk Try.prog 61 spec_l02Is_F true := by
  intro F L H args r L' hs ha hr
  unfold spec_l02Is_F at hr
  split at hr
  · rename_i a1
    obtain ⟨cs0, hcp0, hr⟩ := optT_run hr
    split at hr
    · rename_i v28 v29 a2
      obtain ⟨v30, hv30, hr⟩ := optT_run hr
      simp only [Tree.run] at hr
      obtain ⟨y, hy, hr⟩ := Option.bind_eq_some_iff.1 hr
      simp only [Tree.run, Option.some.injEq, Prod.mk.injEq] at hr
      obtain ⟨rfl, rfl⟩ := hr
      exact call_ok0 hs (fun k => (([a1.av F, a2.av F] : List AV)[k]?).getD .top) [a1] [.bptr (BR.root 0) [.int .i64 v28, .int .i64 v29, .bslc (BR.root 1) (.f32 v30)]] (fun F' h0 hi hρ => ⟨by simp [DVs.av, DV.av, BR.av, hρ], spec_l02Is_fn v28 v29 v30 F' (by rw [hi]; rfl) (st_nil hi) ⟨bptr_ok hi (by rw [h0]; simpa [DVs.av, DV.av, BR.av, hρ] using (cellsOf_ok hs (DVs.okAt ha 0 rfl) hcp0).1) ⟨trivial, trivial, bslc_ok hi (by rw [h0, hρ]; exact rowF32_ok hs (DVs.okAt (cellsOf_ok hs (DVs.okAt ha 0 rfl) hcp0).2 2 rfl) hv30), trivial⟩, trivial⟩ hy⟩) rfl
    · cases hr
  · cases hr
/-! spec.l02Vector -/
noncomputable def spec_l02Vector_LO (v46 : List Nat) : LOr := fun id e L =>
  match id with
  | _ => .fail
noncomputable def spec_l02Vector_tab : List (FuncId × DFn × Bool) := [(135, spec_l02Finite_F, true)]
theorem spec_l02Vector_hO : OrcOk Try.prog (tabD spec_l02Vector_tab) (tabM spec_l02Vector_tab) := tabD_cons spec_l02Finite_Fok (tabD_nil _)
noncomputable def spec_l02Vector_T (v46 : List Nat) : Tree (Bool) :=
  (.br (decide ((1 : Int) ≤ ((v46.length : Nat) : Int))) (
   (.br (decide (((v46.length : Nat) : Int) ≤ (256 : Int))) (
    (.call (spec_l02Finite_g v46) fun v47 =>
    .leaf v47)
   ) (
    .leaf false
   ))
  ) (
   .leaf false
  ))

noncomputable def spec_l02Vector_g (v46 : List Nat) : Option (Bool) := (spec_l02Vector_T v46).run
def spec_l02Vector_enc (v46 : List Nat) (y : Bool) : Rs := (.bool y, [])
theorem spec_l02Vector_den (v46 : List Nat) : (den TT (tabD spec_l02Vector_tab) (tabM spec_l02Vector_tab) (spec_l02Vector_LO v46) (codeOf Try.f108) ([.bslc (BR.root 0) (.f32 v46)] ++ List.replicate (Try.f108.ntmps - ([.bslc (BR.root 0) (.f32 v46)] : List DV).length) .undef) []).bind (retD TT Try.f108.results.toList 0) = (spec_l02Vector_T v46).bind fun y => .leaf (spec_l02Vector_enc v46 y) := by kernel_rfl
theorem spec_l02Vector_fn (v46 : List Nat) (F : Fr) (hm : F.ids.length = 0) (h0 : St F [] F.H0) (hA : DVs.Ok F [] [.bslc (BR.root 0) (.f32 v46)]) {y : Bool} (hy : spec_l02Vector_g v46 = some y) : ∃ H', FnOk Try.prog 108 (DVs.av F [.bslc (BR.root 0) (.f32 v46)]) F.H0 ((spec_l02Vector_enc v46 y).1.av F) H' ∧ St F (spec_l02Vector_enc v46 y).2 H' ∧ (spec_l02Vector_enc v46 y).1.Ok F (spec_l02Vector_enc v46 y).2 :=
  fn_fin tok spec_l02Vector_hO mixed Try.func108 Try.call108 (by kernel_rfl) (LoopsOk_eq (l := []) (by kernel_rfl) trivial) (spec_l02Vector_den v46) hy hm h0 hA
noncomputable def spec_l02Vector_F : DFn := fun args L =>
  match args with
  | [a1] =>
    optT (rowF32 L a1) fun v46 =>
    .call (spec_l02Vector_g v46) fun y => .leaf (.bool y, L)
  | _ => .fail
theorem spec_l02Vector_Fok : COk Try.prog 108 spec_l02Vector_F true := by
  intro F L H args r L' hs ha hr
  unfold spec_l02Vector_F at hr
  split at hr
  · rename_i a1
    obtain ⟨v46, hv46, hr⟩ := optT_run hr
    simp only [Tree.run] at hr
    obtain ⟨y, hy, hr⟩ := Option.bind_eq_some_iff.1 hr
    simp only [Tree.run, Option.some.injEq, Prod.mk.injEq] at hr
    obtain ⟨rfl, rfl⟩ := hr
    exact call_ok0 hs (fun k => (([a1.av F] : List AV)[k]?).getD .top) [a1] [.bslc (BR.root 0) (.f32 v46)] (fun F' h0 hi hρ => ⟨by simp [DVs.av, DV.av, BR.av, hρ], spec_l02Vector_fn v46 F' (by rw [hi]; rfl) (st_nil hi) ⟨bslc_ok hi (by rw [h0, hρ]; exact rowF32_ok hs (DVs.okAt ha 0 rfl) hv46), trivial⟩ hy⟩) rfl
  · cases hr
/-! spec.l02Zero -/
noncomputable def spec_l02Zero_LO (v56 : Int) (v57 : Int) : LOr := fun id e L =>
  match id with
  | _ => .fail
noncomputable def spec_l02Zero_tab : List (FuncId × DFn × Bool) := []
theorem spec_l02Zero_hO : OrcOk Try.prog (tabD spec_l02Zero_tab) (tabM spec_l02Zero_tab) := tabD_nil _
noncomputable def spec_l02Zero_T (v56 : Int) (v57 : Int) : Tree (Int × Int) :=
  (.need (IntKind.i64.wrap (v56 * v57) = IntKind.i64.wrap (v56 * v57)) <|
  (.grd (inb (IntKind.i64.wrap (v56 * v57)) (maxN + 1)) <|
  .leaf (v56, v57)))

noncomputable def spec_l02Zero_g (v56 : Int) (v57 : Int) : Option (Int × Int) := (spec_l02Zero_T v56 v57).run
def spec_l02Zero_enc (v56 : Int) (v57 : Int) (y : Int × Int) : Rs := (.agg [.int .i64 y.1, .int .i64 y.2, .own 0 0 ((List.replicate (Int.toNat (IntKind.i64.wrap (v56 * v57))) (0 : Nat)).length)], [.row (.f32 (List.replicate (Int.toNat (IntKind.i64.wrap (v56 * v57))) (0 : Nat))) 0])
theorem spec_l02Zero_den (v56 : Int) (v57 : Int) : (den TT (tabD spec_l02Zero_tab) (tabM spec_l02Zero_tab) (spec_l02Zero_LO v56 v57) (codeOf Try.f133) ([.int .i64 v56, .int .i64 v57] ++ List.replicate (Try.f133.ntmps - ([.int .i64 v56, .int .i64 v57] : List DV).length) .undef) []).bind (retD TT Try.f133.results.toList 0) = (spec_l02Zero_T v56 v57).bind fun y => .leaf (spec_l02Zero_enc v56 v57 y) := by kernel_rfl
theorem spec_l02Zero_fn (v56 : Int) (v57 : Int) (F : Fr) (hm : F.ids.length = 0) (h0 : St F [] F.H0) (hA : DVs.Ok F [] [.int .i64 v56, .int .i64 v57]) {y : Int × Int} (hy : spec_l02Zero_g v56 v57 = some y) : ∃ H', FnOk Try.prog 133 (DVs.av F [.int .i64 v56, .int .i64 v57]) F.H0 ((spec_l02Zero_enc v56 v57 y).1.av F) H' ∧ St F (spec_l02Zero_enc v56 v57 y).2 H' ∧ (spec_l02Zero_enc v56 v57 y).1.Ok F (spec_l02Zero_enc v56 v57 y).2 :=
  fn_fin tok spec_l02Zero_hO mixed Try.func133 Try.call133 (by kernel_rfl) (LoopsOk_eq (l := []) (by kernel_rfl) trivial) (spec_l02Zero_den v56 v57) hy hm h0 hA
noncomputable def spec_l02Zero_F : DFn := fun args L =>
  match args with
  | [.int .i64 v56, .int .i64 v57] =>
    .call (spec_l02Zero_g v56 v57) fun y => .leaf (.agg [.int .i64 y.1, .int .i64 y.2, .own (L.length + 0) 0 ((List.replicate (Int.toNat (IntKind.i64.wrap (v56 * v57))) (0 : Nat)).length)], L ++ [.row (.f32 (List.replicate (Int.toNat (IntKind.i64.wrap (v56 * v57))) (0 : Nat))) 0])
  | _ => .fail
theorem spec_l02Zero_Fok : COk Try.prog 133 spec_l02Zero_F true := by
  intro F L H args r L' hs ha hr
  unfold spec_l02Zero_F at hr
  split at hr
  · rename_i v56 v57
    simp only [Tree.run] at hr
    obtain ⟨y, hy, hr⟩ := Option.bind_eq_some_iff.1 hr
    simp only [Tree.run, Option.some.injEq, Prod.mk.injEq] at hr
    obtain ⟨rfl, rfl⟩ := hr
    exact call_ok1 hs (fun k => (([] : List AV)[k]?).getD .top) [.int .i64 v56, .int .i64 v57] [.int .i64 v56, .int .i64 v57] (fun F' h0 hi hρ => ⟨by simp [DVs.av, DV.av, BR.av, hρ], spec_l02Zero_fn v56 v57 F' (by rw [hi]; rfl) (st_nil hi) ⟨trivial, trivial, trivial⟩ hy⟩) rfl rfl
  · cases hr
/-! spec.l02At -/
noncomputable def spec_l02At_LO (v70 : Int) (v71 : Int) (v72 : List Nat) (v73 : Int) (v74 : Int) : LOr := fun id e L =>
  match id with
  | _ => .fail
noncomputable def spec_l02At_tab : List (FuncId × DFn × Bool) := []
theorem spec_l02At_hO : OrcOk Try.prog (tabD spec_l02At_tab) (tabM spec_l02At_tab) := tabD_nil _
noncomputable def spec_l02At_T (v71 : Int) (v72 : List Nat) (v73 : Int) (v74 : Int) : Tree (Nat) :=
  (.grd (inb (IntKind.i64.wrap ((IntKind.i64.wrap (v73 * v71)) + v74)) v72.length) <|
  .leaf (nth v72 (Int.toNat (IntKind.i64.wrap ((IntKind.i64.wrap (v73 * v71)) + v74)))))

noncomputable def spec_l02At_g (v71 : Int) (v72 : List Nat) (v73 : Int) (v74 : Int) : Option (Nat) := (spec_l02At_T v71 v72 v73 v74).run
def spec_l02At_enc (v70 : Int) (v71 : Int) (v72 : List Nat) (v73 : Int) (v74 : Int) (y : Nat) : Rs := (.flt .f32 y, [])
theorem spec_l02At_den (v70 : Int) (v71 : Int) (v72 : List Nat) (v73 : Int) (v74 : Int) : (den TT (tabD spec_l02At_tab) (tabM spec_l02At_tab) (spec_l02At_LO v70 v71 v72 v73 v74) (codeOf Try.f59) ([.bptr (BR.root 0) [.int .i64 v70, .int .i64 v71, .bslc (BR.root 1) (.f32 v72)], .int .i64 v73, .int .i64 v74] ++ List.replicate (Try.f59.ntmps - ([.bptr (BR.root 0) [.int .i64 v70, .int .i64 v71, .bslc (BR.root 1) (.f32 v72)], .int .i64 v73, .int .i64 v74] : List DV).length) .undef) []).bind (retD TT Try.f59.results.toList 0) = (spec_l02At_T v71 v72 v73 v74).bind fun y => .leaf (spec_l02At_enc v70 v71 v72 v73 v74 y) := by kernel_rfl
theorem spec_l02At_fn (v70 : Int) (v71 : Int) (v72 : List Nat) (v73 : Int) (v74 : Int) (F : Fr) (hm : F.ids.length = 0) (h0 : St F [] F.H0) (hA : DVs.Ok F [] [.bptr (BR.root 0) [.int .i64 v70, .int .i64 v71, .bslc (BR.root 1) (.f32 v72)], .int .i64 v73, .int .i64 v74]) {y : Nat} (hy : spec_l02At_g v71 v72 v73 v74 = some y) : ∃ H', FnOk Try.prog 59 (DVs.av F [.bptr (BR.root 0) [.int .i64 v70, .int .i64 v71, .bslc (BR.root 1) (.f32 v72)], .int .i64 v73, .int .i64 v74]) F.H0 ((spec_l02At_enc v70 v71 v72 v73 v74 y).1.av F) H' ∧ St F (spec_l02At_enc v70 v71 v72 v73 v74 y).2 H' ∧ (spec_l02At_enc v70 v71 v72 v73 v74 y).1.Ok F (spec_l02At_enc v70 v71 v72 v73 v74 y).2 :=
  fn_fin tok spec_l02At_hO mixed Try.func59 Try.call59 (by kernel_rfl) (LoopsOk_eq (l := []) (by kernel_rfl) trivial) (spec_l02At_den v70 v71 v72 v73 v74) hy hm h0 hA
noncomputable def spec_l02At_F : DFn := fun args L =>
  match args with
  | [a1, .int .i64 v73, .int .i64 v74] =>
    optT (cellsOf L 3 a1) fun cs0 =>
    (match cs0 with
    | [.int .i64 v70, .int .i64 v71, a2] =>
    optT (rowF32 L a2) fun v72 =>
    .call (spec_l02At_g v71 v72 v73 v74) fun y => .leaf (.flt .f32 y, L)
    | _ => .fail)
  | _ => .fail
theorem spec_l02At_Fok : COk Try.prog 59 spec_l02At_F true := by
  intro F L H args r L' hs ha hr
  unfold spec_l02At_F at hr
  split at hr
  · rename_i a1 v73 v74
    obtain ⟨cs0, hcp0, hr⟩ := optT_run hr
    split at hr
    · rename_i v70 v71 a2
      obtain ⟨v72, hv72, hr⟩ := optT_run hr
      simp only [Tree.run] at hr
      obtain ⟨y, hy, hr⟩ := Option.bind_eq_some_iff.1 hr
      simp only [Tree.run, Option.some.injEq, Prod.mk.injEq] at hr
      obtain ⟨rfl, rfl⟩ := hr
      exact call_ok0 hs (fun k => (([a1.av F, a2.av F] : List AV)[k]?).getD .top) [a1, .int .i64 v73, .int .i64 v74] [.bptr (BR.root 0) [.int .i64 v70, .int .i64 v71, .bslc (BR.root 1) (.f32 v72)], .int .i64 v73, .int .i64 v74] (fun F' h0 hi hρ => ⟨by simp [DVs.av, DV.av, BR.av, hρ], spec_l02At_fn v70 v71 v72 v73 v74 F' (by rw [hi]; rfl) (st_nil hi) ⟨bptr_ok hi (by rw [h0]; simpa [DVs.av, DV.av, BR.av, hρ] using (cellsOf_ok hs (DVs.okAt ha 0 rfl) hcp0).1) ⟨trivial, trivial, bslc_ok hi (by rw [h0, hρ]; exact rowF32_ok hs (DVs.okAt (cellsOf_ok hs (DVs.okAt ha 0 rfl) hcp0).2 2 rfl) hv72), trivial⟩, trivial, trivial, trivial⟩ hy⟩) rfl
    · cases hr
  · cases hr
/-! spec.l03Column -/
noncomputable def spec_l03Column_l0_T (v65 : Int) (v66 : Int) (v67 : List Nat) (v68 : Int) (s : Int × (List Nat)) : Tree ((Int × (List Nat)) ⊕ ((List Nat))) :=
  (.br (decide (s.1 < v65)) (
   (.call (spec_l02At_g v66 v67 s.1 v68) fun v81 =>
   (.grd (fits (s.2 ++ ([v81] : List Nat)).length) <|
   .leaf (.inl (IntKind.i64.wrap (s.1 + (1 : Int)), s.2 ++ ([v81] : List Nat)))))
  ) (
   .leaf (.inr s.2)
  ))

noncomputable def spec_l03Column_l0_g (v65 : Int) (v66 : Int) (v67 : List Nat) (v68 : Int) (s0 : Int × (List Nat)) : Option ((List Nat)) := whileM (fun s => (spec_l03Column_l0_T v65 v66 v67 v68 s).run) s0
def spec_l03Column_l0_E (v65 : Int) (v66 : Int) (v67 : List Nat) (v68 : Int) (s : Int × (List Nat)) : Sd := ([.bptr (BR.root 0) [.int .i64 v65, .int .i64 v66, .bslc (BR.root 1) (.f32 v67)], .int .i64 v68, .top, .top, .top, .own 0 0 ((s.2).length), .int .i64 s.1, .top, .top, .top, .top, .top, .top, .top, .top, .top, .top, .top, .top, .top, .top, .top, .top, .top], [.row (.f32 s.2) 0])
def spec_l03Column_l0_X (v65 : Int) (v66 : Int) (v67 : List Nat) (v68 : Int) (x : (List Nat)) : Out := (.normal, [.top, .top, .top, .top, .top, .own 0 0 ((x).length), .top, .top, .top, .top, .top, .top, .top, .top, .top, .top, .top, .top, .top, .top, .top, .top, .top, .top], [.row (.f32 x) 0])
def spec_l03Column_l0_kill : List Nat := [0, 0, 1, 1, 1, 0, 0, 1, 1, 1, 1, 1, 1, 1, 1, 1, 1, 1, 1, 1, 1, 1, 1, 1]
def spec_l03Column_l0_nx : Exit → List Nat
  | .exit 0 => [1, 1, 1, 1, 1, 0, 1, 1, 1, 1, 1, 1, 1, 1, 1, 1, 1, 1, 1, 1, 1, 1, 1, 1]
  | .ret => [1, 1, 1, 1, 0, 1, 1, 1, 1, 1, 1, 1, 1, 1, 1, 1, 1, 1, 1, 1, 1, 1, 1, 1]
  | _ => []
noncomputable def spec_l03Column_LO (v65 : Int) (v66 : Int) (v67 : List Nat) (v68 : Int) : LOr := fun id e L =>
  match id with
  | 0 => .need (normA 0 spec_l03Column_l0_kill e L = some (spec_l03Column_l0_E v65 v66 v67 v68 ((gI (vAt e 6)), (gRF L (vAt e 5))))) (.call (spec_l03Column_l0_g v65 v66 v67 v68 ((gI (vAt e 6)), (gRF L (vAt e 5)))) fun x => .leaf (spec_l03Column_l0_X v65 v66 v67 v68 x))
  | _ => .fail
noncomputable def spec_l03Column_tab : List (FuncId × DFn × Bool) := [(59, spec_l02At_F, true)]
theorem spec_l03Column_hO : OrcOk Try.prog (tabD spec_l03Column_tab) (tabM spec_l03Column_tab) := tabD_cons spec_l02At_Fok (tabD_nil _)
theorem spec_l03Column_l0_be (v65 : Int) (v66 : Int) (v67 : List Nat) (v68 : Int) (s : Int × (List Nat)) : bodyT TT (tabD spec_l03Column_tab) (tabM spec_l03Column_tab) (spec_l03Column_LO v65 v66 v67 v68) 0 spec_l03Column_l0_kill spec_l03Column_l0_nx (bodyOf Try.f159 0) 0 (spec_l03Column_l0_E v65 v66 v67 v68 s) = (spec_l03Column_l0_T v65 v66 v67 v68 s).bind fun y => .leaf (outS (spec_l03Column_l0_E v65 v66 v67 v68) (spec_l03Column_l0_X v65 v66 v67 v68) y) := by kernel_rfl
theorem spec_l03Column_l0_ok (v65 : Int) (v66 : Int) (v67 : List Nat) (v68 : Int) : LSound Try.prog 0 (spec_l03Column_LO v65 v66 v67 v68) 0 (bodyOf Try.f159 0) := by
  intro e L out h
  exact lo_ok (E := spec_l03Column_l0_E v65 v66 v67 v68) (gT := spec_l03Column_l0_T v65 v66 v67 v68) (X := spec_l03Column_l0_X v65 v66 v67 v68) (s0 := ((gI (vAt e 6)), (gRF L (vAt e 5)))) tok spec_l03Column_hO mixed (LoopsOk_eq (l := []) (by kernel_rfl) trivial) (spec_l03Column_l0_be v65 v66 v67 v68) rfl (by intro x; rfl) h
noncomputable def spec_l03Column_T (v65 : Int) (v66 : Int) (v67 : List Nat) (v68 : Int) : Tree ((List Nat)) :=
  (.need (some (spec_l03Column_l0_E v65 v66 v67 v68 ((0 : Int), ([] : List Nat))) = some (spec_l03Column_l0_E v65 v66 v67 v68 ((0 : Int), ([] : List Nat)))) <|
  (.call (spec_l03Column_l0_g v65 v66 v67 v68 ((0 : Int), ([] : List Nat))) fun v82 =>
  .leaf v82))

noncomputable def spec_l03Column_g (v65 : Int) (v66 : Int) (v67 : List Nat) (v68 : Int) : Option ((List Nat)) := (spec_l03Column_T v65 v66 v67 v68).run
def spec_l03Column_enc (v65 : Int) (v66 : Int) (v67 : List Nat) (v68 : Int) (y : (List Nat)) : Rs := (.own 0 0 ((y).length), [.row (.f32 y) 0])
theorem spec_l03Column_den (v65 : Int) (v66 : Int) (v67 : List Nat) (v68 : Int) : (den TT (tabD spec_l03Column_tab) (tabM spec_l03Column_tab) (spec_l03Column_LO v65 v66 v67 v68) (codeOf Try.f159) ([.bptr (BR.root 0) [.int .i64 v65, .int .i64 v66, .bslc (BR.root 1) (.f32 v67)], .int .i64 v68] ++ List.replicate (Try.f159.ntmps - ([.bptr (BR.root 0) [.int .i64 v65, .int .i64 v66, .bslc (BR.root 1) (.f32 v67)], .int .i64 v68] : List DV).length) .undef) []).bind (retD TT Try.f159.results.toList 0) = (spec_l03Column_T v65 v66 v67 v68).bind fun y => .leaf (spec_l03Column_enc v65 v66 v67 v68 y) := by kernel_rfl
theorem spec_l03Column_fn (v65 : Int) (v66 : Int) (v67 : List Nat) (v68 : Int) (F : Fr) (hm : F.ids.length = 0) (h0 : St F [] F.H0) (hA : DVs.Ok F [] [.bptr (BR.root 0) [.int .i64 v65, .int .i64 v66, .bslc (BR.root 1) (.f32 v67)], .int .i64 v68]) {y : (List Nat)} (hy : spec_l03Column_g v65 v66 v67 v68 = some y) : ∃ H', FnOk Try.prog 159 (DVs.av F [.bptr (BR.root 0) [.int .i64 v65, .int .i64 v66, .bslc (BR.root 1) (.f32 v67)], .int .i64 v68]) F.H0 ((spec_l03Column_enc v65 v66 v67 v68 y).1.av F) H' ∧ St F (spec_l03Column_enc v65 v66 v67 v68 y).2 H' ∧ (spec_l03Column_enc v65 v66 v67 v68 y).1.Ok F (spec_l03Column_enc v65 v66 v67 v68 y).2 :=
  fn_fin tok spec_l03Column_hO mixed Try.func159 Try.call159 (by kernel_rfl) (LoopsOk_eq (l := [(0, bodyOf Try.f159 0)]) (by kernel_rfl) ⟨spec_l03Column_l0_ok v65 v66 v67 v68, trivial⟩) (spec_l03Column_den v65 v66 v67 v68) hy hm h0 hA
noncomputable def spec_l03Column_F : DFn := fun args L =>
  match args with
  | [a1, .int .i64 v68] =>
    optT (cellsOf L 3 a1) fun cs0 =>
    (match cs0 with
    | [.int .i64 v65, .int .i64 v66, a2] =>
    optT (rowF32 L a2) fun v67 =>
    .call (spec_l03Column_g v65 v66 v67 v68) fun y => .leaf (.own (L.length + 0) 0 ((y).length), L ++ [.row (.f32 y) 0])
    | _ => .fail)
  | _ => .fail
theorem spec_l03Column_Fok : COk Try.prog 159 spec_l03Column_F true := by
  intro F L H args r L' hs ha hr
  unfold spec_l03Column_F at hr
  split at hr
  · rename_i a1 v68
    obtain ⟨cs0, hcp0, hr⟩ := optT_run hr
    split at hr
    · rename_i v65 v66 a2
      obtain ⟨v67, hv67, hr⟩ := optT_run hr
      simp only [Tree.run] at hr
      obtain ⟨y, hy, hr⟩ := Option.bind_eq_some_iff.1 hr
      simp only [Tree.run, Option.some.injEq, Prod.mk.injEq] at hr
      obtain ⟨rfl, rfl⟩ := hr
      exact call_ok1 hs (fun k => (([a1.av F, a2.av F] : List AV)[k]?).getD .top) [a1, .int .i64 v68] [.bptr (BR.root 0) [.int .i64 v65, .int .i64 v66, .bslc (BR.root 1) (.f32 v67)], .int .i64 v68] (fun F' h0 hi hρ => ⟨by simp [DVs.av, DV.av, BR.av, hρ], spec_l03Column_fn v65 v66 v67 v68 F' (by rw [hi]; rfl) (st_nil hi) ⟨bptr_ok hi (by rw [h0]; simpa [DVs.av, DV.av, BR.av, hρ] using (cellsOf_ok hs (DVs.okAt ha 0 rfl) hcp0).1) ⟨trivial, trivial, bslc_ok hi (by rw [h0, hρ]; exact rowF32_ok hs (DVs.okAt (cellsOf_ok hs (DVs.okAt ha 0 rfl) hcp0).2 2 rfl) hv67), trivial⟩, trivial, trivial⟩ hy⟩) rfl rfl
    · cases hr
  · cases hr
/-! spec.l02Dot -/
noncomputable def spec_l02Dot_l0_T (v100 : List Nat) (v101 : List Nat) (s : Nat × Int) : Tree ((Nat × Int) ⊕ (Nat)) :=
  (.br (decide (s.2 < ((v100.length : Nat) : Int))) (
   (.grd (inb s.2 v100.length) <|
   (.grd (inb s.2 v101.length) <|
   .leaf (.inl (fadd .f32 s.1 (fmul .f32 (nth v100 (Int.toNat s.2)) (nth v101 (Int.toNat s.2))), IntKind.i64.wrap (s.2 + (1 : Int))))))
  ) (
   .leaf (.inr s.1)
  ))

noncomputable def spec_l02Dot_l0_g (v100 : List Nat) (v101 : List Nat) (s0 : Nat × Int) : Option (Nat) := whileM (fun s => (spec_l02Dot_l0_T v100 v101 s).run) s0
def spec_l02Dot_l0_E (v100 : List Nat) (v101 : List Nat) (s : Nat × Int) : Sd := ([.bslc (BR.root 0) (.f32 v100), .bslc (BR.root 1) (.f32 v101), .top, .top, .top, .flt .f32 s.1, .int .i64 s.2, .top, .top, .top, .top, .top, .top, .top, .top, .top, .top, .top, .top, .top, .top, .top, .top, .top, .top], [])
def spec_l02Dot_l0_X (v100 : List Nat) (v101 : List Nat) (x : Nat) : Out := (.normal, [.top, .top, .top, .top, .top, .flt .f32 x, .top, .top, .top, .top, .top, .top, .top, .top, .top, .top, .top, .top, .top, .top, .top, .top, .top, .top, .top], [])
def spec_l02Dot_l0_kill : List Nat := [0, 0, 1, 1, 1, 0, 0, 1, 1, 1, 1, 1, 1, 1, 1, 1, 1, 1, 1, 1, 1, 1, 1, 1, 1]
def spec_l02Dot_l0_nx : Exit → List Nat
  | .exit 0 => [1, 1, 1, 1, 1, 0, 1, 1, 1, 1, 1, 1, 1, 1, 1, 1, 1, 1, 1, 1, 1, 1, 1, 1, 1]
  | .ret => [1, 1, 1, 1, 0, 1, 1, 1, 1, 1, 1, 1, 1, 1, 1, 1, 1, 1, 1, 1, 1, 1, 1, 1, 1]
  | _ => []
noncomputable def spec_l02Dot_LO (v100 : List Nat) (v101 : List Nat) : LOr := fun id e L =>
  match id with
  | 0 => .need (normA 0 spec_l02Dot_l0_kill e L = some (spec_l02Dot_l0_E v100 v101 ((gF (vAt e 5)), (gI (vAt e 6))))) (.call (spec_l02Dot_l0_g v100 v101 ((gF (vAt e 5)), (gI (vAt e 6)))) fun x => .leaf (spec_l02Dot_l0_X v100 v101 x))
  | _ => .fail
noncomputable def spec_l02Dot_tab : List (FuncId × DFn × Bool) := []
theorem spec_l02Dot_hO : OrcOk Try.prog (tabD spec_l02Dot_tab) (tabM spec_l02Dot_tab) := tabD_nil _
theorem spec_l02Dot_l0_be (v100 : List Nat) (v101 : List Nat) (s : Nat × Int) : bodyT TT (tabD spec_l02Dot_tab) (tabM spec_l02Dot_tab) (spec_l02Dot_LO v100 v101) 0 spec_l02Dot_l0_kill spec_l02Dot_l0_nx (bodyOf Try.f160 0) 0 (spec_l02Dot_l0_E v100 v101 s) = (spec_l02Dot_l0_T v100 v101 s).bind fun y => .leaf (outS (spec_l02Dot_l0_E v100 v101) (spec_l02Dot_l0_X v100 v101) y) := by kernel_rfl
theorem spec_l02Dot_l0_ok (v100 : List Nat) (v101 : List Nat) : LSound Try.prog 0 (spec_l02Dot_LO v100 v101) 0 (bodyOf Try.f160 0) := by
  intro e L out h
  exact lo_ok (E := spec_l02Dot_l0_E v100 v101) (gT := spec_l02Dot_l0_T v100 v101) (X := spec_l02Dot_l0_X v100 v101) (s0 := ((gF (vAt e 5)), (gI (vAt e 6)))) tok spec_l02Dot_hO mixed (LoopsOk_eq (l := []) (by kernel_rfl) trivial) (spec_l02Dot_l0_be v100 v101) rfl (by intro x; rfl) h
noncomputable def spec_l02Dot_T (v100 : List Nat) (v101 : List Nat) : Tree (Nat) :=
  (.need (some (spec_l02Dot_l0_E v100 v101 ((0 : Nat), (0 : Int))) = some (spec_l02Dot_l0_E v100 v101 ((0 : Nat), (0 : Int)))) <|
  (.call (spec_l02Dot_l0_g v100 v101 ((0 : Nat), (0 : Int))) fun v108 =>
  .leaf v108))

noncomputable def spec_l02Dot_g (v100 : List Nat) (v101 : List Nat) : Option (Nat) := (spec_l02Dot_T v100 v101).run
def spec_l02Dot_enc (v100 : List Nat) (v101 : List Nat) (y : Nat) : Rs := (.flt .f32 y, [])
theorem spec_l02Dot_den (v100 : List Nat) (v101 : List Nat) : (den TT (tabD spec_l02Dot_tab) (tabM spec_l02Dot_tab) (spec_l02Dot_LO v100 v101) (codeOf Try.f160) ([.bslc (BR.root 0) (.f32 v100), .bslc (BR.root 1) (.f32 v101)] ++ List.replicate (Try.f160.ntmps - ([.bslc (BR.root 0) (.f32 v100), .bslc (BR.root 1) (.f32 v101)] : List DV).length) .undef) []).bind (retD TT Try.f160.results.toList 0) = (spec_l02Dot_T v100 v101).bind fun y => .leaf (spec_l02Dot_enc v100 v101 y) := by kernel_rfl
theorem spec_l02Dot_fn (v100 : List Nat) (v101 : List Nat) (F : Fr) (hm : F.ids.length = 0) (h0 : St F [] F.H0) (hA : DVs.Ok F [] [.bslc (BR.root 0) (.f32 v100), .bslc (BR.root 1) (.f32 v101)]) {y : Nat} (hy : spec_l02Dot_g v100 v101 = some y) : ∃ H', FnOk Try.prog 160 (DVs.av F [.bslc (BR.root 0) (.f32 v100), .bslc (BR.root 1) (.f32 v101)]) F.H0 ((spec_l02Dot_enc v100 v101 y).1.av F) H' ∧ St F (spec_l02Dot_enc v100 v101 y).2 H' ∧ (spec_l02Dot_enc v100 v101 y).1.Ok F (spec_l02Dot_enc v100 v101 y).2 :=
  fn_fin tok spec_l02Dot_hO mixed Try.func160 Try.call160 (by kernel_rfl) (LoopsOk_eq (l := [(0, bodyOf Try.f160 0)]) (by kernel_rfl) ⟨spec_l02Dot_l0_ok v100 v101, trivial⟩) (spec_l02Dot_den v100 v101) hy hm h0 hA
noncomputable def spec_l02Dot_F : DFn := fun args L =>
  match args with
  | [a1, a2] =>
    optT (rowF32 L a1) fun v100 =>
    optT (rowF32 L a2) fun v101 =>
    .call (spec_l02Dot_g v100 v101) fun y => .leaf (.flt .f32 y, L)
  | _ => .fail
theorem spec_l02Dot_Fok : COk Try.prog 160 spec_l02Dot_F true := by
  intro F L H args r L' hs ha hr
  unfold spec_l02Dot_F at hr
  split at hr
  · rename_i a1 a2
    obtain ⟨v100, hv100, hr⟩ := optT_run hr
    obtain ⟨v101, hv101, hr⟩ := optT_run hr
    simp only [Tree.run] at hr
    obtain ⟨y, hy, hr⟩ := Option.bind_eq_some_iff.1 hr
    simp only [Tree.run, Option.some.injEq, Prod.mk.injEq] at hr
    obtain ⟨rfl, rfl⟩ := hr
    exact call_ok0 hs (fun k => (([a1.av F, a2.av F] : List AV)[k]?).getD .top) [a1, a2] [.bslc (BR.root 0) (.f32 v100), .bslc (BR.root 1) (.f32 v101)] (fun F' h0 hi hρ => ⟨by simp [DVs.av, DV.av, BR.av, hρ], spec_l02Dot_fn v100 v101 F' (by rw [hi]; rfl) (st_nil hi) ⟨bslc_ok hi (by rw [h0, hρ]; exact rowF32_ok hs (DVs.okAt ha 0 rfl) hv100), bslc_ok hi (by rw [h0, hρ]; exact rowF32_ok hs (DVs.okAt ha 1 rfl) hv101), trivial⟩ hy⟩) rfl
  · cases hr
/-! math.Sqrt -/
noncomputable def math_Sqrt_LO (v589 : Nat) : LOr := fun id e L =>
  match id with
  | _ => .fail
noncomputable def math_Sqrt_tab : List (FuncId × DFn × Bool) := [(177, Sqrt_F, true)]
theorem math_Sqrt_hO : OrcOk Try.prog (tabD math_Sqrt_tab) (tabM math_Sqrt_tab) := tabD_cons Sqrt_Fok (tabD_nil _)
noncomputable def math_Sqrt_T (v589 : Nat) : Tree (Nat) :=
  .leaf (fsqrt v589)

noncomputable def math_Sqrt_g (v589 : Nat) : Option (Nat) := (math_Sqrt_T v589).run
def math_Sqrt_enc (v589 : Nat) (y : Nat) : Rs := (.flt .f64 y, [])
theorem math_Sqrt_den (v589 : Nat) : (den TT (tabD math_Sqrt_tab) (tabM math_Sqrt_tab) (math_Sqrt_LO v589) (codeOf Try.f157) ([.flt .f64 v589] ++ List.replicate (Try.f157.ntmps - ([.flt .f64 v589] : List DV).length) .undef) []).bind (retD TT Try.f157.results.toList 0) = (math_Sqrt_T v589).bind fun y => .leaf (math_Sqrt_enc v589 y) := by kernel_rfl
theorem math_Sqrt_fn (v589 : Nat) (F : Fr) (hm : F.ids.length = 0) (h0 : St F [] F.H0) (hA : DVs.Ok F [] [.flt .f64 v589]) {y : Nat} (hy : math_Sqrt_g v589 = some y) : ∃ H', FnOk Try.prog 157 (DVs.av F [.flt .f64 v589]) F.H0 ((math_Sqrt_enc v589 y).1.av F) H' ∧ St F (math_Sqrt_enc v589 y).2 H' ∧ (math_Sqrt_enc v589 y).1.Ok F (math_Sqrt_enc v589 y).2 :=
  fn_fin tok math_Sqrt_hO mixed Try.func157 Try.call157 (by kernel_rfl) (LoopsOk_eq (l := []) (by kernel_rfl) trivial) (math_Sqrt_den v589) hy hm h0 hA
def math_Sqrt_v (v589 : Nat) : Nat :=
  fsqrt v589
theorem math_Sqrt_tot (v589 : Nat) : math_Sqrt_g v589 = some (math_Sqrt_v v589) := by
  unfold math_Sqrt_g math_Sqrt_T math_Sqrt_v
  simp only [Tree.run]
  repeat' (first | rfl | split)
noncomputable def math_Sqrt_F : DFn := fun args L =>
  match args with
  | [.flt .f64 v589] =>
    .leaf (.flt .f64 (math_Sqrt_v v589), L)
  | _ => .fail
theorem math_Sqrt_Fok : COk Try.prog 157 math_Sqrt_F true := by
  intro F L H args r L' hs ha hr
  unfold math_Sqrt_F at hr
  split at hr
  · rename_i v589
    have hy := math_Sqrt_tot v589
    generalize math_Sqrt_v v589 = y at hy hr
    simp only [Tree.run, Option.some.injEq, Prod.mk.injEq] at hr
    obtain ⟨rfl, rfl⟩ := hr
    exact call_ok0 hs (fun k => (([] : List AV)[k]?).getD .top) [.flt .f64 v589] [.flt .f64 v589] (fun F' h0 hi hρ => ⟨by simp [DVs.av, DV.av, BR.av, hρ], math_Sqrt_fn v589 F' (by rw [hi]; rfl) (st_nil hi) ⟨trivial, trivial⟩ hy⟩) rfl
  · cases hr
/-! spec.l01Narrow -/
noncomputable def spec_l01Narrow_LO (v590 : Nat) : LOr := fun id e L =>
  match id with
  | _ => .fail
noncomputable def spec_l01Narrow_tab : List (FuncId × DFn × Bool) := []
theorem spec_l01Narrow_hO : OrcOk Try.prog (tabD spec_l01Narrow_tab) (tabM spec_l01Narrow_tab) := tabD_nil _
noncomputable def spec_l01Narrow_T (v590 : Nat) : Tree (Nat) :=
  (.call (fconv .f64 v590 .f32) fun v591 =>
  .leaf v591)

noncomputable def spec_l01Narrow_g (v590 : Nat) : Option (Nat) := (spec_l01Narrow_T v590).run
def spec_l01Narrow_enc (v590 : Nat) (y : Nat) : Rs := (.flt .f32 y, [])
theorem spec_l01Narrow_den (v590 : Nat) : (den TT (tabD spec_l01Narrow_tab) (tabM spec_l01Narrow_tab) (spec_l01Narrow_LO v590) (codeOf Try.f156) ([.flt .f64 v590] ++ List.replicate (Try.f156.ntmps - ([.flt .f64 v590] : List DV).length) .undef) []).bind (retD TT Try.f156.results.toList 0) = (spec_l01Narrow_T v590).bind fun y => .leaf (spec_l01Narrow_enc v590 y) := by kernel_rfl
theorem spec_l01Narrow_fn (v590 : Nat) (F : Fr) (hm : F.ids.length = 0) (h0 : St F [] F.H0) (hA : DVs.Ok F [] [.flt .f64 v590]) {y : Nat} (hy : spec_l01Narrow_g v590 = some y) : ∃ H', FnOk Try.prog 156 (DVs.av F [.flt .f64 v590]) F.H0 ((spec_l01Narrow_enc v590 y).1.av F) H' ∧ St F (spec_l01Narrow_enc v590 y).2 H' ∧ (spec_l01Narrow_enc v590 y).1.Ok F (spec_l01Narrow_enc v590 y).2 :=
  fn_fin tok spec_l01Narrow_hO mixed Try.func156 Try.call156 (by kernel_rfl) (LoopsOk_eq (l := []) (by kernel_rfl) trivial) (spec_l01Narrow_den v590) hy hm h0 hA
noncomputable def spec_l01Narrow_F : DFn := fun args L =>
  match args with
  | [.flt .f64 v590] =>
    .call (spec_l01Narrow_g v590) fun y => .leaf (.flt .f32 y, L)
  | _ => .fail
theorem spec_l01Narrow_Fok : COk Try.prog 156 spec_l01Narrow_F true := by
  intro F L H args r L' hs ha hr
  unfold spec_l01Narrow_F at hr
  split at hr
  · rename_i v590
    simp only [Tree.run] at hr
    obtain ⟨y, hy, hr⟩ := Option.bind_eq_some_iff.1 hr
    simp only [Tree.run, Option.some.injEq, Prod.mk.injEq] at hr
    obtain ⟨rfl, rfl⟩ := hr
    exact call_ok0 hs (fun k => (([] : List AV)[k]?).getD .top) [.flt .f64 v590] [.flt .f64 v590] (fun F' h0 hi hρ => ⟨by simp [DVs.av, DV.av, BR.av, hρ], spec_l01Narrow_fn v590 F' (by rw [hi]; rfl) (st_nil hi) ⟨trivial, trivial⟩ hy⟩) rfl
  · cases hr
/-! spec.l01Sqrt -/
noncomputable def spec_l01Sqrt_LO (v588 : Nat) : LOr := fun id e L =>
  match id with
  | _ => .fail
noncomputable def spec_l01Sqrt_tab : List (FuncId × DFn × Bool) := [(157, math_Sqrt_F, true), (156, spec_l01Narrow_F, true)]
theorem spec_l01Sqrt_hO : OrcOk Try.prog (tabD spec_l01Sqrt_tab) (tabM spec_l01Sqrt_tab) := tabD_cons math_Sqrt_Fok (tabD_cons spec_l01Narrow_Fok (tabD_nil _))
noncomputable def spec_l01Sqrt_T (v588 : Nat) : Tree (Nat) :=
  (.call (spec_l01Narrow_g (math_Sqrt_v (wid v588))) fun v592 =>
  .leaf v592)

noncomputable def spec_l01Sqrt_g (v588 : Nat) : Option (Nat) := (spec_l01Sqrt_T v588).run
def spec_l01Sqrt_enc (v588 : Nat) (y : Nat) : Rs := (.flt .f32 y, [])
theorem spec_l01Sqrt_den (v588 : Nat) : (den TT (tabD spec_l01Sqrt_tab) (tabM spec_l01Sqrt_tab) (spec_l01Sqrt_LO v588) (codeOf Try.f110) ([.flt .f32 v588] ++ List.replicate (Try.f110.ntmps - ([.flt .f32 v588] : List DV).length) .undef) []).bind (retD TT Try.f110.results.toList 0) = (spec_l01Sqrt_T v588).bind fun y => .leaf (spec_l01Sqrt_enc v588 y) := by kernel_rfl
theorem spec_l01Sqrt_fn (v588 : Nat) (F : Fr) (hm : F.ids.length = 0) (h0 : St F [] F.H0) (hA : DVs.Ok F [] [.flt .f32 v588]) {y : Nat} (hy : spec_l01Sqrt_g v588 = some y) : ∃ H', FnOk Try.prog 110 (DVs.av F [.flt .f32 v588]) F.H0 ((spec_l01Sqrt_enc v588 y).1.av F) H' ∧ St F (spec_l01Sqrt_enc v588 y).2 H' ∧ (spec_l01Sqrt_enc v588 y).1.Ok F (spec_l01Sqrt_enc v588 y).2 :=
  fn_fin tok spec_l01Sqrt_hO mixed Try.func110 Try.call110 (by kernel_rfl) (LoopsOk_eq (l := []) (by kernel_rfl) trivial) (spec_l01Sqrt_den v588) hy hm h0 hA
noncomputable def spec_l01Sqrt_F : DFn := fun args L =>
  match args with
  | [.flt .f32 v588] =>
    .call (spec_l01Sqrt_g v588) fun y => .leaf (.flt .f32 y, L)
  | _ => .fail
theorem spec_l01Sqrt_Fok : COk Try.prog 110 spec_l01Sqrt_F true := by
  intro F L H args r L' hs ha hr
  unfold spec_l01Sqrt_F at hr
  split at hr
  · rename_i v588
    simp only [Tree.run] at hr
    obtain ⟨y, hy, hr⟩ := Option.bind_eq_some_iff.1 hr
    simp only [Tree.run, Option.some.injEq, Prod.mk.injEq] at hr
    obtain ⟨rfl, rfl⟩ := hr
    exact call_ok0 hs (fun k => (([] : List AV)[k]?).getD .top) [.flt .f32 v588] [.flt .f32 v588] (fun F' h0 hi hρ => ⟨by simp [DVs.av, DV.av, BR.av, hρ], spec_l01Sqrt_fn v588 F' (by rw [hi]; rfl) (st_nil hi) ⟨trivial, trivial⟩ hy⟩) rfl
  · cases hr
/-! spec.l03Mirror -/
noncomputable def spec_l03Mirror_l6_T (v1732 : Int) (v1733 : Int) (v1734 : Int) (v1735 : Nat) (v1736 : Int) (v1738 : Int) (v1739 : Int) (v1740 : Int) (v1741 : Int) (v1743 : List Nat) (v1744 : List Nat) (v1745 : List Nat) (s : Int × (List Nat)) : Tree ((Int × (List Nat)) ⊕ ((List Nat))) :=
  (.br (decide (s.1 < v1736)) (
   (.grd (inb s.1 ((s.2).length)) <|
   (.grd (inb s.1 ((v1743).length)) <|
   (.grd (inb s.1 ((s.2).length)) <|
   .leaf (.inl (IntKind.i64.wrap (s.1 + (1 : Int)), List.set s.2 (Int.toNat s.1) (fsub .f32 (nth s.2 (Int.toNat s.1)) (fmul .f32 v1735 (nth v1743 (Int.toNat s.1)))))))))
  ) (
   .leaf (.inr s.2)
  ))

noncomputable def spec_l03Mirror_l6_g (v1732 : Int) (v1733 : Int) (v1734 : Int) (v1735 : Nat) (v1736 : Int) (v1738 : Int) (v1739 : Int) (v1740 : Int) (v1741 : Int) (v1743 : List Nat) (v1744 : List Nat) (v1745 : List Nat) (s0 : Int × (List Nat)) : Option ((List Nat)) := whileM (fun s => (spec_l03Mirror_l6_T v1732 v1733 v1734 v1735 v1736 v1738 v1739 v1740 v1741 v1743 v1744 v1745 s).run) s0
def spec_l03Mirror_l6_E (v53 : Int) (v54 : Int) (v55 : List Nat) (v1732 : Int) (v1733 : Int) (v1734 : Int) (v1735 : Nat) (v1736 : Int) (v1738 : Int) (v1739 : Int) (v1740 : Int) (v1741 : Int) (v1743 : List Nat) (v1744 : List Nat) (v1745 : List Nat) (s : Int × (List Nat)) : Sd := ([.bptr (BR.root 0) [.int .i64 v53, .int .i64 v54, .bslc (BR.root 1) (.f32 v55)], .top, .ptr 0 (0 : Nat) 0 (3 : Nat), .ptr 1 (0 : Nat) 0 (3 : Nat), .top, .ptr 2 (0 : Nat) 0 (3 : Nat), .ptr 3 (0 : Nat) 0 (3 : Nat), .int .i64 v1732, .own 4 0 ((s.2).length), .int .i64 v1733, .int .i64 v1734, .own 5 0 ((v1743).length), .flt .f32 v1735, .top, .top, .top, .top, .top, .top, .top, .top, .top, .top, .top, .top, .top, .top, .top, .top, .top, .top, .top, .top, .top, .top, .top, .top, .top, .top, .top, .top, .top, .top, .top, .top, .top, .top, .top, .top, .top, .top, .top, .top, .top, .top, .top, .top, .top, .top, .top, .top, .top, .top, .top, .top, .top, .top, .top, .top, .top, .top, .top, .top, .top, .int .i64 v1736, .int .i64 s.1, .top, .top, .top, .top, .top, .top, .top, .top, .top, .top, .top, .top, .top, .top, .top, .top, .top, .top, .top, .top, .top, .top, .top, .top, .top, .top, .top, .top, .top, .top, .top, .top, .top, .top, .top, .top, .top, .top, .top, .top, .top, .top, .top, .top, .top, .top, .top, .top, .top, .top, .top, .top, .top, .top, .top, .top, .top, .top, .top, .top, .top, .top, .top], [.gen [.int .i64 (0 : Int), .int .i64 (0 : Int), .nilslc] false 0, .gen [.int .i64 (0 : Int), .int .i64 (0 : Int), .nilslc] false 0, .gen [.int .i64 v1738, .int .i64 v1739, .own 6 0 ((v1744).length)] false 0, .gen [.int .i64 v1740, .int .i64 v1741, .own 7 0 ((v1745).length)] false 0, .row (.f32 s.2) 0, .row (.f32 v1743) 0, .row (.f32 v1744) 0, .row (.f32 v1745) 0])
def spec_l03Mirror_l6_X (v53 : Int) (v54 : Int) (v55 : List Nat) (v1732 : Int) (v1733 : Int) (v1734 : Int) (v1735 : Nat) (v1736 : Int) (v1738 : Int) (v1739 : Int) (v1740 : Int) (v1741 : Int) (v1743 : List Nat) (v1744 : List Nat) (v1745 : List Nat) (x : (List Nat)) : Out := (.normal, [.bptr (BR.root 0) [.int .i64 v53, .int .i64 v54, .bslc (BR.root 1) (.f32 v55)], .top, .ptr 0 (0 : Nat) 0 (3 : Nat), .ptr 1 (0 : Nat) 0 (3 : Nat), .top, .ptr 2 (0 : Nat) 0 (3 : Nat), .ptr 3 (0 : Nat) 0 (3 : Nat), .int .i64 v1732, .own 4 0 ((x).length), .int .i64 v1733, .int .i64 v1734, .top, .top, .top, .top, .top, .top, .top, .top, .top, .top, .top, .top, .top, .top, .top, .top, .top, .top, .top, .top, .top, .top, .top, .top, .top, .top, .top, .top, .top, .top, .top, .top, .top, .top, .top, .top, .top, .top, .top, .top, .top, .top, .top, .top, .top, .top, .top, .top, .top, .top, .top, .top, .top, .top, .top, .top, .top, .top, .top, .top, .top, .top, .top, .top, .top, .top, .top, .top, .top, .top, .top, .top, .top, .top, .top, .top, .top, .top, .top, .top, .top, .top, .top, .top, .top, .top, .top, .top, .top, .top, .top, .top, .top, .top, .top, .top, .top, .top, .top, .top, .top, .top, .top, .top, .top, .top, .top, .top, .top, .top, .top, .top, .top, .top, .top, .top, .top, .top, .top, .top, .top, .top, .top, .top, .top, .top, .top, .top], [.gen [.int .i64 (0 : Int), .int .i64 (0 : Int), .nilslc] false 0, .gen [.int .i64 (0 : Int), .int .i64 (0 : Int), .nilslc] false 0, .gen [.int .i64 v1738, .int .i64 v1739, .own 5 0 ((v1744).length)] false 0, .gen [.int .i64 v1740, .int .i64 v1741, .own 6 0 ((v1745).length)] false 0, .row (.f32 x) 0, .row (.f32 v1744) 0, .row (.f32 v1745) 0])
def spec_l03Mirror_l6_kill : List Nat := [0, 1, 0, 0, 1, 0, 0, 0, 0, 0, 0, 0, 0, 1, 1, 1, 1, 1, 1, 1, 1, 1, 1, 1, 1, 1, 1, 1, 1, 1, 1, 1, 1, 1, 1, 1, 1, 1, 1, 1, 1, 1, 1, 1, 1, 1, 1, 1, 1, 1, 1, 1, 1, 1, 1, 1, 1, 1, 1, 1, 1, 1, 1, 1, 1, 1, 1, 1, 1, 1, 1, 1, 1, 1, 0, 0, 1, 1, 1, 1, 1, 1, 1, 1, 1, 1, 1, 1, 1, 1, 1, 1, 1, 1, 1, 1, 1, 1, 1, 1, 1, 1, 1, 1, 1, 1, 1, 1, 1, 1, 1, 1, 1, 1, 1, 1, 1, 1, 1, 1, 1, 1, 1, 1, 1, 1, 1, 1, 1, 1, 1, 1, 1, 1, 1, 1, 1, 1, 1]
def spec_l03Mirror_l6_nx : Exit → List Nat
  | .exit 0 => [1, 1, 0, 0, 1, 0, 0, 1, 1, 1, 1, 1, 1, 1, 1, 1, 1, 1, 1, 1, 1, 1, 1, 1, 1, 1, 1, 1, 1, 1, 1, 1, 1, 1, 1, 1, 1, 1, 1, 1, 1, 1, 1, 1, 1, 1, 1, 1, 1, 1, 1, 1, 1, 1, 1, 1, 1, 1, 1, 1, 1, 1, 1, 1, 1, 1, 1, 1, 1, 1, 1, 1, 1, 1, 1, 1, 1, 1, 1, 1, 1, 1, 1, 1, 1, 1, 1, 1, 1, 1, 1, 1, 1, 1, 1, 1, 1, 1, 1, 1, 1, 1, 1, 1, 1, 1, 1, 1, 1, 1, 1, 1, 1, 1, 1, 1, 1, 1, 1, 1, 1, 1, 1, 1, 1, 1, 1, 1, 1, 1, 1, 1, 1, 1, 1, 1, 1, 1, 1]
  | .exit 1 => [0, 1, 0, 0, 1, 0, 0, 0, 1, 1, 1, 1, 1, 1, 1, 1, 1, 1, 1, 1, 1, 1, 1, 1, 1, 1, 1, 1, 1, 1, 1, 1, 1, 1, 1, 1, 1, 1, 1, 1, 1, 1, 1, 1, 1, 1, 1, 1, 1, 1, 1, 1, 1, 1, 1, 1, 1, 1, 1, 1, 1, 1, 1, 1, 1, 1, 1, 1, 1, 1, 1, 1, 1, 1, 1, 1, 1, 1, 1, 1, 1, 1, 1, 1, 1, 1, 1, 1, 1, 1, 1, 1, 1, 1, 1, 1, 1, 1, 1, 1, 1, 1, 1, 1, 1, 1, 1, 1, 1, 1, 1, 1, 1, 1, 1, 1, 1, 1, 1, 1, 1, 1, 1, 1, 1, 1, 1, 1, 1, 1, 1, 1, 1, 1, 1, 1, 1, 1, 1]
  | .exit 2 => [0, 1, 0, 0, 1, 0, 0, 0, 0, 1, 1, 1, 1, 1, 1, 1, 1, 1, 1, 1, 1, 1, 1, 1, 1, 1, 1, 1, 1, 1, 1, 1, 1, 1, 1, 1, 1, 1, 1, 1, 1, 1, 1, 1, 1, 1, 1, 1, 1, 1, 1, 1, 1, 1, 1, 1, 1, 1, 1, 1, 1, 1, 1, 1, 1, 1, 1, 1, 1, 1, 1, 1, 1, 1, 1, 1, 1, 1, 1, 1, 1, 1, 1, 1, 1, 1, 1, 1, 1, 1, 1, 1, 1, 1, 1, 1, 1, 1, 1, 1, 1, 1, 1, 1, 1, 1, 1, 1, 1, 1, 1, 1, 1, 1, 1, 1, 1, 1, 1, 1, 1, 1, 1, 1, 1, 1, 1, 1, 1, 1, 1, 1, 1, 1, 1, 1, 1, 1, 1]
  | .exit 3 => [0, 1, 0, 0, 1, 0, 0, 0, 0, 0, 1, 1, 1, 1, 1, 1, 1, 1, 1, 1, 1, 1, 1, 1, 1, 1, 1, 1, 1, 1, 1, 1, 1, 1, 1, 1, 1, 1, 1, 1, 1, 1, 1, 1, 1, 1, 1, 1, 1, 1, 1, 1, 1, 1, 1, 1, 1, 1, 1, 1, 1, 1, 1, 1, 1, 1, 1, 1, 1, 1, 1, 1, 1, 1, 1, 1, 1, 1, 1, 1, 1, 1, 1, 1, 1, 1, 1, 1, 1, 1, 1, 1, 1, 1, 1, 1, 1, 1, 1, 1, 1, 1, 1, 1, 1, 1, 1, 1, 1, 1, 1, 1, 1, 1, 1, 1, 1, 1, 1, 1, 1, 1, 1, 1, 1, 1, 1, 1, 1, 1, 1, 1, 1, 1, 1, 1, 1, 1, 1]
  | .exit 4 => [0, 1, 0, 0, 1, 0, 0, 0, 0, 0, 1, 1, 1, 1, 1, 1, 1, 1, 1, 1, 1, 1, 1, 1, 1, 1, 1, 1, 1, 1, 1, 1, 1, 1, 1, 1, 1, 1, 1, 1, 1, 1, 1, 1, 1, 1, 1, 1, 1, 1, 1, 1, 1, 1, 1, 1, 1, 1, 1, 1, 1, 1, 1, 1, 1, 1, 1, 1, 1, 1, 1, 1, 1, 1, 1, 1, 1, 1, 1, 1, 1, 1, 1, 1, 1, 1, 1, 1, 1, 1, 1, 1, 1, 1, 1, 1, 1, 1, 1, 1, 1, 1, 1, 1, 1, 1, 1, 1, 1, 1, 1, 1, 1, 1, 1, 1, 1, 1, 1, 1, 1, 1, 1, 1, 1, 1, 1, 1, 1, 1, 1, 1, 1, 1, 1, 1, 1, 1, 1]
  | .exit 5 => [0, 1, 0, 0, 1, 0, 0, 0, 0, 0, 0, 1, 1, 1, 1, 1, 1, 1, 1, 1, 1, 1, 1, 1, 1, 1, 1, 1, 1, 1, 1, 1, 1, 1, 1, 1, 1, 1, 1, 1, 1, 1, 1, 1, 1, 1, 1, 1, 1, 1, 1, 1, 1, 1, 1, 1, 1, 1, 1, 1, 1, 1, 1, 1, 1, 1, 1, 1, 1, 1, 1, 1, 1, 1, 1, 1, 1, 1, 1, 1, 1, 1, 1, 1, 1, 1, 1, 1, 1, 1, 1, 1, 1, 1, 1, 1, 1, 1, 1, 1, 1, 1, 1, 1, 1, 1, 1, 1, 1, 1, 1, 1, 1, 1, 1, 1, 1, 1, 1, 1, 1, 1, 1, 1, 1, 1, 1, 1, 1, 1, 1, 1, 1, 1, 1, 1, 1, 1, 1]
  | .exit 6 => [0, 1, 0, 0, 1, 0, 0, 0, 0, 0, 0, 1, 1, 1, 1, 1, 1, 1, 1, 1, 1, 1, 1, 1, 1, 1, 1, 1, 1, 1, 1, 1, 1, 1, 1, 1, 1, 1, 1, 1, 1, 1, 1, 1, 1, 1, 1, 1, 1, 1, 1, 1, 1, 1, 1, 1, 1, 1, 1, 1, 1, 1, 1, 1, 1, 1, 1, 1, 1, 1, 1, 1, 1, 1, 1, 1, 1, 1, 1, 1, 1, 1, 1, 1, 1, 1, 1, 1, 1, 1, 1, 1, 1, 1, 1, 1, 1, 1, 1, 1, 1, 1, 1, 1, 1, 1, 1, 1, 1, 1, 1, 1, 1, 1, 1, 1, 1, 1, 1, 1, 1, 1, 1, 1, 1, 1, 1, 1, 1, 1, 1, 1, 1, 1, 1, 1, 1, 1, 1]
  | .ret => [1, 1, 0, 0, 0, 1, 1, 1, 1, 1, 1, 1, 1, 1, 1, 1, 1, 1, 1, 1, 1, 1, 1, 1, 1, 1, 1, 1, 1, 1, 1, 1, 1, 1, 1, 1, 1, 1, 1, 1, 1, 1, 1, 1, 1, 1, 1, 1, 1, 1, 1, 1, 1, 1, 1, 1, 1, 1, 1, 1, 1, 1, 1, 1, 1, 1, 1, 1, 1, 1, 1, 1, 1, 1, 1, 1, 1, 1, 1, 1, 1, 1, 1, 1, 1, 1, 1, 1, 1, 1, 1, 1, 1, 1, 1, 1, 1, 1, 1, 1, 1, 1, 1, 1, 1, 1, 1, 1, 1, 1, 1, 1, 1, 1, 1, 1, 1, 1, 1, 1, 1, 1, 1, 1, 1, 1, 1, 1, 1, 1, 1, 1, 1, 1, 1, 1, 1, 1, 1]
  | _ => []
noncomputable def spec_l03Mirror_l4_T (v53 : Int) (v54 : Int) (v55 : List Nat) (v1691 : Int) (v1692 : Int) (v1694 : Int) (v1695 : Int) (v1696 : Int) (v1697 : Int) (v1699 : List Nat) (s : Int × (List Nat) × (List Nat)) : Tree ((Int × (List Nat) × (List Nat)) ⊕ ((List Nat) × (List Nat))) :=
  (.br (decide (s.1 < v1691)) (
   (.call (spec_l03Column_g v1694 v1695 v1699 s.1) fun v1701 =>
   (.call (spec_l02Dot_g v1701 s.2.1) fun v1702 =>
   (.call (spec_l02At_g v1697 s.2.2 s.1 v1691) fun v1703 =>
   (.grd (inb (IntKind.i64.wrap ((IntKind.i64.wrap (s.1 * v1697)) + v1691)) ((s.2.2).length)) <|
   (.need (some (spec_l03Mirror_l6_E v53 v54 v55 v1691 v1692 s.1 v1702 (((s.2.1).length : Nat) : Int) v1694 v1695 v1696 v1697 v1701 v1699 (List.set s.2.2 (Int.toNat (IntKind.i64.wrap ((IntKind.i64.wrap (s.1 * v1697)) + v1691))) (fadd .f32 v1703 v1702)) ((0 : Int), s.2.1)) = some (spec_l03Mirror_l6_E v53 v54 v55 v1691 v1692 s.1 v1702 (((s.2.1).length : Nat) : Int) v1694 v1695 v1696 v1697 v1701 v1699 (List.set s.2.2 (Int.toNat (IntKind.i64.wrap ((IntKind.i64.wrap (s.1 * v1697)) + v1691))) (fadd .f32 v1703 v1702)) ((0 : Int), s.2.1))) <|
   (.call (spec_l03Mirror_l6_g v1691 v1692 s.1 v1702 (((s.2.1).length : Nat) : Int) v1694 v1695 v1696 v1697 v1701 v1699 (List.set s.2.2 (Int.toNat (IntKind.i64.wrap ((IntKind.i64.wrap (s.1 * v1697)) + v1691))) (fadd .f32 v1703 v1702)) ((0 : Int), s.2.1)) fun v1746 =>
   .leaf (.inl (IntKind.i64.wrap (s.1 + (1 : Int)), v1746, (List.set s.2.2 (Int.toNat (IntKind.i64.wrap ((IntKind.i64.wrap (s.1 * v1697)) + v1691))) (fadd .f32 v1703 v1702))))))))))
  ) (
   .leaf (.inr (s.2.1, s.2.2))
  ))

noncomputable def spec_l03Mirror_l4_g (v53 : Int) (v54 : Int) (v55 : List Nat) (v1691 : Int) (v1692 : Int) (v1694 : Int) (v1695 : Int) (v1696 : Int) (v1697 : Int) (v1699 : List Nat) (s0 : Int × (List Nat) × (List Nat)) : Option ((List Nat) × (List Nat)) := whileM (fun s => (spec_l03Mirror_l4_T v53 v54 v55 v1691 v1692 v1694 v1695 v1696 v1697 v1699 s).run) s0
def spec_l03Mirror_l4_E (v53 : Int) (v54 : Int) (v55 : List Nat) (v1691 : Int) (v1692 : Int) (v1694 : Int) (v1695 : Int) (v1696 : Int) (v1697 : Int) (v1699 : List Nat) (s : Int × (List Nat) × (List Nat)) : Sd := ([.bptr (BR.root 0) [.int .i64 v53, .int .i64 v54, .bslc (BR.root 1) (.f32 v55)], .top, .ptr 0 (0 : Nat) 0 (3 : Nat), .ptr 1 (0 : Nat) 0 (3 : Nat), .top, .ptr 2 (0 : Nat) 0 (3 : Nat), .ptr 3 (0 : Nat) 0 (3 : Nat), .int .i64 v1691, .own 4 0 ((s.2.1).length), .int .i64 v1692, .int .i64 s.1, .top, .top, .top, .top, .top, .top, .top, .top, .top, .top, .top, .top, .top, .top, .top, .top, .top, .top, .top, .top, .top, .top, .top, .top, .top, .top, .top, .top, .top, .top, .top, .top, .top, .top, .top, .top, .top, .top, .top, .top, .top, .top, .top, .top, .top, .top, .top, .top, .top, .top, .top, .top, .top, .top, .top, .top, .top, .top, .top, .top, .top, .top, .top, .top, .top, .top, .top, .top, .top, .top, .top, .top, .top, .top, .top, .top, .top, .top, .top, .top, .top, .top, .top, .top, .top, .top, .top, .top, .top, .top, .top, .top, .top, .top, .top, .top, .top, .top, .top, .top, .top, .top, .top, .top, .top, .top, .top, .top, .top, .top, .top, .top, .top, .top, .top, .top, .top, .top, .top, .top, .top, .top, .top, .top, .top, .top, .top, .top], [.gen [.int .i64 (0 : Int), .int .i64 (0 : Int), .nilslc] false 0, .gen [.int .i64 (0 : Int), .int .i64 (0 : Int), .nilslc] false 0, .gen [.int .i64 v1694, .int .i64 v1695, .own 5 0 ((v1699).length)] false 0, .gen [.int .i64 v1696, .int .i64 v1697, .own 6 0 ((s.2.2).length)] false 0, .row (.f32 s.2.1) 0, .row (.f32 v1699) 0, .row (.f32 s.2.2) 0])
def spec_l03Mirror_l4_X (v53 : Int) (v54 : Int) (v55 : List Nat) (v1691 : Int) (v1692 : Int) (v1694 : Int) (v1695 : Int) (v1696 : Int) (v1697 : Int) (v1699 : List Nat) (x : (List Nat) × (List Nat)) : Out := (.normal, [.bptr (BR.root 0) [.int .i64 v53, .int .i64 v54, .bslc (BR.root 1) (.f32 v55)], .top, .ptr 0 (0 : Nat) 0 (3 : Nat), .ptr 1 (0 : Nat) 0 (3 : Nat), .top, .ptr 2 (0 : Nat) 0 (3 : Nat), .ptr 3 (0 : Nat) 0 (3 : Nat), .int .i64 v1691, .own 4 0 ((x.1).length), .int .i64 v1692, .top, .top, .top, .top, .top, .top, .top, .top, .top, .top, .top, .top, .top, .top, .top, .top, .top, .top, .top, .top, .top, .top, .top, .top, .top, .top, .top, .top, .top, .top, .top, .top, .top, .top, .top, .top, .top, .top, .top, .top, .top, .top, .top, .top, .top, .top, .top, .top, .top, .top, .top, .top, .top, .top, .top, .top, .top, .top, .top, .top, .top, .top, .top, .top, .top, .top, .top, .top, .top, .top, .top, .top, .top, .top, .top, .top, .top, .top, .top, .top, .top, .top, .top, .top, .top, .top, .top, .top, .top, .top, .top, .top, .top, .top, .top, .top, .top, .top, .top, .top, .top, .top, .top, .top, .top, .top, .top, .top, .top, .top, .top, .top, .top, .top, .top, .top, .top, .top, .top, .top, .top, .top, .top, .top, .top, .top, .top, .top, .top], [.gen [.int .i64 (0 : Int), .int .i64 (0 : Int), .nilslc] false 0, .gen [.int .i64 (0 : Int), .int .i64 (0 : Int), .nilslc] false 0, .gen [.int .i64 v1694, .int .i64 v1695, .own 5 0 ((v1699).length)] false 0, .gen [.int .i64 v1696, .int .i64 v1697, .own 6 0 ((x.2).length)] false 0, .row (.f32 x.1) 0, .row (.f32 v1699) 0, .row (.f32 x.2) 0])
def spec_l03Mirror_l4_kill : List Nat := [0, 1, 0, 0, 1, 0, 0, 0, 0, 0, 0, 1, 1, 1, 1, 1, 1, 1, 1, 1, 1, 1, 1, 1, 1, 1, 1, 1, 1, 1, 1, 1, 1, 1, 1, 1, 1, 1, 1, 1, 1, 1, 1, 1, 1, 1, 1, 1, 1, 1, 1, 1, 1, 1, 1, 1, 1, 1, 1, 1, 1, 1, 1, 1, 1, 1, 1, 1, 1, 1, 1, 1, 1, 1, 1, 1, 1, 1, 1, 1, 1, 1, 1, 1, 1, 1, 1, 1, 1, 1, 1, 1, 1, 1, 1, 1, 1, 1, 1, 1, 1, 1, 1, 1, 1, 1, 1, 1, 1, 1, 1, 1, 1, 1, 1, 1, 1, 1, 1, 1, 1, 1, 1, 1, 1, 1, 1, 1, 1, 1, 1, 1, 1, 1, 1, 1, 1, 1, 1]
def spec_l03Mirror_l4_nx : Exit → List Nat
  | .exit 0 => [1, 1, 0, 0, 1, 0, 0, 1, 1, 1, 1, 1, 1, 1, 1, 1, 1, 1, 1, 1, 1, 1, 1, 1, 1, 1, 1, 1, 1, 1, 1, 1, 1, 1, 1, 1, 1, 1, 1, 1, 1, 1, 1, 1, 1, 1, 1, 1, 1, 1, 1, 1, 1, 1, 1, 1, 1, 1, 1, 1, 1, 1, 1, 1, 1, 1, 1, 1, 1, 1, 1, 1, 1, 1, 1, 1, 1, 1, 1, 1, 1, 1, 1, 1, 1, 1, 1, 1, 1, 1, 1, 1, 1, 1, 1, 1, 1, 1, 1, 1, 1, 1, 1, 1, 1, 1, 1, 1, 1, 1, 1, 1, 1, 1, 1, 1, 1, 1, 1, 1, 1, 1, 1, 1, 1, 1, 1, 1, 1, 1, 1, 1, 1, 1, 1, 1, 1, 1, 1]
  | .exit 1 => [0, 1, 0, 0, 1, 0, 0, 0, 1, 1, 1, 1, 1, 1, 1, 1, 1, 1, 1, 1, 1, 1, 1, 1, 1, 1, 1, 1, 1, 1, 1, 1, 1, 1, 1, 1, 1, 1, 1, 1, 1, 1, 1, 1, 1, 1, 1, 1, 1, 1, 1, 1, 1, 1, 1, 1, 1, 1, 1, 1, 1, 1, 1, 1, 1, 1, 1, 1, 1, 1, 1, 1, 1, 1, 1, 1, 1, 1, 1, 1, 1, 1, 1, 1, 1, 1, 1, 1, 1, 1, 1, 1, 1, 1, 1, 1, 1, 1, 1, 1, 1, 1, 1, 1, 1, 1, 1, 1, 1, 1, 1, 1, 1, 1, 1, 1, 1, 1, 1, 1, 1, 1, 1, 1, 1, 1, 1, 1, 1, 1, 1, 1, 1, 1, 1, 1, 1, 1, 1]
  | .exit 2 => [0, 1, 0, 0, 1, 0, 0, 0, 0, 1, 1, 1, 1, 1, 1, 1, 1, 1, 1, 1, 1, 1, 1, 1, 1, 1, 1, 1, 1, 1, 1, 1, 1, 1, 1, 1, 1, 1, 1, 1, 1, 1, 1, 1, 1, 1, 1, 1, 1, 1, 1, 1, 1, 1, 1, 1, 1, 1, 1, 1, 1, 1, 1, 1, 1, 1, 1, 1, 1, 1, 1, 1, 1, 1, 1, 1, 1, 1, 1, 1, 1, 1, 1, 1, 1, 1, 1, 1, 1, 1, 1, 1, 1, 1, 1, 1, 1, 1, 1, 1, 1, 1, 1, 1, 1, 1, 1, 1, 1, 1, 1, 1, 1, 1, 1, 1, 1, 1, 1, 1, 1, 1, 1, 1, 1, 1, 1, 1, 1, 1, 1, 1, 1, 1, 1, 1, 1, 1, 1]
  | .exit 3 => [0, 1, 0, 0, 1, 0, 0, 0, 0, 0, 1, 1, 1, 1, 1, 1, 1, 1, 1, 1, 1, 1, 1, 1, 1, 1, 1, 1, 1, 1, 1, 1, 1, 1, 1, 1, 1, 1, 1, 1, 1, 1, 1, 1, 1, 1, 1, 1, 1, 1, 1, 1, 1, 1, 1, 1, 1, 1, 1, 1, 1, 1, 1, 1, 1, 1, 1, 1, 1, 1, 1, 1, 1, 1, 1, 1, 1, 1, 1, 1, 1, 1, 1, 1, 1, 1, 1, 1, 1, 1, 1, 1, 1, 1, 1, 1, 1, 1, 1, 1, 1, 1, 1, 1, 1, 1, 1, 1, 1, 1, 1, 1, 1, 1, 1, 1, 1, 1, 1, 1, 1, 1, 1, 1, 1, 1, 1, 1, 1, 1, 1, 1, 1, 1, 1, 1, 1, 1, 1]
  | .exit 4 => [0, 1, 0, 0, 1, 0, 0, 0, 0, 0, 1, 1, 1, 1, 1, 1, 1, 1, 1, 1, 1, 1, 1, 1, 1, 1, 1, 1, 1, 1, 1, 1, 1, 1, 1, 1, 1, 1, 1, 1, 1, 1, 1, 1, 1, 1, 1, 1, 1, 1, 1, 1, 1, 1, 1, 1, 1, 1, 1, 1, 1, 1, 1, 1, 1, 1, 1, 1, 1, 1, 1, 1, 1, 1, 1, 1, 1, 1, 1, 1, 1, 1, 1, 1, 1, 1, 1, 1, 1, 1, 1, 1, 1, 1, 1, 1, 1, 1, 1, 1, 1, 1, 1, 1, 1, 1, 1, 1, 1, 1, 1, 1, 1, 1, 1, 1, 1, 1, 1, 1, 1, 1, 1, 1, 1, 1, 1, 1, 1, 1, 1, 1, 1, 1, 1, 1, 1, 1, 1]
  | .ret => [1, 1, 0, 0, 0, 1, 1, 1, 1, 1, 1, 1, 1, 1, 1, 1, 1, 1, 1, 1, 1, 1, 1, 1, 1, 1, 1, 1, 1, 1, 1, 1, 1, 1, 1, 1, 1, 1, 1, 1, 1, 1, 1, 1, 1, 1, 1, 1, 1, 1, 1, 1, 1, 1, 1, 1, 1, 1, 1, 1, 1, 1, 1, 1, 1, 1, 1, 1, 1, 1, 1, 1, 1, 1, 1, 1, 1, 1, 1, 1, 1, 1, 1, 1, 1, 1, 1, 1, 1, 1, 1, 1, 1, 1, 1, 1, 1, 1, 1, 1, 1, 1, 1, 1, 1, 1, 1, 1, 1, 1, 1, 1, 1, 1, 1, 1, 1, 1, 1, 1, 1, 1, 1, 1, 1, 1, 1, 1, 1, 1, 1, 1, 1, 1, 1, 1, 1, 1, 1]
  | _ => []
noncomputable def spec_l03Mirror_l2_T (v53 : Int) (v54 : Int) (v55 : List Nat) (v1570 : Int) (v1572 : Int) (v1573 : Int) (v1574 : Int) (v1575 : Int) (v1577 : List Nat) (s : Int × (List Nat) × (List Nat)) : Tree ((Int × (List Nat) × (List Nat)) ⊕ ((List Nat) × (List Nat))) :=
  (.br (decide (s.1 < (2 : Int))) (
   (.need (some (spec_l03Mirror_l4_E v53 v54 v55 v1570 s.1 v1572 v1573 v1574 v1575 v1577 ((0 : Int), s.2.1, s.2.2)) = some (spec_l03Mirror_l4_E v53 v54 v55 v1570 s.1 v1572 v1573 v1574 v1575 v1577 ((0 : Int), s.2.1, s.2.2))) <|
   (.call (spec_l03Mirror_l4_g v53 v54 v55 v1570 s.1 v1572 v1573 v1574 v1575 v1577 ((0 : Int), s.2.1, s.2.2)) fun v1747 =>
   .leaf (.inl (IntKind.i64.wrap (s.1 + (1 : Int)), v1747.1, v1747.2))))
  ) (
   .leaf (.inr (s.2.1, s.2.2))
  ))

noncomputable def spec_l03Mirror_l2_g (v53 : Int) (v54 : Int) (v55 : List Nat) (v1570 : Int) (v1572 : Int) (v1573 : Int) (v1574 : Int) (v1575 : Int) (v1577 : List Nat) (s0 : Int × (List Nat) × (List Nat)) : Option ((List Nat) × (List Nat)) := whileM (fun s => (spec_l03Mirror_l2_T v53 v54 v55 v1570 v1572 v1573 v1574 v1575 v1577 s).run) s0
def spec_l03Mirror_l2_E (v53 : Int) (v54 : Int) (v55 : List Nat) (v1570 : Int) (v1572 : Int) (v1573 : Int) (v1574 : Int) (v1575 : Int) (v1577 : List Nat) (s : Int × (List Nat) × (List Nat)) : Sd := ([.bptr (BR.root 0) [.int .i64 v53, .int .i64 v54, .bslc (BR.root 1) (.f32 v55)], .top, .ptr 0 (0 : Nat) 0 (3 : Nat), .ptr 1 (0 : Nat) 0 (3 : Nat), .top, .ptr 2 (0 : Nat) 0 (3 : Nat), .ptr 3 (0 : Nat) 0 (3 : Nat), .int .i64 v1570, .own 4 0 ((s.2.1).length), .int .i64 s.1, .top, .top, .top, .top, .top, .top, .top, .top, .top, .top, .top, .top, .top, .top, .top, .top, .top, .top, .top, .top, .top, .top, .top, .top, .top, .top, .top, .top, .top, .top, .top, .top, .top, .top, .top, .top, .top, .top, .top, .top, .top, .top, .top, .top, .top, .top, .top, .top, .top, .top, .top, .top, .top, .top, .top, .top, .top, .top, .top, .top, .top, .top, .top, .top, .top, .top, .top, .top, .top, .top, .top, .top, .top, .top, .top, .top, .top, .top, .top, .top, .top, .top, .top, .top, .top, .top, .top, .top, .top, .top, .top, .top, .top, .top, .top, .top, .top, .top, .top, .top, .top, .top, .top, .top, .top, .top, .top, .top, .top, .top, .top, .top, .top, .top, .top, .top, .top, .top, .top, .top, .top, .top, .top, .top, .top, .top, .top, .top, .top], [.gen [.int .i64 (0 : Int), .int .i64 (0 : Int), .nilslc] false 0, .gen [.int .i64 (0 : Int), .int .i64 (0 : Int), .nilslc] false 0, .gen [.int .i64 v1572, .int .i64 v1573, .own 5 0 ((v1577).length)] false 0, .gen [.int .i64 v1574, .int .i64 v1575, .own 6 0 ((s.2.2).length)] false 0, .row (.f32 s.2.1) 0, .row (.f32 v1577) 0, .row (.f32 s.2.2) 0])
def spec_l03Mirror_l2_X (v53 : Int) (v54 : Int) (v55 : List Nat) (v1570 : Int) (v1572 : Int) (v1573 : Int) (v1574 : Int) (v1575 : Int) (v1577 : List Nat) (x : (List Nat) × (List Nat)) : Out := (.normal, [.bptr (BR.root 0) [.int .i64 v53, .int .i64 v54, .bslc (BR.root 1) (.f32 v55)], .top, .ptr 0 (0 : Nat) 0 (3 : Nat), .ptr 1 (0 : Nat) 0 (3 : Nat), .top, .ptr 2 (0 : Nat) 0 (3 : Nat), .ptr 3 (0 : Nat) 0 (3 : Nat), .int .i64 v1570, .own 4 0 ((x.1).length), .top, .top, .top, .top, .top, .top, .top, .top, .top, .top, .top, .top, .top, .top, .top, .top, .top, .top, .top, .top, .top, .top, .top, .top, .top, .top, .top, .top, .top, .top, .top, .top, .top, .top, .top, .top, .top, .top, .top, .top, .top, .top, .top, .top, .top, .top, .top, .top, .top, .top, .top, .top, .top, .top, .top, .top, .top, .top, .top, .top, .top, .top, .top, .top, .top, .top, .top, .top, .top, .top, .top, .top, .top, .top, .top, .top, .top, .top, .top, .top, .top, .top, .top, .top, .top, .top, .top, .top, .top, .top, .top, .top, .top, .top, .top, .top, .top, .top, .top, .top, .top, .top, .top, .top, .top, .top, .top, .top, .top, .top, .top, .top, .top, .top, .top, .top, .top, .top, .top, .top, .top, .top, .top, .top, .top, .top, .top, .top, .top, .top], [.gen [.int .i64 (0 : Int), .int .i64 (0 : Int), .nilslc] false 0, .gen [.int .i64 (0 : Int), .int .i64 (0 : Int), .nilslc] false 0, .gen [.int .i64 v1572, .int .i64 v1573, .own 5 0 ((v1577).length)] false 0, .gen [.int .i64 v1574, .int .i64 v1575, .own 6 0 ((x.2).length)] false 0, .row (.f32 x.1) 0, .row (.f32 v1577) 0, .row (.f32 x.2) 0])
def spec_l03Mirror_l2_kill : List Nat := [0, 1, 0, 0, 1, 0, 0, 0, 0, 0, 1, 1, 1, 1, 1, 1, 1, 1, 1, 1, 1, 1, 1, 1, 1, 1, 1, 1, 1, 1, 1, 1, 1, 1, 1, 1, 1, 1, 1, 1, 1, 1, 1, 1, 1, 1, 1, 1, 1, 1, 1, 1, 1, 1, 1, 1, 1, 1, 1, 1, 1, 1, 1, 1, 1, 1, 1, 1, 1, 1, 1, 1, 1, 1, 1, 1, 1, 1, 1, 1, 1, 1, 1, 1, 1, 1, 1, 1, 1, 1, 1, 1, 1, 1, 1, 1, 1, 1, 1, 1, 1, 1, 1, 1, 1, 1, 1, 1, 1, 1, 1, 1, 1, 1, 1, 1, 1, 1, 1, 1, 1, 1, 1, 1, 1, 1, 1, 1, 1, 1, 1, 1, 1, 1, 1, 1, 1, 1, 1]
def spec_l03Mirror_l2_nx : Exit → List Nat
  | .exit 0 => [1, 1, 0, 0, 1, 0, 0, 1, 1, 1, 1, 1, 1, 1, 1, 1, 1, 1, 1, 1, 1, 1, 1, 1, 1, 1, 1, 1, 1, 1, 1, 1, 1, 1, 1, 1, 1, 1, 1, 1, 1, 1, 1, 1, 1, 1, 1, 1, 1, 1, 1, 1, 1, 1, 1, 1, 1, 1, 1, 1, 1, 1, 1, 1, 1, 1, 1, 1, 1, 1, 1, 1, 1, 1, 1, 1, 1, 1, 1, 1, 1, 1, 1, 1, 1, 1, 1, 1, 1, 1, 1, 1, 1, 1, 1, 1, 1, 1, 1, 1, 1, 1, 1, 1, 1, 1, 1, 1, 1, 1, 1, 1, 1, 1, 1, 1, 1, 1, 1, 1, 1, 1, 1, 1, 1, 1, 1, 1, 1, 1, 1, 1, 1, 1, 1, 1, 1, 1, 1]
  | .exit 1 => [0, 1, 0, 0, 1, 0, 0, 0, 1, 1, 1, 1, 1, 1, 1, 1, 1, 1, 1, 1, 1, 1, 1, 1, 1, 1, 1, 1, 1, 1, 1, 1, 1, 1, 1, 1, 1, 1, 1, 1, 1, 1, 1, 1, 1, 1, 1, 1, 1, 1, 1, 1, 1, 1, 1, 1, 1, 1, 1, 1, 1, 1, 1, 1, 1, 1, 1, 1, 1, 1, 1, 1, 1, 1, 1, 1, 1, 1, 1, 1, 1, 1, 1, 1, 1, 1, 1, 1, 1, 1, 1, 1, 1, 1, 1, 1, 1, 1, 1, 1, 1, 1, 1, 1, 1, 1, 1, 1, 1, 1, 1, 1, 1, 1, 1, 1, 1, 1, 1, 1, 1, 1, 1, 1, 1, 1, 1, 1, 1, 1, 1, 1, 1, 1, 1, 1, 1, 1, 1]
  | .exit 2 => [0, 1, 0, 0, 1, 0, 0, 0, 0, 1, 1, 1, 1, 1, 1, 1, 1, 1, 1, 1, 1, 1, 1, 1, 1, 1, 1, 1, 1, 1, 1, 1, 1, 1, 1, 1, 1, 1, 1, 1, 1, 1, 1, 1, 1, 1, 1, 1, 1, 1, 1, 1, 1, 1, 1, 1, 1, 1, 1, 1, 1, 1, 1, 1, 1, 1, 1, 1, 1, 1, 1, 1, 1, 1, 1, 1, 1, 1, 1, 1, 1, 1, 1, 1, 1, 1, 1, 1, 1, 1, 1, 1, 1, 1, 1, 1, 1, 1, 1, 1, 1, 1, 1, 1, 1, 1, 1, 1, 1, 1, 1, 1, 1, 1, 1, 1, 1, 1, 1, 1, 1, 1, 1, 1, 1, 1, 1, 1, 1, 1, 1, 1, 1, 1, 1, 1, 1, 1, 1]
  | .ret => [1, 1, 0, 0, 0, 1, 1, 1, 1, 1, 1, 1, 1, 1, 1, 1, 1, 1, 1, 1, 1, 1, 1, 1, 1, 1, 1, 1, 1, 1, 1, 1, 1, 1, 1, 1, 1, 1, 1, 1, 1, 1, 1, 1, 1, 1, 1, 1, 1, 1, 1, 1, 1, 1, 1, 1, 1, 1, 1, 1, 1, 1, 1, 1, 1, 1, 1, 1, 1, 1, 1, 1, 1, 1, 1, 1, 1, 1, 1, 1, 1, 1, 1, 1, 1, 1, 1, 1, 1, 1, 1, 1, 1, 1, 1, 1, 1, 1, 1, 1, 1, 1, 1, 1, 1, 1, 1, 1, 1, 1, 1, 1, 1, 1, 1, 1, 1, 1, 1, 1, 1, 1, 1, 1, 1, 1, 1, 1, 1, 1, 1, 1, 1, 1, 1, 1, 1, 1, 1]
  | _ => []
noncomputable def spec_l03Mirror_l8_T (v1773 : Int) (v1774 : Nat) (v1775 : Int) (v1777 : Int) (v1778 : Int) (v1779 : Int) (v1780 : Int) (v1781 : List Nat) (v1783 : List Nat) (s : Int × (List Nat)) : Tree ((Int × (List Nat)) ⊕ ((List Nat))) :=
  (.br (decide (s.1 < v1775)) (
   (.grd (inb s.1 ((v1781).length)) <|
   (.grd (inb (IntKind.i64.wrap ((IntKind.i64.wrap (s.1 * v1778)) + v1773)) ((s.2).length)) <|
   .leaf (.inl (IntKind.i64.wrap (s.1 + (1 : Int)), List.set s.2 (Int.toNat (IntKind.i64.wrap ((IntKind.i64.wrap (s.1 * v1778)) + v1773))) (fdiv .f32 (nth v1781 (Int.toNat s.1)) v1774)))))
  ) (
   .leaf (.inr s.2)
  ))

noncomputable def spec_l03Mirror_l8_g (v1773 : Int) (v1774 : Nat) (v1775 : Int) (v1777 : Int) (v1778 : Int) (v1779 : Int) (v1780 : Int) (v1781 : List Nat) (v1783 : List Nat) (s0 : Int × (List Nat)) : Option ((List Nat)) := whileM (fun s => (spec_l03Mirror_l8_T v1773 v1774 v1775 v1777 v1778 v1779 v1780 v1781 v1783 s).run) s0
def spec_l03Mirror_l8_E (v53 : Int) (v54 : Int) (v55 : List Nat) (v1773 : Int) (v1774 : Nat) (v1775 : Int) (v1777 : Int) (v1778 : Int) (v1779 : Int) (v1780 : Int) (v1781 : List Nat) (v1783 : List Nat) (s : Int × (List Nat)) : Sd := ([.bptr (BR.root 0) [.int .i64 v53, .int .i64 v54, .bslc (BR.root 1) (.f32 v55)], .top, .ptr 0 (0 : Nat) 0 (3 : Nat), .ptr 1 (0 : Nat) 0 (3 : Nat), .top, .ptr 2 (0 : Nat) 0 (3 : Nat), .ptr 3 (0 : Nat) 0 (3 : Nat), .int .i64 v1773, .own 4 0 ((v1781).length), .top, .top, .top, .top, .top, .flt .f32 v1774, .top, .top, .top, .top, .top, .top, .top, .top, .top, .top, .top, .top, .top, .top, .top, .top, .top, .top, .top, .top, .top, .top, .top, .top, .top, .top, .top, .top, .top, .top, .top, .top, .top, .top, .top, .top, .top, .top, .top, .top, .top, .top, .top, .top, .top, .top, .top, .top, .top, .top, .top, .top, .top, .top, .top, .top, .top, .top, .top, .top, .top, .top, .top, .top, .top, .top, .top, .top, .top, .top, .top, .top, .top, .top, .top, .top, .top, .top, .top, .top, .top, .top, .top, .top, .top, .top, .top, .top, .top, .top, .top, .top, .top, .top, .top, .top, .top, .top, .int .i64 v1775, .int .i64 s.1, .top, .top, .top, .top, .top, .top, .top, .top, .top, .top, .top, .top, .top, .top, .top, .top, .top, .top, .top, .top, .top, .top, .top, .top], [.gen [.int .i64 (0 : Int), .int .i64 (0 : Int), .nilslc] false 0, .gen [.int .i64 (0 : Int), .int .i64 (0 : Int), .nilslc] false 0, .gen [.int .i64 v1777, .int .i64 v1778, .own 5 0 ((s.2).length)] false 0, .gen [.int .i64 v1779, .int .i64 v1780, .own 6 0 ((v1783).length)] false 0, .row (.f32 v1781) 0, .row (.f32 s.2) 0, .row (.f32 v1783) 0])
def spec_l03Mirror_l8_X (v53 : Int) (v54 : Int) (v55 : List Nat) (v1773 : Int) (v1774 : Nat) (v1775 : Int) (v1777 : Int) (v1778 : Int) (v1779 : Int) (v1780 : Int) (v1781 : List Nat) (v1783 : List Nat) (x : (List Nat)) : Out := (.normal, [.bptr (BR.root 0) [.int .i64 v53, .int .i64 v54, .bslc (BR.root 1) (.f32 v55)], .top, .ptr 0 (0 : Nat) 0 (3 : Nat), .ptr 1 (0 : Nat) 0 (3 : Nat), .top, .ptr 2 (0 : Nat) 0 (3 : Nat), .ptr 3 (0 : Nat) 0 (3 : Nat), .int .i64 v1773, .top, .top, .top, .top, .top, .top, .top, .top, .top, .top, .top, .top, .top, .top, .top, .top, .top, .top, .top, .top, .top, .top, .top, .top, .top, .top, .top, .top, .top, .top, .top, .top, .top, .top, .top, .top, .top, .top, .top, .top, .top, .top, .top, .top, .top, .top, .top, .top, .top, .top, .top, .top, .top, .top, .top, .top, .top, .top, .top, .top, .top, .top, .top, .top, .top, .top, .top, .top, .top, .top, .top, .top, .top, .top, .top, .top, .top, .top, .top, .top, .top, .top, .top, .top, .top, .top, .top, .top, .top, .top, .top, .top, .top, .top, .top, .top, .top, .top, .top, .top, .top, .top, .top, .top, .top, .top, .top, .top, .top, .top, .top, .top, .top, .top, .top, .top, .top, .top, .top, .top, .top, .top, .top, .top, .top, .top, .top, .top, .top, .top, .top], [.gen [.int .i64 (0 : Int), .int .i64 (0 : Int), .nilslc] false 0, .gen [.int .i64 (0 : Int), .int .i64 (0 : Int), .nilslc] false 0, .gen [.int .i64 v1777, .int .i64 v1778, .own 4 0 ((x).length)] false 0, .gen [.int .i64 v1779, .int .i64 v1780, .own 5 0 ((v1783).length)] false 0, .row (.f32 x) 0, .row (.f32 v1783) 0])
def spec_l03Mirror_l8_kill : List Nat := [0, 1, 0, 0, 1, 0, 0, 0, 0, 1, 1, 1, 1, 1, 0, 1, 1, 1, 1, 1, 1, 1, 1, 1, 1, 1, 1, 1, 1, 1, 1, 1, 1, 1, 1, 1, 1, 1, 1, 1, 1, 1, 1, 1, 1, 1, 1, 1, 1, 1, 1, 1, 1, 1, 1, 1, 1, 1, 1, 1, 1, 1, 1, 1, 1, 1, 1, 1, 1, 1, 1, 1, 1, 1, 1, 1, 1, 1, 1, 1, 1, 1, 1, 1, 1, 1, 1, 1, 1, 1, 1, 1, 1, 1, 1, 1, 1, 1, 1, 1, 1, 1, 1, 1, 1, 1, 1, 1, 1, 1, 1, 1, 1, 0, 0, 1, 1, 1, 1, 1, 1, 1, 1, 1, 1, 1, 1, 1, 1, 1, 1, 1, 1, 1, 1, 1, 1, 1, 1]
def spec_l03Mirror_l8_nx : Exit → List Nat
  | .exit 0 => [1, 1, 0, 0, 1, 0, 0, 1, 1, 1, 1, 1, 1, 1, 1, 1, 1, 1, 1, 1, 1, 1, 1, 1, 1, 1, 1, 1, 1, 1, 1, 1, 1, 1, 1, 1, 1, 1, 1, 1, 1, 1, 1, 1, 1, 1, 1, 1, 1, 1, 1, 1, 1, 1, 1, 1, 1, 1, 1, 1, 1, 1, 1, 1, 1, 1, 1, 1, 1, 1, 1, 1, 1, 1, 1, 1, 1, 1, 1, 1, 1, 1, 1, 1, 1, 1, 1, 1, 1, 1, 1, 1, 1, 1, 1, 1, 1, 1, 1, 1, 1, 1, 1, 1, 1, 1, 1, 1, 1, 1, 1, 1, 1, 1, 1, 1, 1, 1, 1, 1, 1, 1, 1, 1, 1, 1, 1, 1, 1, 1, 1, 1, 1, 1, 1, 1, 1, 1, 1]
  | .exit 1 => [0, 1, 0, 0, 1, 0, 0, 0, 1, 1, 1, 1, 1, 1, 1, 1, 1, 1, 1, 1, 1, 1, 1, 1, 1, 1, 1, 1, 1, 1, 1, 1, 1, 1, 1, 1, 1, 1, 1, 1, 1, 1, 1, 1, 1, 1, 1, 1, 1, 1, 1, 1, 1, 1, 1, 1, 1, 1, 1, 1, 1, 1, 1, 1, 1, 1, 1, 1, 1, 1, 1, 1, 1, 1, 1, 1, 1, 1, 1, 1, 1, 1, 1, 1, 1, 1, 1, 1, 1, 1, 1, 1, 1, 1, 1, 1, 1, 1, 1, 1, 1, 1, 1, 1, 1, 1, 1, 1, 1, 1, 1, 1, 1, 1, 1, 1, 1, 1, 1, 1, 1, 1, 1, 1, 1, 1, 1, 1, 1, 1, 1, 1, 1, 1, 1, 1, 1, 1, 1]
  | .exit 8 => [0, 1, 0, 0, 1, 0, 0, 0, 1, 1, 1, 1, 1, 1, 1, 1, 1, 1, 1, 1, 1, 1, 1, 1, 1, 1, 1, 1, 1, 1, 1, 1, 1, 1, 1, 1, 1, 1, 1, 1, 1, 1, 1, 1, 1, 1, 1, 1, 1, 1, 1, 1, 1, 1, 1, 1, 1, 1, 1, 1, 1, 1, 1, 1, 1, 1, 1, 1, 1, 1, 1, 1, 1, 1, 1, 1, 1, 1, 1, 1, 1, 1, 1, 1, 1, 1, 1, 1, 1, 1, 1, 1, 1, 1, 1, 1, 1, 1, 1, 1, 1, 1, 1, 1, 1, 1, 1, 1, 1, 1, 1, 1, 1, 1, 1, 1, 1, 1, 1, 1, 1, 1, 1, 1, 1, 1, 1, 1, 1, 1, 1, 1, 1, 1, 1, 1, 1, 1, 1]
  | .ret => [1, 1, 0, 0, 0, 1, 1, 1, 1, 1, 1, 1, 1, 1, 1, 1, 1, 1, 1, 1, 1, 1, 1, 1, 1, 1, 1, 1, 1, 1, 1, 1, 1, 1, 1, 1, 1, 1, 1, 1, 1, 1, 1, 1, 1, 1, 1, 1, 1, 1, 1, 1, 1, 1, 1, 1, 1, 1, 1, 1, 1, 1, 1, 1, 1, 1, 1, 1, 1, 1, 1, 1, 1, 1, 1, 1, 1, 1, 1, 1, 1, 1, 1, 1, 1, 1, 1, 1, 1, 1, 1, 1, 1, 1, 1, 1, 1, 1, 1, 1, 1, 1, 1, 1, 1, 1, 1, 1, 1, 1, 1, 1, 1, 1, 1, 1, 1, 1, 1, 1, 1, 1, 1, 1, 1, 1, 1, 1, 1, 1, 1, 1, 1, 1, 1, 1, 1, 1, 1]
  | _ => []
noncomputable def spec_l03Mirror_l0_T (v53 : Int) (v54 : Int) (v55 : List Nat) (v1207 : Int) (v1208 : Int) (v1209 : Int) (v1210 : Int) (s : Int × (List Nat) × (List Nat)) : Tree ((Int × (List Nat) × (List Nat)) ⊕ ((Unit) ⊕ ((List Nat) × (List Nat)))) :=
  (.br (decide (s.1 < v54)) (
   (.call (spec_l03Column_g v53 v54 v55 s.1) fun v1213 =>
   (.need (some (spec_l03Mirror_l2_E v53 v54 v55 s.1 v1207 v1208 v1209 v1210 s.2.1 ((0 : Int), v1213, s.2.2)) = some (spec_l03Mirror_l2_E v53 v54 v55 s.1 v1207 v1208 v1209 v1210 s.2.1 ((0 : Int), v1213, s.2.2))) <|
   (.call (spec_l03Mirror_l2_g v53 v54 v55 s.1 v1207 v1208 v1209 v1210 s.2.1 ((0 : Int), v1213, s.2.2)) fun v1748 =>
   (.call (spec_l02Dot_g v1748.1 v1748.1) fun v1749 =>
   (.call (spec_l01Sqrt_g v1749) fun v1750 =>
   (.br (!(fgrt .f32 v1750 (0 : Nat))) (
    .leaf (.inr (.inl ()))
   ) (
    (.grd (inb (IntKind.i64.wrap ((IntKind.i64.wrap (s.1 * v1210)) + s.1)) ((v1748.2).length)) <|
    (.need (some (spec_l03Mirror_l8_E v53 v54 v55 s.1 v1750 (((v1748.1).length : Nat) : Int) v1207 v1208 v1209 v1210 v1748.1 (List.set v1748.2 (Int.toNat (IntKind.i64.wrap ((IntKind.i64.wrap (s.1 * v1210)) + s.1))) v1750) ((0 : Int), s.2.1)) = some (spec_l03Mirror_l8_E v53 v54 v55 s.1 v1750 (((v1748.1).length : Nat) : Int) v1207 v1208 v1209 v1210 v1748.1 (List.set v1748.2 (Int.toNat (IntKind.i64.wrap ((IntKind.i64.wrap (s.1 * v1210)) + s.1))) v1750) ((0 : Int), s.2.1))) <|
    (.call (spec_l03Mirror_l8_g s.1 v1750 (((v1748.1).length : Nat) : Int) v1207 v1208 v1209 v1210 v1748.1 (List.set v1748.2 (Int.toNat (IntKind.i64.wrap ((IntKind.i64.wrap (s.1 * v1210)) + s.1))) v1750) ((0 : Int), s.2.1)) fun v1784 =>
    .leaf (.inl (IntKind.i64.wrap (s.1 + (1 : Int)), v1784, (List.set v1748.2 (Int.toNat (IntKind.i64.wrap ((IntKind.i64.wrap (s.1 * v1210)) + s.1))) v1750))))))
   )))))))
  ) (
   .leaf (.inr (.inr (s.2.1, s.2.2)))
  ))

noncomputable def spec_l03Mirror_l0_g (v53 : Int) (v54 : Int) (v55 : List Nat) (v1207 : Int) (v1208 : Int) (v1209 : Int) (v1210 : Int) (s0 : Int × (List Nat) × (List Nat)) : Option ((Unit) ⊕ ((List Nat) × (List Nat))) := whileM (fun s => (spec_l03Mirror_l0_T v53 v54 v55 v1207 v1208 v1209 v1210 s).run) s0
def spec_l03Mirror_l0_E (v53 : Int) (v54 : Int) (v55 : List Nat) (v1207 : Int) (v1208 : Int) (v1209 : Int) (v1210 : Int) (s : Int × (List Nat) × (List Nat)) : Sd := ([.bptr (BR.root 0) [.int .i64 v53, .int .i64 v54, .bslc (BR.root 1) (.f32 v55)], .top, .ptr 0 (0 : Nat) 0 (3 : Nat), .ptr 1 (0 : Nat) 0 (3 : Nat), .top, .ptr 2 (0 : Nat) 0 (3 : Nat), .ptr 3 (0 : Nat) 0 (3 : Nat), .int .i64 s.1, .top, .top, .top, .top, .top, .top, .top, .top, .top, .top, .top, .top, .top, .top, .top, .top, .top, .top, .top, .top, .top, .top, .top, .top, .top, .top, .top, .top, .top, .top, .top, .top, .top, .top, .top, .top, .top, .top, .top, .top, .top, .top, .top, .top, .top, .top, .top, .top, .top, .top, .top, .top, .top, .top, .top, .top, .top, .top, .top, .top, .top, .top, .top, .top, .top, .top, .top, .top, .top, .top, .top, .top, .top, .top, .top, .top, .top, .top, .top, .top, .top, .top, .top, .top, .top, .top, .top, .top, .top, .top, .top, .top, .top, .top, .top, .top, .top, .top, .top, .top, .top, .top, .top, .top, .top, .top, .top, .top, .top, .top, .top, .top, .top, .top, .top, .top, .top, .top, .top, .top, .top, .top, .top, .top, .top, .top, .top, .top, .top, .top, .top], [.gen [.int .i64 (0 : Int), .int .i64 (0 : Int), .nilslc] false 0, .gen [.int .i64 (0 : Int), .int .i64 (0 : Int), .nilslc] false 0, .gen [.int .i64 v1207, .int .i64 v1208, .own 4 0 ((s.2.1).length)] false 0, .gen [.int .i64 v1209, .int .i64 v1210, .own 5 0 ((s.2.2).length)] false 0, .row (.f32 s.2.1) 0, .row (.f32 s.2.2) 0])
def spec_l03Mirror_l0_X (v53 : Int) (v54 : Int) (v55 : List Nat) (v1207 : Int) (v1208 : Int) (v1209 : Int) (v1210 : Int) (x : (Unit) ⊕ ((List Nat) × (List Nat))) : Out := (match x with | .inl x => (.ret, [.top, .top, .ptr 0 (0 : Nat) 0 (3 : Nat), .ptr 1 (0 : Nat) 0 (3 : Nat), .lit false, .top, .top, .top, .top, .top, .top, .top, .top, .top, .top, .top, .top, .top, .top, .top, .top, .top, .top, .top, .top, .top, .top, .top, .top, .top, .top, .top, .top, .top, .top, .top, .top, .top, .top, .top, .top, .top, .top, .top, .top, .top, .top, .top, .top, .top, .top, .top, .top, .top, .top, .top, .top, .top, .top, .top, .top, .top, .top, .top, .top, .top, .top, .top, .top, .top, .top, .top, .top, .top, .top, .top, .top, .top, .top, .top, .top, .top, .top, .top, .top, .top, .top, .top, .top, .top, .top, .top, .top, .top, .top, .top, .top, .top, .top, .top, .top, .top, .top, .top, .top, .top, .top, .top, .top, .top, .top, .top, .top, .top, .top, .top, .top, .top, .top, .top, .top, .top, .top, .top, .top, .top, .top, .top, .top, .top, .top, .top, .top, .top, .top, .top, .top, .top, .top], [.gen [.int .i64 (0 : Int), .int .i64 (0 : Int), .nilslc] false 0, .gen [.int .i64 (0 : Int), .int .i64 (0 : Int), .nilslc] false 0]) | .inr x => (.normal, [.top, .top, .ptr 0 (0 : Nat) 0 (3 : Nat), .ptr 1 (0 : Nat) 0 (3 : Nat), .top, .ptr 2 (0 : Nat) 0 (3 : Nat), .ptr 3 (0 : Nat) 0 (3 : Nat), .top, .top, .top, .top, .top, .top, .top, .top, .top, .top, .top, .top, .top, .top, .top, .top, .top, .top, .top, .top, .top, .top, .top, .top, .top, .top, .top, .top, .top, .top, .top, .top, .top, .top, .top, .top, .top, .top, .top, .top, .top, .top, .top, .top, .top, .top, .top, .top, .top, .top, .top, .top, .top, .top, .top, .top, .top, .top, .top, .top, .top, .top, .top, .top, .top, .top, .top, .top, .top, .top, .top, .top, .top, .top, .top, .top, .top, .top, .top, .top, .top, .top, .top, .top, .top, .top, .top, .top, .top, .top, .top, .top, .top, .top, .top, .top, .top, .top, .top, .top, .top, .top, .top, .top, .top, .top, .top, .top, .top, .top, .top, .top, .top, .top, .top, .top, .top, .top, .top, .top, .top, .top, .top, .top, .top, .top, .top, .top, .top, .top, .top, .top], [.gen [.int .i64 (0 : Int), .int .i64 (0 : Int), .nilslc] false 0, .gen [.int .i64 (0 : Int), .int .i64 (0 : Int), .nilslc] false 0, .gen [.int .i64 v1207, .int .i64 v1208, .own 4 0 ((x.1).length)] false 0, .gen [.int .i64 v1209, .int .i64 v1210, .own 5 0 ((x.2).length)] false 0, .row (.f32 x.1) 0, .row (.f32 x.2) 0]))
def spec_l03Mirror_l0_kill : List Nat := [0, 1, 0, 0, 1, 0, 0, 0, 1, 1, 1, 1, 1, 1, 1, 1, 1, 1, 1, 1, 1, 1, 1, 1, 1, 1, 1, 1, 1, 1, 1, 1, 1, 1, 1, 1, 1, 1, 1, 1, 1, 1, 1, 1, 1, 1, 1, 1, 1, 1, 1, 1, 1, 1, 1, 1, 1, 1, 1, 1, 1, 1, 1, 1, 1, 1, 1, 1, 1, 1, 1, 1, 1, 1, 1, 1, 1, 1, 1, 1, 1, 1, 1, 1, 1, 1, 1, 1, 1, 1, 1, 1, 1, 1, 1, 1, 1, 1, 1, 1, 1, 1, 1, 1, 1, 1, 1, 1, 1, 1, 1, 1, 1, 1, 1, 1, 1, 1, 1, 1, 1, 1, 1, 1, 1, 1, 1, 1, 1, 1, 1, 1, 1, 1, 1, 1, 1, 1, 1]
def spec_l03Mirror_l0_nx : Exit → List Nat
  | .exit 0 => [1, 1, 0, 0, 1, 0, 0, 1, 1, 1, 1, 1, 1, 1, 1, 1, 1, 1, 1, 1, 1, 1, 1, 1, 1, 1, 1, 1, 1, 1, 1, 1, 1, 1, 1, 1, 1, 1, 1, 1, 1, 1, 1, 1, 1, 1, 1, 1, 1, 1, 1, 1, 1, 1, 1, 1, 1, 1, 1, 1, 1, 1, 1, 1, 1, 1, 1, 1, 1, 1, 1, 1, 1, 1, 1, 1, 1, 1, 1, 1, 1, 1, 1, 1, 1, 1, 1, 1, 1, 1, 1, 1, 1, 1, 1, 1, 1, 1, 1, 1, 1, 1, 1, 1, 1, 1, 1, 1, 1, 1, 1, 1, 1, 1, 1, 1, 1, 1, 1, 1, 1, 1, 1, 1, 1, 1, 1, 1, 1, 1, 1, 1, 1, 1, 1, 1, 1, 1, 1]
  | .ret => [1, 1, 0, 0, 0, 1, 1, 1, 1, 1, 1, 1, 1, 1, 1, 1, 1, 1, 1, 1, 1, 1, 1, 1, 1, 1, 1, 1, 1, 1, 1, 1, 1, 1, 1, 1, 1, 1, 1, 1, 1, 1, 1, 1, 1, 1, 1, 1, 1, 1, 1, 1, 1, 1, 1, 1, 1, 1, 1, 1, 1, 1, 1, 1, 1, 1, 1, 1, 1, 1, 1, 1, 1, 1, 1, 1, 1, 1, 1, 1, 1, 1, 1, 1, 1, 1, 1, 1, 1, 1, 1, 1, 1, 1, 1, 1, 1, 1, 1, 1, 1, 1, 1, 1, 1, 1, 1, 1, 1, 1, 1, 1, 1, 1, 1, 1, 1, 1, 1, 1, 1, 1, 1, 1, 1, 1, 1, 1, 1, 1, 1, 1, 1, 1, 1, 1, 1, 1, 1]
  | _ => []
noncomputable def spec_l03Mirror_LO (v53 : Int) (v54 : Int) (v55 : List Nat) : LOr := fun id e L =>
  match id with
  | 6 => .need (normA 0 spec_l03Mirror_l6_kill e L = some (spec_l03Mirror_l6_E v53 v54 v55 (gI (vAt e 7)) (gI (vAt e 9)) (gI (vAt e 10)) (gF (vAt e 12)) (gI (vAt e 74)) (gI (cAt L (vAt e 5) 0)) (gI (cAt L (vAt e 5) 1)) (gI (cAt L (vAt e 6) 0)) (gI (cAt L (vAt e 6) 1)) (gRF L (vAt e 11)) (gRF L (cAt L (vAt e 5) 2)) (gRF L (cAt L (vAt e 6) 2)) ((gI (vAt e 75)), (gRF L (vAt e 8))))) (.call (spec_l03Mirror_l6_g (gI (vAt e 7)) (gI (vAt e 9)) (gI (vAt e 10)) (gF (vAt e 12)) (gI (vAt e 74)) (gI (cAt L (vAt e 5) 0)) (gI (cAt L (vAt e 5) 1)) (gI (cAt L (vAt e 6) 0)) (gI (cAt L (vAt e 6) 1)) (gRF L (vAt e 11)) (gRF L (cAt L (vAt e 5) 2)) (gRF L (cAt L (vAt e 6) 2)) ((gI (vAt e 75)), (gRF L (vAt e 8)))) fun x => .leaf (spec_l03Mirror_l6_X v53 v54 v55 (gI (vAt e 7)) (gI (vAt e 9)) (gI (vAt e 10)) (gF (vAt e 12)) (gI (vAt e 74)) (gI (cAt L (vAt e 5) 0)) (gI (cAt L (vAt e 5) 1)) (gI (cAt L (vAt e 6) 0)) (gI (cAt L (vAt e 6) 1)) (gRF L (vAt e 11)) (gRF L (cAt L (vAt e 5) 2)) (gRF L (cAt L (vAt e 6) 2)) x))
  | 4 => .need (normA 0 spec_l03Mirror_l4_kill e L = some (spec_l03Mirror_l4_E v53 v54 v55 (gI (vAt e 7)) (gI (vAt e 9)) (gI (cAt L (vAt e 5) 0)) (gI (cAt L (vAt e 5) 1)) (gI (cAt L (vAt e 6) 0)) (gI (cAt L (vAt e 6) 1)) (gRF L (cAt L (vAt e 5) 2)) ((gI (vAt e 10)), (gRF L (vAt e 8)), (gRF L (cAt L (vAt e 6) 2))))) (.call (spec_l03Mirror_l4_g v53 v54 v55 (gI (vAt e 7)) (gI (vAt e 9)) (gI (cAt L (vAt e 5) 0)) (gI (cAt L (vAt e 5) 1)) (gI (cAt L (vAt e 6) 0)) (gI (cAt L (vAt e 6) 1)) (gRF L (cAt L (vAt e 5) 2)) ((gI (vAt e 10)), (gRF L (vAt e 8)), (gRF L (cAt L (vAt e 6) 2)))) fun x => .leaf (spec_l03Mirror_l4_X v53 v54 v55 (gI (vAt e 7)) (gI (vAt e 9)) (gI (cAt L (vAt e 5) 0)) (gI (cAt L (vAt e 5) 1)) (gI (cAt L (vAt e 6) 0)) (gI (cAt L (vAt e 6) 1)) (gRF L (cAt L (vAt e 5) 2)) x))
  | 2 => .need (normA 0 spec_l03Mirror_l2_kill e L = some (spec_l03Mirror_l2_E v53 v54 v55 (gI (vAt e 7)) (gI (cAt L (vAt e 5) 0)) (gI (cAt L (vAt e 5) 1)) (gI (cAt L (vAt e 6) 0)) (gI (cAt L (vAt e 6) 1)) (gRF L (cAt L (vAt e 5) 2)) ((gI (vAt e 9)), (gRF L (vAt e 8)), (gRF L (cAt L (vAt e 6) 2))))) (.call (spec_l03Mirror_l2_g v53 v54 v55 (gI (vAt e 7)) (gI (cAt L (vAt e 5) 0)) (gI (cAt L (vAt e 5) 1)) (gI (cAt L (vAt e 6) 0)) (gI (cAt L (vAt e 6) 1)) (gRF L (cAt L (vAt e 5) 2)) ((gI (vAt e 9)), (gRF L (vAt e 8)), (gRF L (cAt L (vAt e 6) 2)))) fun x => .leaf (spec_l03Mirror_l2_X v53 v54 v55 (gI (vAt e 7)) (gI (cAt L (vAt e 5) 0)) (gI (cAt L (vAt e 5) 1)) (gI (cAt L (vAt e 6) 0)) (gI (cAt L (vAt e 6) 1)) (gRF L (cAt L (vAt e 5) 2)) x))
  | 8 => .need (normA 0 spec_l03Mirror_l8_kill e L = some (spec_l03Mirror_l8_E v53 v54 v55 (gI (vAt e 7)) (gF (vAt e 14)) (gI (vAt e 113)) (gI (cAt L (vAt e 5) 0)) (gI (cAt L (vAt e 5) 1)) (gI (cAt L (vAt e 6) 0)) (gI (cAt L (vAt e 6) 1)) (gRF L (vAt e 8)) (gRF L (cAt L (vAt e 6) 2)) ((gI (vAt e 114)), (gRF L (cAt L (vAt e 5) 2))))) (.call (spec_l03Mirror_l8_g (gI (vAt e 7)) (gF (vAt e 14)) (gI (vAt e 113)) (gI (cAt L (vAt e 5) 0)) (gI (cAt L (vAt e 5) 1)) (gI (cAt L (vAt e 6) 0)) (gI (cAt L (vAt e 6) 1)) (gRF L (vAt e 8)) (gRF L (cAt L (vAt e 6) 2)) ((gI (vAt e 114)), (gRF L (cAt L (vAt e 5) 2)))) fun x => .leaf (spec_l03Mirror_l8_X v53 v54 v55 (gI (vAt e 7)) (gF (vAt e 14)) (gI (vAt e 113)) (gI (cAt L (vAt e 5) 0)) (gI (cAt L (vAt e 5) 1)) (gI (cAt L (vAt e 6) 0)) (gI (cAt L (vAt e 6) 1)) (gRF L (vAt e 8)) (gRF L (cAt L (vAt e 6) 2)) x))
  | 0 => .need (normA 0 spec_l03Mirror_l0_kill e L = some (spec_l03Mirror_l0_E v53 v54 v55 (gI (cAt L (vAt e 5) 0)) (gI (cAt L (vAt e 5) 1)) (gI (cAt L (vAt e 6) 0)) (gI (cAt L (vAt e 6) 1)) ((gI (vAt e 7)), (gRF L (cAt L (vAt e 5) 2)), (gRF L (cAt L (vAt e 6) 2))))) (.call (spec_l03Mirror_l0_g v53 v54 v55 (gI (cAt L (vAt e 5) 0)) (gI (cAt L (vAt e 5) 1)) (gI (cAt L (vAt e 6) 0)) (gI (cAt L (vAt e 6) 1)) ((gI (vAt e 7)), (gRF L (cAt L (vAt e 5) 2)), (gRF L (cAt L (vAt e 6) 2)))) fun x => .sum x (fun b0 => .leaf (spec_l03Mirror_l0_X v53 v54 v55 (gI (cAt L (vAt e 5) 0)) (gI (cAt L (vAt e 5) 1)) (gI (cAt L (vAt e 6) 0)) (gI (cAt L (vAt e 6) 1)) (.inl b0))) (fun c0 => .leaf (spec_l03Mirror_l0_X v53 v54 v55 (gI (cAt L (vAt e 5) 0)) (gI (cAt L (vAt e 5) 1)) (gI (cAt L (vAt e 6) 0)) (gI (cAt L (vAt e 6) 1)) (.inr c0))))
  | _ => .fail
noncomputable def spec_l03Mirror_tab : List (FuncId × DFn × Bool) := [(133, spec_l02Zero_F, true), (159, spec_l03Column_F, true), (160, spec_l02Dot_F, true), (59, spec_l02At_F, true), (110, spec_l01Sqrt_F, true), (61, spec_l02Is_F, true)]
theorem spec_l03Mirror_hO : OrcOk Try.prog (tabD spec_l03Mirror_tab) (tabM spec_l03Mirror_tab) := tabD_cons spec_l02Zero_Fok (tabD_cons spec_l03Column_Fok (tabD_cons spec_l02Dot_Fok (tabD_cons spec_l02At_Fok (tabD_cons spec_l01Sqrt_Fok (tabD_cons spec_l02Is_Fok (tabD_nil _))))))
theorem spec_l03Mirror_l6_be (v53 : Int) (v54 : Int) (v55 : List Nat) (v1732 : Int) (v1733 : Int) (v1734 : Int) (v1735 : Nat) (v1736 : Int) (v1738 : Int) (v1739 : Int) (v1740 : Int) (v1741 : Int) (v1743 : List Nat) (v1744 : List Nat) (v1745 : List Nat) (s : Int × (List Nat)) : bodyT TT (tabD spec_l03Mirror_tab) (tabM spec_l03Mirror_tab) (spec_l03Mirror_LO v53 v54 v55) 0 spec_l03Mirror_l6_kill spec_l03Mirror_l6_nx (bodyOf Try.f115 6) 6 (spec_l03Mirror_l6_E v53 v54 v55 v1732 v1733 v1734 v1735 v1736 v1738 v1739 v1740 v1741 v1743 v1744 v1745 s) = (spec_l03Mirror_l6_T v1732 v1733 v1734 v1735 v1736 v1738 v1739 v1740 v1741 v1743 v1744 v1745 s).bind fun y => .leaf (outS (spec_l03Mirror_l6_E v53 v54 v55 v1732 v1733 v1734 v1735 v1736 v1738 v1739 v1740 v1741 v1743 v1744 v1745) (spec_l03Mirror_l6_X v53 v54 v55 v1732 v1733 v1734 v1735 v1736 v1738 v1739 v1740 v1741 v1743 v1744 v1745) y) := by kernel_rfl
theorem spec_l03Mirror_l6_ok (v53 : Int) (v54 : Int) (v55 : List Nat) : LSound Try.prog 0 (spec_l03Mirror_LO v53 v54 v55) 6 (bodyOf Try.f115 6) := by
  intro e L out h
  exact lo_ok (E := spec_l03Mirror_l6_E v53 v54 v55 (gI (vAt e 7)) (gI (vAt e 9)) (gI (vAt e 10)) (gF (vAt e 12)) (gI (vAt e 74)) (gI (cAt L (vAt e 5) 0)) (gI (cAt L (vAt e 5) 1)) (gI (cAt L (vAt e 6) 0)) (gI (cAt L (vAt e 6) 1)) (gRF L (vAt e 11)) (gRF L (cAt L (vAt e 5) 2)) (gRF L (cAt L (vAt e 6) 2))) (gT := spec_l03Mirror_l6_T (gI (vAt e 7)) (gI (vAt e 9)) (gI (vAt e 10)) (gF (vAt e 12)) (gI (vAt e 74)) (gI (cAt L (vAt e 5) 0)) (gI (cAt L (vAt e 5) 1)) (gI (cAt L (vAt e 6) 0)) (gI (cAt L (vAt e 6) 1)) (gRF L (vAt e 11)) (gRF L (cAt L (vAt e 5) 2)) (gRF L (cAt L (vAt e 6) 2))) (X := spec_l03Mirror_l6_X v53 v54 v55 (gI (vAt e 7)) (gI (vAt e 9)) (gI (vAt e 10)) (gF (vAt e 12)) (gI (vAt e 74)) (gI (cAt L (vAt e 5) 0)) (gI (cAt L (vAt e 5) 1)) (gI (cAt L (vAt e 6) 0)) (gI (cAt L (vAt e 6) 1)) (gRF L (vAt e 11)) (gRF L (cAt L (vAt e 5) 2)) (gRF L (cAt L (vAt e 6) 2))) (s0 := ((gI (vAt e 75)), (gRF L (vAt e 8)))) tok spec_l03Mirror_hO mixed (LoopsOk_eq (l := []) (by kernel_rfl) trivial) (spec_l03Mirror_l6_be v53 v54 v55 (gI (vAt e 7)) (gI (vAt e 9)) (gI (vAt e 10)) (gF (vAt e 12)) (gI (vAt e 74)) (gI (cAt L (vAt e 5) 0)) (gI (cAt L (vAt e 5) 1)) (gI (cAt L (vAt e 6) 0)) (gI (cAt L (vAt e 6) 1)) (gRF L (vAt e 11)) (gRF L (cAt L (vAt e 5) 2)) (gRF L (cAt L (vAt e 6) 2))) rfl (by intro x; rfl) h
theorem spec_l03Mirror_l4_be (v53 : Int) (v54 : Int) (v55 : List Nat) (v1691 : Int) (v1692 : Int) (v1694 : Int) (v1695 : Int) (v1696 : Int) (v1697 : Int) (v1699 : List Nat) (s : Int × (List Nat) × (List Nat)) : bodyT TT (tabD spec_l03Mirror_tab) (tabM spec_l03Mirror_tab) (spec_l03Mirror_LO v53 v54 v55) 0 spec_l03Mirror_l4_kill spec_l03Mirror_l4_nx (bodyOf Try.f115 4) 4 (spec_l03Mirror_l4_E v53 v54 v55 v1691 v1692 v1694 v1695 v1696 v1697 v1699 s) = (spec_l03Mirror_l4_T v53 v54 v55 v1691 v1692 v1694 v1695 v1696 v1697 v1699 s).bind fun y => .leaf (outS (spec_l03Mirror_l4_E v53 v54 v55 v1691 v1692 v1694 v1695 v1696 v1697 v1699) (spec_l03Mirror_l4_X v53 v54 v55 v1691 v1692 v1694 v1695 v1696 v1697 v1699) y) := by kernel_rfl
theorem spec_l03Mirror_l4_ok (v53 : Int) (v54 : Int) (v55 : List Nat) : LSound Try.prog 0 (spec_l03Mirror_LO v53 v54 v55) 4 (bodyOf Try.f115 4) := by
  intro e L out h
  exact lo_ok (E := spec_l03Mirror_l4_E v53 v54 v55 (gI (vAt e 7)) (gI (vAt e 9)) (gI (cAt L (vAt e 5) 0)) (gI (cAt L (vAt e 5) 1)) (gI (cAt L (vAt e 6) 0)) (gI (cAt L (vAt e 6) 1)) (gRF L (cAt L (vAt e 5) 2))) (gT := spec_l03Mirror_l4_T v53 v54 v55 (gI (vAt e 7)) (gI (vAt e 9)) (gI (cAt L (vAt e 5) 0)) (gI (cAt L (vAt e 5) 1)) (gI (cAt L (vAt e 6) 0)) (gI (cAt L (vAt e 6) 1)) (gRF L (cAt L (vAt e 5) 2))) (X := spec_l03Mirror_l4_X v53 v54 v55 (gI (vAt e 7)) (gI (vAt e 9)) (gI (cAt L (vAt e 5) 0)) (gI (cAt L (vAt e 5) 1)) (gI (cAt L (vAt e 6) 0)) (gI (cAt L (vAt e 6) 1)) (gRF L (cAt L (vAt e 5) 2))) (s0 := ((gI (vAt e 10)), (gRF L (vAt e 8)), (gRF L (cAt L (vAt e 6) 2)))) tok spec_l03Mirror_hO mixed (LoopsOk_eq (l := [(6, bodyOf Try.f115 6)]) (by kernel_rfl) ⟨spec_l03Mirror_l6_ok v53 v54 v55, trivial⟩) (spec_l03Mirror_l4_be v53 v54 v55 (gI (vAt e 7)) (gI (vAt e 9)) (gI (cAt L (vAt e 5) 0)) (gI (cAt L (vAt e 5) 1)) (gI (cAt L (vAt e 6) 0)) (gI (cAt L (vAt e 6) 1)) (gRF L (cAt L (vAt e 5) 2))) rfl (by intro x; rfl) h
theorem spec_l03Mirror_l2_be (v53 : Int) (v54 : Int) (v55 : List Nat) (v1570 : Int) (v1572 : Int) (v1573 : Int) (v1574 : Int) (v1575 : Int) (v1577 : List Nat) (s : Int × (List Nat) × (List Nat)) : bodyT TT (tabD spec_l03Mirror_tab) (tabM spec_l03Mirror_tab) (spec_l03Mirror_LO v53 v54 v55) 0 spec_l03Mirror_l2_kill spec_l03Mirror_l2_nx (bodyOf Try.f115 2) 2 (spec_l03Mirror_l2_E v53 v54 v55 v1570 v1572 v1573 v1574 v1575 v1577 s) = (spec_l03Mirror_l2_T v53 v54 v55 v1570 v1572 v1573 v1574 v1575 v1577 s).bind fun y => .leaf (outS (spec_l03Mirror_l2_E v53 v54 v55 v1570 v1572 v1573 v1574 v1575 v1577) (spec_l03Mirror_l2_X v53 v54 v55 v1570 v1572 v1573 v1574 v1575 v1577) y) := by kernel_rfl
theorem spec_l03Mirror_l2_ok (v53 : Int) (v54 : Int) (v55 : List Nat) : LSound Try.prog 0 (spec_l03Mirror_LO v53 v54 v55) 2 (bodyOf Try.f115 2) := by
  intro e L out h
  exact lo_ok (E := spec_l03Mirror_l2_E v53 v54 v55 (gI (vAt e 7)) (gI (cAt L (vAt e 5) 0)) (gI (cAt L (vAt e 5) 1)) (gI (cAt L (vAt e 6) 0)) (gI (cAt L (vAt e 6) 1)) (gRF L (cAt L (vAt e 5) 2))) (gT := spec_l03Mirror_l2_T v53 v54 v55 (gI (vAt e 7)) (gI (cAt L (vAt e 5) 0)) (gI (cAt L (vAt e 5) 1)) (gI (cAt L (vAt e 6) 0)) (gI (cAt L (vAt e 6) 1)) (gRF L (cAt L (vAt e 5) 2))) (X := spec_l03Mirror_l2_X v53 v54 v55 (gI (vAt e 7)) (gI (cAt L (vAt e 5) 0)) (gI (cAt L (vAt e 5) 1)) (gI (cAt L (vAt e 6) 0)) (gI (cAt L (vAt e 6) 1)) (gRF L (cAt L (vAt e 5) 2))) (s0 := ((gI (vAt e 9)), (gRF L (vAt e 8)), (gRF L (cAt L (vAt e 6) 2)))) tok spec_l03Mirror_hO mixed (LoopsOk_eq (l := [(4, bodyOf Try.f115 4)]) (by kernel_rfl) ⟨spec_l03Mirror_l4_ok v53 v54 v55, trivial⟩) (spec_l03Mirror_l2_be v53 v54 v55 (gI (vAt e 7)) (gI (cAt L (vAt e 5) 0)) (gI (cAt L (vAt e 5) 1)) (gI (cAt L (vAt e 6) 0)) (gI (cAt L (vAt e 6) 1)) (gRF L (cAt L (vAt e 5) 2))) rfl (by intro x; rfl) h
theorem spec_l03Mirror_l8_be (v53 : Int) (v54 : Int) (v55 : List Nat) (v1773 : Int) (v1774 : Nat) (v1775 : Int) (v1777 : Int) (v1778 : Int) (v1779 : Int) (v1780 : Int) (v1781 : List Nat) (v1783 : List Nat) (s : Int × (List Nat)) : bodyT TT (tabD spec_l03Mirror_tab) (tabM spec_l03Mirror_tab) (spec_l03Mirror_LO v53 v54 v55) 0 spec_l03Mirror_l8_kill spec_l03Mirror_l8_nx (bodyOf Try.f115 8) 8 (spec_l03Mirror_l8_E v53 v54 v55 v1773 v1774 v1775 v1777 v1778 v1779 v1780 v1781 v1783 s) = (spec_l03Mirror_l8_T v1773 v1774 v1775 v1777 v1778 v1779 v1780 v1781 v1783 s).bind fun y => .leaf (outS (spec_l03Mirror_l8_E v53 v54 v55 v1773 v1774 v1775 v1777 v1778 v1779 v1780 v1781 v1783) (spec_l03Mirror_l8_X v53 v54 v55 v1773 v1774 v1775 v1777 v1778 v1779 v1780 v1781 v1783) y) := by kernel_rfl
theorem spec_l03Mirror_l8_ok (v53 : Int) (v54 : Int) (v55 : List Nat) : LSound Try.prog 0 (spec_l03Mirror_LO v53 v54 v55) 8 (bodyOf Try.f115 8) := by
  intro e L out h
  exact lo_ok (E := spec_l03Mirror_l8_E v53 v54 v55 (gI (vAt e 7)) (gF (vAt e 14)) (gI (vAt e 113)) (gI (cAt L (vAt e 5) 0)) (gI (cAt L (vAt e 5) 1)) (gI (cAt L (vAt e 6) 0)) (gI (cAt L (vAt e 6) 1)) (gRF L (vAt e 8)) (gRF L (cAt L (vAt e 6) 2))) (gT := spec_l03Mirror_l8_T (gI (vAt e 7)) (gF (vAt e 14)) (gI (vAt e 113)) (gI (cAt L (vAt e 5) 0)) (gI (cAt L (vAt e 5) 1)) (gI (cAt L (vAt e 6) 0)) (gI (cAt L (vAt e 6) 1)) (gRF L (vAt e 8)) (gRF L (cAt L (vAt e 6) 2))) (X := spec_l03Mirror_l8_X v53 v54 v55 (gI (vAt e 7)) (gF (vAt e 14)) (gI (vAt e 113)) (gI (cAt L (vAt e 5) 0)) (gI (cAt L (vAt e 5) 1)) (gI (cAt L (vAt e 6) 0)) (gI (cAt L (vAt e 6) 1)) (gRF L (vAt e 8)) (gRF L (cAt L (vAt e 6) 2))) (s0 := ((gI (vAt e 114)), (gRF L (cAt L (vAt e 5) 2)))) tok spec_l03Mirror_hO mixed (LoopsOk_eq (l := []) (by kernel_rfl) trivial) (spec_l03Mirror_l8_be v53 v54 v55 (gI (vAt e 7)) (gF (vAt e 14)) (gI (vAt e 113)) (gI (cAt L (vAt e 5) 0)) (gI (cAt L (vAt e 5) 1)) (gI (cAt L (vAt e 6) 0)) (gI (cAt L (vAt e 6) 1)) (gRF L (vAt e 8)) (gRF L (cAt L (vAt e 6) 2))) rfl (by intro x; rfl) h
theorem spec_l03Mirror_l0_be (v53 : Int) (v54 : Int) (v55 : List Nat) (v1207 : Int) (v1208 : Int) (v1209 : Int) (v1210 : Int) (s : Int × (List Nat) × (List Nat)) : bodyT TT (tabD spec_l03Mirror_tab) (tabM spec_l03Mirror_tab) (spec_l03Mirror_LO v53 v54 v55) 0 spec_l03Mirror_l0_kill spec_l03Mirror_l0_nx (bodyOf Try.f115 0) 0 (spec_l03Mirror_l0_E v53 v54 v55 v1207 v1208 v1209 v1210 s) = (spec_l03Mirror_l0_T v53 v54 v55 v1207 v1208 v1209 v1210 s).bind fun y => .leaf (outS (spec_l03Mirror_l0_E v53 v54 v55 v1207 v1208 v1209 v1210) (spec_l03Mirror_l0_X v53 v54 v55 v1207 v1208 v1209 v1210) y) := by kernel_rfl
theorem spec_l03Mirror_l0_ok (v53 : Int) (v54 : Int) (v55 : List Nat) : LSound Try.prog 0 (spec_l03Mirror_LO v53 v54 v55) 0 (bodyOf Try.f115 0) := by
  intro e L out h
  exact lo_ok (E := spec_l03Mirror_l0_E v53 v54 v55 (gI (cAt L (vAt e 5) 0)) (gI (cAt L (vAt e 5) 1)) (gI (cAt L (vAt e 6) 0)) (gI (cAt L (vAt e 6) 1))) (gT := spec_l03Mirror_l0_T v53 v54 v55 (gI (cAt L (vAt e 5) 0)) (gI (cAt L (vAt e 5) 1)) (gI (cAt L (vAt e 6) 0)) (gI (cAt L (vAt e 6) 1))) (X := spec_l03Mirror_l0_X v53 v54 v55 (gI (cAt L (vAt e 5) 0)) (gI (cAt L (vAt e 5) 1)) (gI (cAt L (vAt e 6) 0)) (gI (cAt L (vAt e 6) 1))) (s0 := ((gI (vAt e 7)), (gRF L (cAt L (vAt e 5) 2)), (gRF L (cAt L (vAt e 6) 2)))) tok spec_l03Mirror_hO mixed (LoopsOk_eq (l := [(2, bodyOf Try.f115 2), (8, bodyOf Try.f115 8)]) (by kernel_rfl) ⟨spec_l03Mirror_l2_ok v53 v54 v55, spec_l03Mirror_l8_ok v53 v54 v55, trivial⟩) (spec_l03Mirror_l0_be v53 v54 v55 (gI (cAt L (vAt e 5) 0)) (gI (cAt L (vAt e 5) 1)) (gI (cAt L (vAt e 6) 0)) (gI (cAt L (vAt e 6) 1))) rfl (by intro x; (cases x with | inl b => rfl | inr x => exact rfl)) h
noncomputable def spec_l03Mirror_T (v53 : Int) (v54 : Int) (v55 : List Nat) : Tree ((Unit) ⊕ ((Int × Int × Int × Int × Bool × (List Nat) × (List Nat)) ⊕ (Int × Int × Int × Int × (List Nat) × (List Nat)))) :=
  (.call (spec_l02Zero_g v53 v54) fun v58 =>
  (.call (spec_l02Zero_g v54 v54) fun v59 =>
  (.need (some (spec_l03Mirror_l0_E v53 v54 v55 v58.1 v58.2 v59.1 v59.2 ((0 : Int), List.replicate (Int.toNat (IntKind.i64.wrap (v53 * v54))) (0 : Nat), List.replicate (Int.toNat (IntKind.i64.wrap (v54 * v54))) (0 : Nat))) = some (spec_l03Mirror_l0_E v53 v54 v55 v58.1 v58.2 v59.1 v59.2 ((0 : Int), List.replicate (Int.toNat (IntKind.i64.wrap (v53 * v54))) (0 : Nat), List.replicate (Int.toNat (IntKind.i64.wrap (v54 * v54))) (0 : Nat)))) <|
  (.call (spec_l03Mirror_l0_g v53 v54 v55 v58.1 v58.2 v59.1 v59.2 ((0 : Int), List.replicate (Int.toNat (IntKind.i64.wrap (v53 * v54))) (0 : Nat), List.replicate (Int.toNat (IntKind.i64.wrap (v54 * v54))) (0 : Nat))) fun v1785 =>
  (.sum v1785 (fun v1786 =>
   .leaf (.inl ())
  ) (fun v1787 =>
   (.call (spec_l02Is_g v58.1 v58.2 v1787.1) fun v1788 =>
   (.br v1788 (
    (.call (spec_l02Is_g v59.1 v59.2 v1787.2) fun v1789 =>
    .leaf (.inr (.inl (v58.1, v58.2, v59.1, v59.2, v1789, v1787.1, v1787.2))))
   ) (
    .leaf (.inr (.inr (v58.1, v58.2, v59.1, v59.2, v1787.1, v1787.2)))
   )))
  ))))))

noncomputable def spec_l03Mirror_g (v53 : Int) (v54 : Int) (v55 : List Nat) : Option ((Unit) ⊕ ((Int × Int × Int × Int × Bool × (List Nat) × (List Nat)) ⊕ (Int × Int × Int × Int × (List Nat) × (List Nat)))) := (spec_l03Mirror_T v53 v54 v55).run
def spec_l03Mirror_enc (v53 : Int) (v54 : Int) (v55 : List Nat) (y : (Unit) ⊕ ((Int × Int × Int × Int × Bool × (List Nat) × (List Nat)) ⊕ (Int × Int × Int × Int × (List Nat) × (List Nat)))) : Rs := (match y with | .inl y => (.tup [.agg [.int .i64 (0 : Int), .int .i64 (0 : Int), .nilslc], .agg [.int .i64 (0 : Int), .int .i64 (0 : Int), .nilslc], .lit false], []) | .inr y => (match y with | .inl y => (.tup [.agg [.int .i64 y.1, .int .i64 y.2.1, .own 0 0 ((y.2.2.2.2.2.1).length)], .agg [.int .i64 y.2.2.1, .int .i64 y.2.2.2.1, .own 1 0 ((y.2.2.2.2.2.2).length)], .bool y.2.2.2.2.1], [.row (.f32 y.2.2.2.2.2.1) 0, .row (.f32 y.2.2.2.2.2.2) 0]) | .inr y => (.tup [.agg [.int .i64 y.1, .int .i64 y.2.1, .own 0 0 ((y.2.2.2.2.1).length)], .agg [.int .i64 y.2.2.1, .int .i64 y.2.2.2.1, .own 1 0 ((y.2.2.2.2.2).length)], .lit false], [.row (.f32 y.2.2.2.2.1) 0, .row (.f32 y.2.2.2.2.2) 0])))
theorem spec_l03Mirror_den (v53 : Int) (v54 : Int) (v55 : List Nat) : (den TT (tabD spec_l03Mirror_tab) (tabM spec_l03Mirror_tab) (spec_l03Mirror_LO v53 v54 v55) (codeOf Try.f115) ([.bptr (BR.root 0) [.int .i64 v53, .int .i64 v54, .bslc (BR.root 1) (.f32 v55)]] ++ List.replicate (Try.f115.ntmps - ([.bptr (BR.root 0) [.int .i64 v53, .int .i64 v54, .bslc (BR.root 1) (.f32 v55)]] : List DV).length) .undef) []).bind (retD TT Try.f115.results.toList 0) = (spec_l03Mirror_T v53 v54 v55).bind fun y => .leaf (spec_l03Mirror_enc v53 v54 v55 y) := by kernel_rfl
theorem spec_l03Mirror_fn (v53 : Int) (v54 : Int) (v55 : List Nat) (F : Fr) (hm : F.ids.length = 0) (h0 : St F [] F.H0) (hA : DVs.Ok F [] [.bptr (BR.root 0) [.int .i64 v53, .int .i64 v54, .bslc (BR.root 1) (.f32 v55)]]) {y : (Unit) ⊕ ((Int × Int × Int × Int × Bool × (List Nat) × (List Nat)) ⊕ (Int × Int × Int × Int × (List Nat) × (List Nat)))} (hy : spec_l03Mirror_g v53 v54 v55 = some y) : ∃ H', FnOk Try.prog 115 (DVs.av F [.bptr (BR.root 0) [.int .i64 v53, .int .i64 v54, .bslc (BR.root 1) (.f32 v55)]]) F.H0 ((spec_l03Mirror_enc v53 v54 v55 y).1.av F) H' ∧ St F (spec_l03Mirror_enc v53 v54 v55 y).2 H' ∧ (spec_l03Mirror_enc v53 v54 v55 y).1.Ok F (spec_l03Mirror_enc v53 v54 v55 y).2 :=
  fn_fin tok spec_l03Mirror_hO mixed Try.func115 Try.call115 (by kernel_rfl) (LoopsOk_eq (l := [(0, bodyOf Try.f115 0)]) (by kernel_rfl) ⟨spec_l03Mirror_l0_ok v53 v54 v55, trivial⟩) (spec_l03Mirror_den v53 v54 v55) hy hm h0 hA
noncomputable def spec_l03Mirror_F : DFn := fun args L =>
  match args with
  | [a1] =>
    optT (cellsOf L 3 a1) fun cs0 =>
    (match cs0 with
    | [.int .i64 v53, .int .i64 v54, a2] =>
    optT (rowF32 L a2) fun v55 =>
    .call (spec_l03Mirror_g v53 v54 v55) fun y => .sum y (fun y0 => .leaf (.tup [.agg [.int .i64 (0 : Int), .int .i64 (0 : Int), .nilslc], .agg [.int .i64 (0 : Int), .int .i64 (0 : Int), .nilslc], .lit false], L)) (fun z0 => .sum z0 (fun y1 => .leaf (.tup [.agg [.int .i64 y1.1, .int .i64 y1.2.1, .own (L.length + 0) 0 ((y1.2.2.2.2.2.1).length)], .agg [.int .i64 y1.2.2.1, .int .i64 y1.2.2.2.1, .own (L.length + 1) 0 ((y1.2.2.2.2.2.2).length)], .bool y1.2.2.2.2.1], L ++ [.row (.f32 y1.2.2.2.2.2.1) 0, .row (.f32 y1.2.2.2.2.2.2) 0])) (fun z1 => .leaf (.tup [.agg [.int .i64 z1.1, .int .i64 z1.2.1, .own (L.length + 0) 0 ((z1.2.2.2.2.1).length)], .agg [.int .i64 z1.2.2.1, .int .i64 z1.2.2.2.1, .own (L.length + 1) 0 ((z1.2.2.2.2.2).length)], .lit false], L ++ [.row (.f32 z1.2.2.2.2.1) 0, .row (.f32 z1.2.2.2.2.2) 0])))
    | _ => .fail)
  | _ => .fail
theorem spec_l03Mirror_Fok : COk Try.prog 115 spec_l03Mirror_F true := by
  intro F L H args r L' hs ha hr
  unfold spec_l03Mirror_F at hr
  split at hr
  · rename_i a1
    obtain ⟨cs0, hcp0, hr⟩ := optT_run hr
    split at hr
    · rename_i v53 v54 a2
      obtain ⟨v55, hv55, hr⟩ := optT_run hr
      simp only [Tree.run] at hr
      obtain ⟨y, hy, hr⟩ := Option.bind_eq_some_iff.1 hr
      cases y with
      | inl y =>
        simp only [Tree.run, Option.some.injEq, Prod.mk.injEq] at hr
        obtain ⟨rfl, rfl⟩ := hr
        exact call_ok0 hs (fun k => (([a1.av F, a2.av F] : List AV)[k]?).getD .top) [a1] [.bptr (BR.root 0) [.int .i64 v53, .int .i64 v54, .bslc (BR.root 1) (.f32 v55)]] (fun F' h0 hi hρ => ⟨by simp [DVs.av, DV.av, BR.av, hρ], spec_l03Mirror_fn v53 v54 v55 F' (by rw [hi]; rfl) (st_nil hi) ⟨bptr_ok hi (by rw [h0]; simpa [DVs.av, DV.av, BR.av, hρ] using (cellsOf_ok hs (DVs.okAt ha 0 rfl) hcp0).1) ⟨trivial, trivial, bslc_ok hi (by rw [h0, hρ]; exact rowF32_ok hs (DVs.okAt (cellsOf_ok hs (DVs.okAt ha 0 rfl) hcp0).2 2 rfl) hv55), trivial⟩, trivial⟩ hy⟩) rfl
      | inr y =>
        cases y with
        | inl y =>
          simp only [Tree.run, Option.some.injEq, Prod.mk.injEq] at hr
          obtain ⟨rfl, rfl⟩ := hr
          exact call_ok1 hs (fun k => (([a1.av F, a2.av F] : List AV)[k]?).getD .top) [a1] [.bptr (BR.root 0) [.int .i64 v53, .int .i64 v54, .bslc (BR.root 1) (.f32 v55)]] (fun F' h0 hi hρ => ⟨by simp [DVs.av, DV.av, BR.av, hρ], spec_l03Mirror_fn v53 v54 v55 F' (by rw [hi]; rfl) (st_nil hi) ⟨bptr_ok hi (by rw [h0]; simpa [DVs.av, DV.av, BR.av, hρ] using (cellsOf_ok hs (DVs.okAt ha 0 rfl) hcp0).1) ⟨trivial, trivial, bslc_ok hi (by rw [h0, hρ]; exact rowF32_ok hs (DVs.okAt (cellsOf_ok hs (DVs.okAt ha 0 rfl) hcp0).2 2 rfl) hv55), trivial⟩, trivial⟩ hy⟩) rfl rfl
        | inr y =>
          simp only [Tree.run, Option.some.injEq, Prod.mk.injEq] at hr
          obtain ⟨rfl, rfl⟩ := hr
          exact call_ok1 hs (fun k => (([a1.av F, a2.av F] : List AV)[k]?).getD .top) [a1] [.bptr (BR.root 0) [.int .i64 v53, .int .i64 v54, .bslc (BR.root 1) (.f32 v55)]] (fun F' h0 hi hρ => ⟨by simp [DVs.av, DV.av, BR.av, hρ], spec_l03Mirror_fn v53 v54 v55 F' (by rw [hi]; rfl) (st_nil hi) ⟨bptr_ok hi (by rw [h0]; simpa [DVs.av, DV.av, BR.av, hρ] using (cellsOf_ok hs (DVs.okAt ha 0 rfl) hcp0).1) ⟨trivial, trivial, bslc_ok hi (by rw [h0, hρ]; exact rowF32_ok hs (DVs.okAt (cellsOf_ok hs (DVs.okAt ha 0 rfl) hcp0).2 2 rfl) hv55), trivial⟩, trivial⟩ hy⟩) rfl rfl
    · cases hr
  · cases hr
/-! spec.l02List -/
noncomputable def spec_l02List_LO (v1889 : List Nat) : LOr := fun id e L =>
  match id with
  | _ => .fail
noncomputable def spec_l02List_tab : List (FuncId × DFn × Bool) := [(135, spec_l02Finite_F, true)]
theorem spec_l02List_hO : OrcOk Try.prog (tabD spec_l02List_tab) (tabM spec_l02List_tab) := tabD_cons spec_l02Finite_Fok (tabD_nil _)
noncomputable def spec_l02List_T (v1889 : List Nat) : Tree ((Unit) ⊕ (Unit)) :=
  (.call (spec_l02Finite_g v1889) fun v1890 =>
  (.br (!v1890) (
   .leaf (.inl ())
  ) (
   .leaf (.inr ())
  )))

noncomputable def spec_l02List_g (v1889 : List Nat) : Option ((Unit) ⊕ (Unit)) := (spec_l02List_T v1889).run
def spec_l02List_enc (v1889 : List Nat) (y : (Unit) ⊕ (Unit)) : Rs := (match y with | .inl y => (.tup [.nilslc, .lit false], []) | .inr y => (.tup [.bslc (BR.root 0) (.f32 v1889), .lit true], []))
theorem spec_l02List_den (v1889 : List Nat) : (den TT (tabD spec_l02List_tab) (tabM spec_l02List_tab) (spec_l02List_LO v1889) (codeOf Try.f90) ([.bslc (BR.root 0) (.f32 v1889)] ++ List.replicate (Try.f90.ntmps - ([.bslc (BR.root 0) (.f32 v1889)] : List DV).length) .undef) []).bind (retD TT Try.f90.results.toList 0) = (spec_l02List_T v1889).bind fun y => .leaf (spec_l02List_enc v1889 y) := by kernel_rfl
theorem spec_l02List_fn (v1889 : List Nat) (F : Fr) (hm : F.ids.length = 0) (h0 : St F [] F.H0) (hA : DVs.Ok F [] [.bslc (BR.root 0) (.f32 v1889)]) {y : (Unit) ⊕ (Unit)} (hy : spec_l02List_g v1889 = some y) : ∃ H', FnOk Try.prog 90 (DVs.av F [.bslc (BR.root 0) (.f32 v1889)]) F.H0 ((spec_l02List_enc v1889 y).1.av F) H' ∧ St F (spec_l02List_enc v1889 y).2 H' ∧ (spec_l02List_enc v1889 y).1.Ok F (spec_l02List_enc v1889 y).2 :=
  fn_fin tok spec_l02List_hO mixed Try.func90 Try.call90 (by kernel_rfl) (LoopsOk_eq (l := []) (by kernel_rfl) trivial) (spec_l02List_den v1889) hy hm h0 hA
noncomputable def spec_l02List_F : DFn := fun args L =>
  match args with
  | [a1] =>
    optT (rowF32 L a1) fun v1889 =>
    .call (spec_l02List_g v1889) fun y => .sum y (fun y0 => .leaf (.tup [.nilslc, .lit false], L)) (fun z0 => .leaf (.tup [a1, .lit true], L))
  | _ => .fail
theorem spec_l02List_Fok : COk Try.prog 90 spec_l02List_F true := by
  intro F L H args r L' hs ha hr
  unfold spec_l02List_F at hr
  split at hr
  · rename_i a1
    obtain ⟨v1889, hv1889, hr⟩ := optT_run hr
    simp only [Tree.run] at hr
    obtain ⟨y, hy, hr⟩ := Option.bind_eq_some_iff.1 hr
    cases y with
    | inl y =>
      simp only [Tree.run, Option.some.injEq, Prod.mk.injEq] at hr
      obtain ⟨rfl, rfl⟩ := hr
      exact call_ok0 hs (fun k => (([a1.av F] : List AV)[k]?).getD .top) [a1] [.bslc (BR.root 0) (.f32 v1889)] (fun F' h0 hi hρ => ⟨by simp [DVs.av, DV.av, BR.av, hρ], spec_l02List_fn v1889 F' (by rw [hi]; rfl) (st_nil hi) ⟨bslc_ok hi (by rw [h0, hρ]; exact rowF32_ok hs (DVs.okAt ha 0 rfl) hv1889), trivial⟩ hy⟩) rfl
    | inr y =>
      simp only [Tree.run, Option.some.injEq, Prod.mk.injEq] at hr
      obtain ⟨rfl, rfl⟩ := hr
      exact call_al0 hs (fun k => (([a1.av F] : List AV)[k]?).getD .top) [a1] [.bslc (BR.root 0) (.f32 v1889)] (fun F' h0 hi hρ => ⟨by simp [DVs.av, DV.av, BR.av, hρ], spec_l02List_fn v1889 F' (by rw [hi]; rfl) (st_nil hi) ⟨bslc_ok hi (by rw [h0, hρ]; exact rowF32_ok hs (DVs.okAt ha 0 rfl) hv1889), trivial⟩ hy⟩) (fun F' h0 hi hρ => by simp [spec_l02List_enc, DVs.av, DV.av, BR.av, hρ]) ⟨(DVs.okAt ha 0 rfl), trivial, trivial⟩
  · cases hr
/-! spec.l03UpperSolve -/
noncomputable def spec_l03UpperSolve_l2_T (v1826 : Int) (v1827 : Int) (v1828 : List Nat) (v1879 : Int) (v1882 : List Nat) (s : Nat × Int) : Tree ((Nat × Int) ⊕ (Nat)) :=
  (.br (decide (s.2 < v1826)) (
   (.call (spec_l02At_g v1827 v1828 v1879 s.2) fun v1883 =>
   (.grd (inb s.2 ((v1882).length)) <|
   .leaf (.inl (fsub .f32 s.1 (fmul .f32 v1883 (nth v1882 (Int.toNat s.2))), IntKind.i64.wrap (s.2 + (1 : Int))))))
  ) (
   .leaf (.inr s.1)
  ))

noncomputable def spec_l03UpperSolve_l2_g (v1826 : Int) (v1827 : Int) (v1828 : List Nat) (v1879 : Int) (v1882 : List Nat) (s0 : Nat × Int) : Option (Nat) := whileM (fun s => (spec_l03UpperSolve_l2_T v1826 v1827 v1828 v1879 v1882 s).run) s0
def spec_l03UpperSolve_l2_E (v1826 : Int) (v1827 : Int) (v1828 : List Nat) (v1829 : List Nat) (v1879 : Int) (v1882 : List Nat) (s : Nat × Int) : Sd := ([.bptr (BR.root 0) [.int .i64 v1826, .int .i64 v1827, .bslc (BR.root 1) (.f32 v1828)], .bslc (BR.root 2) (.f32 v1829), .top, .top, .top, .top, .int .i64 v1826, .own 0 0 ((v1882).length), .int .i64 v1879, .flt .f32 s.1, .int .i64 s.2, .top, .top, .top, .top, .top, .top, .top, .top, .top, .top, .top, .top, .top, .top, .top, .top, .top, .top, .top, .top, .top, .top, .top, .top, .top, .top, .top, .top, .top, .top, .top, .top, .top, .top, .top, .top, .top, .top, .top, .top, .top, .top, .top, .top, .top, .top, .top, .top, .top, .top, .top, .top, .top], [.row (.f32 v1882) 0])
def spec_l03UpperSolve_l2_X (v1826 : Int) (v1827 : Int) (v1828 : List Nat) (v1829 : List Nat) (v1879 : Int) (v1882 : List Nat) (x : Nat) : Out := (.normal, [.bptr (BR.root 0) [.int .i64 v1826, .int .i64 v1827, .bslc (BR.root 1) (.f32 v1828)], .bslc (BR.root 2) (.f32 v1829), .top, .top, .top, .top, .int .i64 v1826, .own 0 0 ((v1882).length), .int .i64 v1879, .flt .f32 x, .top, .top, .top, .top, .top, .top, .top, .top, .top, .top, .top, .top, .top, .top, .top, .top, .top, .top, .top, .top, .top, .top, .top, .top, .top, .top, .top, .top, .top, .top, .top, .top, .top, .top, .top, .top, .top, .top, .top, .top, .top, .top, .top, .top, .top, .top, .top, .top, .top, .top, .top, .top, .top, .top], [.row (.f32 v1882) 0])
def spec_l03UpperSolve_l2_kill : List Nat := [0, 0, 1, 1, 1, 1, 0, 0, 0, 0, 0, 1, 1, 1, 1, 1, 1, 1, 1, 1, 1, 1, 1, 1, 1, 1, 1, 1, 1, 1, 1, 1, 1, 1, 1, 1, 1, 1, 1, 1, 1, 1, 1, 1, 1, 1, 1, 1, 1, 1, 1, 1, 1, 1, 1, 1, 1, 1, 1, 1, 1, 1, 1, 1]
def spec_l03UpperSolve_l2_nx : Exit → List Nat
  | .exit 0 => [1, 1, 1, 1, 1, 1, 1, 0, 1, 1, 1, 1, 1, 1, 1, 1, 1, 1, 1, 1, 1, 1, 1, 1, 1, 1, 1, 1, 1, 1, 1, 1, 1, 1, 1, 1, 1, 1, 1, 1, 1, 1, 1, 1, 1, 1, 1, 1, 1, 1, 1, 1, 1, 1, 1, 1, 1, 1, 1, 1, 1, 1, 1, 1]
  | .exit 1 => [0, 0, 1, 1, 1, 1, 0, 0, 0, 1, 1, 1, 1, 1, 1, 1, 1, 1, 1, 1, 1, 1, 1, 1, 1, 1, 1, 1, 1, 1, 1, 1, 1, 1, 1, 1, 1, 1, 1, 1, 1, 1, 1, 1, 1, 1, 1, 1, 1, 1, 1, 1, 1, 1, 1, 1, 1, 1, 1, 1, 1, 1, 1, 1]
  | .exit 2 => [0, 0, 1, 1, 1, 1, 0, 0, 0, 0, 1, 1, 1, 1, 1, 1, 1, 1, 1, 1, 1, 1, 1, 1, 1, 1, 1, 1, 1, 1, 1, 1, 1, 1, 1, 1, 1, 1, 1, 1, 1, 1, 1, 1, 1, 1, 1, 1, 1, 1, 1, 1, 1, 1, 1, 1, 1, 1, 1, 1, 1, 1, 1, 1]
  | .ret => [1, 1, 1, 1, 0, 0, 1, 1, 1, 1, 1, 1, 1, 1, 1, 1, 1, 1, 1, 1, 1, 1, 1, 1, 1, 1, 1, 1, 1, 1, 1, 1, 1, 1, 1, 1, 1, 1, 1, 1, 1, 1, 1, 1, 1, 1, 1, 1, 1, 1, 1, 1, 1, 1, 1, 1, 1, 1, 1, 1, 1, 1, 1, 1]
  | _ => []
noncomputable def spec_l03UpperSolve_l0_T (v1826 : Int) (v1827 : Int) (v1828 : List Nat) (v1829 : List Nat) (s : Int × (List Nat)) : Tree ((Int × (List Nat)) ⊕ ((Unit) ⊕ ((List Nat)))) :=
  (.br (decide ((0 : Int) ≤ s.1)) (
   (.call (spec_l02At_g v1827 v1828 s.1 s.1) fun v1868 =>
   (.br (feq .f32 v1868 (0 : Nat)) (
    .leaf (.inr (.inl ()))
   ) (
    (.grd (inb s.1 v1829.length) <|
    (.need (some (spec_l03UpperSolve_l2_E v1826 v1827 v1828 v1829 s.1 s.2 (nth v1829 (Int.toNat s.1), IntKind.i64.wrap (s.1 + (1 : Int)))) = some (spec_l03UpperSolve_l2_E v1826 v1827 v1828 v1829 s.1 s.2 (nth v1829 (Int.toNat s.1), IntKind.i64.wrap (s.1 + (1 : Int))))) <|
    (.call (spec_l03UpperSolve_l2_g v1826 v1827 v1828 s.1 s.2 (nth v1829 (Int.toNat s.1), IntKind.i64.wrap (s.1 + (1 : Int)))) fun v1884 =>
    (.call (spec_l02At_g v1827 v1828 s.1 s.1) fun v1885 =>
    (.grd (inb s.1 ((s.2).length)) <|
    .leaf (.inl (IntKind.i64.wrap (s.1 - (1 : Int)), List.set s.2 (Int.toNat s.1) (fdiv .f32 v1884 v1885))))))))
   )))
  ) (
   .leaf (.inr (.inr s.2))
  ))

noncomputable def spec_l03UpperSolve_l0_g (v1826 : Int) (v1827 : Int) (v1828 : List Nat) (v1829 : List Nat) (s0 : Int × (List Nat)) : Option ((Unit) ⊕ ((List Nat))) := whileM (fun s => (spec_l03UpperSolve_l0_T v1826 v1827 v1828 v1829 s).run) s0
def spec_l03UpperSolve_l0_E (v1826 : Int) (v1827 : Int) (v1828 : List Nat) (v1829 : List Nat) (s : Int × (List Nat)) : Sd := ([.bptr (BR.root 0) [.int .i64 v1826, .int .i64 v1827, .bslc (BR.root 1) (.f32 v1828)], .bslc (BR.root 2) (.f32 v1829), .top, .top, .top, .top, .int .i64 v1826, .own 0 0 ((s.2).length), .int .i64 s.1, .top, .top, .top, .top, .top, .top, .top, .top, .top, .top, .top, .top, .top, .top, .top, .top, .top, .top, .top, .top, .top, .top, .top, .top, .top, .top, .top, .top, .top, .top, .top, .top, .top, .top, .top, .top, .top, .top, .top, .top, .top, .top, .top, .top, .top, .top, .top, .top, .top, .top, .top, .top, .top, .top, .top], [.row (.f32 s.2) 0])
def spec_l03UpperSolve_l0_X (v1826 : Int) (v1827 : Int) (v1828 : List Nat) (v1829 : List Nat) (x : (Unit) ⊕ ((List Nat))) : Out := (match x with | .inl x => (.ret, [.top, .top, .top, .top, .nilslc, .lit false, .top, .top, .top, .top, .top, .top, .top, .top, .top, .top, .top, .top, .top, .top, .top, .top, .top, .top, .top, .top, .top, .top, .top, .top, .top, .top, .top, .top, .top, .top, .top, .top, .top, .top, .top, .top, .top, .top, .top, .top, .top, .top, .top, .top, .top, .top, .top, .top, .top, .top, .top, .top, .top, .top, .top, .top, .top, .top], []) | .inr x => (.normal, [.top, .top, .top, .top, .top, .top, .top, .own 0 0 ((x).length), .top, .top, .top, .top, .top, .top, .top, .top, .top, .top, .top, .top, .top, .top, .top, .top, .top, .top, .top, .top, .top, .top, .top, .top, .top, .top, .top, .top, .top, .top, .top, .top, .top, .top, .top, .top, .top, .top, .top, .top, .top, .top, .top, .top, .top, .top, .top, .top, .top, .top, .top, .top, .top, .top, .top, .top], [.row (.f32 x) 0]))
def spec_l03UpperSolve_l0_kill : List Nat := [0, 0, 1, 1, 1, 1, 0, 0, 0, 1, 1, 1, 1, 1, 1, 1, 1, 1, 1, 1, 1, 1, 1, 1, 1, 1, 1, 1, 1, 1, 1, 1, 1, 1, 1, 1, 1, 1, 1, 1, 1, 1, 1, 1, 1, 1, 1, 1, 1, 1, 1, 1, 1, 1, 1, 1, 1, 1, 1, 1, 1, 1, 1, 1]
def spec_l03UpperSolve_l0_nx : Exit → List Nat
  | .exit 0 => [1, 1, 1, 1, 1, 1, 1, 0, 1, 1, 1, 1, 1, 1, 1, 1, 1, 1, 1, 1, 1, 1, 1, 1, 1, 1, 1, 1, 1, 1, 1, 1, 1, 1, 1, 1, 1, 1, 1, 1, 1, 1, 1, 1, 1, 1, 1, 1, 1, 1, 1, 1, 1, 1, 1, 1, 1, 1, 1, 1, 1, 1, 1, 1]
  | .ret => [1, 1, 1, 1, 0, 0, 1, 1, 1, 1, 1, 1, 1, 1, 1, 1, 1, 1, 1, 1, 1, 1, 1, 1, 1, 1, 1, 1, 1, 1, 1, 1, 1, 1, 1, 1, 1, 1, 1, 1, 1, 1, 1, 1, 1, 1, 1, 1, 1, 1, 1, 1, 1, 1, 1, 1, 1, 1, 1, 1, 1, 1, 1, 1]
  | _ => []
noncomputable def spec_l03UpperSolve_LO (v1826 : Int) (v1827 : Int) (v1828 : List Nat) (v1829 : List Nat) : LOr := fun id e L =>
  match id with
  | 2 => .need (normA 0 spec_l03UpperSolve_l2_kill e L = some (spec_l03UpperSolve_l2_E v1826 v1827 v1828 v1829 (gI (vAt e 8)) (gRF L (vAt e 7)) ((gF (vAt e 9)), (gI (vAt e 10))))) (.call (spec_l03UpperSolve_l2_g v1826 v1827 v1828 (gI (vAt e 8)) (gRF L (vAt e 7)) ((gF (vAt e 9)), (gI (vAt e 10)))) fun x => .leaf (spec_l03UpperSolve_l2_X v1826 v1827 v1828 v1829 (gI (vAt e 8)) (gRF L (vAt e 7)) x))
  | 0 => .need (normA 0 spec_l03UpperSolve_l0_kill e L = some (spec_l03UpperSolve_l0_E v1826 v1827 v1828 v1829 ((gI (vAt e 8)), (gRF L (vAt e 7))))) (.call (spec_l03UpperSolve_l0_g v1826 v1827 v1828 v1829 ((gI (vAt e 8)), (gRF L (vAt e 7)))) fun x => .sum x (fun b0 => .leaf (spec_l03UpperSolve_l0_X v1826 v1827 v1828 v1829 (.inl b0))) (fun c0 => .leaf (spec_l03UpperSolve_l0_X v1826 v1827 v1828 v1829 (.inr c0))))
  | _ => .fail
noncomputable def spec_l03UpperSolve_tab : List (FuncId × DFn × Bool) := [(59, spec_l02At_F, true), (90, spec_l02List_F, true)]
theorem spec_l03UpperSolve_hO : OrcOk Try.prog (tabD spec_l03UpperSolve_tab) (tabM spec_l03UpperSolve_tab) := tabD_cons spec_l02At_Fok (tabD_cons spec_l02List_Fok (tabD_nil _))
theorem spec_l03UpperSolve_l2_be (v1826 : Int) (v1827 : Int) (v1828 : List Nat) (v1829 : List Nat) (v1879 : Int) (v1882 : List Nat) (s : Nat × Int) : bodyT TT (tabD spec_l03UpperSolve_tab) (tabM spec_l03UpperSolve_tab) (spec_l03UpperSolve_LO v1826 v1827 v1828 v1829) 0 spec_l03UpperSolve_l2_kill spec_l03UpperSolve_l2_nx (bodyOf Try.f165 2) 2 (spec_l03UpperSolve_l2_E v1826 v1827 v1828 v1829 v1879 v1882 s) = (spec_l03UpperSolve_l2_T v1826 v1827 v1828 v1879 v1882 s).bind fun y => .leaf (outS (spec_l03UpperSolve_l2_E v1826 v1827 v1828 v1829 v1879 v1882) (spec_l03UpperSolve_l2_X v1826 v1827 v1828 v1829 v1879 v1882) y) := by kernel_rfl
theorem spec_l03UpperSolve_l2_ok (v1826 : Int) (v1827 : Int) (v1828 : List Nat) (v1829 : List Nat) : LSound Try.prog 0 (spec_l03UpperSolve_LO v1826 v1827 v1828 v1829) 2 (bodyOf Try.f165 2) := by
  intro e L out h
  exact lo_ok (E := spec_l03UpperSolve_l2_E v1826 v1827 v1828 v1829 (gI (vAt e 8)) (gRF L (vAt e 7))) (gT := spec_l03UpperSolve_l2_T v1826 v1827 v1828 (gI (vAt e 8)) (gRF L (vAt e 7))) (X := spec_l03UpperSolve_l2_X v1826 v1827 v1828 v1829 (gI (vAt e 8)) (gRF L (vAt e 7))) (s0 := ((gF (vAt e 9)), (gI (vAt e 10)))) tok spec_l03UpperSolve_hO mixed (LoopsOk_eq (l := []) (by kernel_rfl) trivial) (spec_l03UpperSolve_l2_be v1826 v1827 v1828 v1829 (gI (vAt e 8)) (gRF L (vAt e 7))) rfl (by intro x; rfl) h
theorem spec_l03UpperSolve_l0_be (v1826 : Int) (v1827 : Int) (v1828 : List Nat) (v1829 : List Nat) (s : Int × (List Nat)) : bodyT TT (tabD spec_l03UpperSolve_tab) (tabM spec_l03UpperSolve_tab) (spec_l03UpperSolve_LO v1826 v1827 v1828 v1829) 0 spec_l03UpperSolve_l0_kill spec_l03UpperSolve_l0_nx (bodyOf Try.f165 0) 0 (spec_l03UpperSolve_l0_E v1826 v1827 v1828 v1829 s) = (spec_l03UpperSolve_l0_T v1826 v1827 v1828 v1829 s).bind fun y => .leaf (outS (spec_l03UpperSolve_l0_E v1826 v1827 v1828 v1829) (spec_l03UpperSolve_l0_X v1826 v1827 v1828 v1829) y) := by kernel_rfl
theorem spec_l03UpperSolve_l0_ok (v1826 : Int) (v1827 : Int) (v1828 : List Nat) (v1829 : List Nat) : LSound Try.prog 0 (spec_l03UpperSolve_LO v1826 v1827 v1828 v1829) 0 (bodyOf Try.f165 0) := by
  intro e L out h
  exact lo_ok (E := spec_l03UpperSolve_l0_E v1826 v1827 v1828 v1829) (gT := spec_l03UpperSolve_l0_T v1826 v1827 v1828 v1829) (X := spec_l03UpperSolve_l0_X v1826 v1827 v1828 v1829) (s0 := ((gI (vAt e 8)), (gRF L (vAt e 7)))) tok spec_l03UpperSolve_hO mixed (LoopsOk_eq (l := [(2, bodyOf Try.f165 2)]) (by kernel_rfl) ⟨spec_l03UpperSolve_l2_ok v1826 v1827 v1828 v1829, trivial⟩) (spec_l03UpperSolve_l0_be v1826 v1827 v1828 v1829) rfl (by intro x; (cases x with | inl b => rfl | inr x => exact rfl)) h
noncomputable def spec_l03UpperSolve_T (v1826 : Int) (v1827 : Int) (v1828 : List Nat) (v1829 : List Nat) : Tree ((Unit) ⊕ ((List Nat))) :=
  (.grd (fits (([] : List Nat) ++ v1829).length) <|
  (.need (some (spec_l03UpperSolve_l0_E v1826 v1827 v1828 v1829 (IntKind.i64.wrap (v1826 - (1 : Int)), ([] : List Nat) ++ v1829)) = some (spec_l03UpperSolve_l0_E v1826 v1827 v1828 v1829 (IntKind.i64.wrap (v1826 - (1 : Int)), ([] : List Nat) ++ v1829))) <|
  (.call (spec_l03UpperSolve_l0_g v1826 v1827 v1828 v1829 (IntKind.i64.wrap (v1826 - (1 : Int)), ([] : List Nat) ++ v1829)) fun v1886 =>
  (.sum v1886 (fun v1887 =>
   .leaf (.inl ())
  ) (fun v1888 =>
   (.call (spec_l02List_g v1888) fun v1891 =>
   (.sum v1891 (fun v1892 =>
    .leaf (.inl ())
   ) (fun v1893 =>
    .leaf (.inr v1888)
   )))
  )))))

noncomputable def spec_l03UpperSolve_g (v1826 : Int) (v1827 : Int) (v1828 : List Nat) (v1829 : List Nat) : Option ((Unit) ⊕ ((List Nat))) := (spec_l03UpperSolve_T v1826 v1827 v1828 v1829).run
def spec_l03UpperSolve_enc (v1826 : Int) (v1827 : Int) (v1828 : List Nat) (v1829 : List Nat) (y : (Unit) ⊕ ((List Nat))) : Rs := (match y with | .inl y => (.tup [.nilslc, .lit false], []) | .inr y => (.tup [.own 0 0 ((y).length), .lit true], [.row (.f32 y) 0]))
theorem spec_l03UpperSolve_den (v1826 : Int) (v1827 : Int) (v1828 : List Nat) (v1829 : List Nat) : (den TT (tabD spec_l03UpperSolve_tab) (tabM spec_l03UpperSolve_tab) (spec_l03UpperSolve_LO v1826 v1827 v1828 v1829) (codeOf Try.f165) ([.bptr (BR.root 0) [.int .i64 v1826, .int .i64 v1827, .bslc (BR.root 1) (.f32 v1828)], .bslc (BR.root 2) (.f32 v1829)] ++ List.replicate (Try.f165.ntmps - ([.bptr (BR.root 0) [.int .i64 v1826, .int .i64 v1827, .bslc (BR.root 1) (.f32 v1828)], .bslc (BR.root 2) (.f32 v1829)] : List DV).length) .undef) []).bind (retD TT Try.f165.results.toList 0) = (spec_l03UpperSolve_T v1826 v1827 v1828 v1829).bind fun y => .leaf (spec_l03UpperSolve_enc v1826 v1827 v1828 v1829 y) := by kernel_rfl
theorem spec_l03UpperSolve_fn (v1826 : Int) (v1827 : Int) (v1828 : List Nat) (v1829 : List Nat) (F : Fr) (hm : F.ids.length = 0) (h0 : St F [] F.H0) (hA : DVs.Ok F [] [.bptr (BR.root 0) [.int .i64 v1826, .int .i64 v1827, .bslc (BR.root 1) (.f32 v1828)], .bslc (BR.root 2) (.f32 v1829)]) {y : (Unit) ⊕ ((List Nat))} (hy : spec_l03UpperSolve_g v1826 v1827 v1828 v1829 = some y) : ∃ H', FnOk Try.prog 165 (DVs.av F [.bptr (BR.root 0) [.int .i64 v1826, .int .i64 v1827, .bslc (BR.root 1) (.f32 v1828)], .bslc (BR.root 2) (.f32 v1829)]) F.H0 ((spec_l03UpperSolve_enc v1826 v1827 v1828 v1829 y).1.av F) H' ∧ St F (spec_l03UpperSolve_enc v1826 v1827 v1828 v1829 y).2 H' ∧ (spec_l03UpperSolve_enc v1826 v1827 v1828 v1829 y).1.Ok F (spec_l03UpperSolve_enc v1826 v1827 v1828 v1829 y).2 :=
  fn_fin tok spec_l03UpperSolve_hO mixed Try.func165 Try.call165 (by kernel_rfl) (LoopsOk_eq (l := [(0, bodyOf Try.f165 0)]) (by kernel_rfl) ⟨spec_l03UpperSolve_l0_ok v1826 v1827 v1828 v1829, trivial⟩) (spec_l03UpperSolve_den v1826 v1827 v1828 v1829) hy hm h0 hA
noncomputable def spec_l03UpperSolve_F : DFn := fun args L =>
  match args with
  | [a1, a3] =>
    optT (cellsOf L 3 a1) fun cs0 =>
    (match cs0 with
    | [.int .i64 v1826, .int .i64 v1827, a2] =>
    optT (rowF32 L a2) fun v1828 =>
    optT (rowF32 L a3) fun v1829 =>
    .call (spec_l03UpperSolve_g v1826 v1827 v1828 v1829) fun y => .sum y (fun y0 => .leaf (.tup [.nilslc, .lit false], L)) (fun z0 => .leaf (.tup [.own (L.length + 0) 0 ((z0).length), .lit true], L ++ [.row (.f32 z0) 0]))
    | _ => .fail)
  | _ => .fail
theorem spec_l03UpperSolve_Fok : COk Try.prog 165 spec_l03UpperSolve_F true := by
  intro F L H args r L' hs ha hr
  unfold spec_l03UpperSolve_F at hr
  split at hr
  · rename_i a1 a3
    obtain ⟨cs0, hcp0, hr⟩ := optT_run hr
    split at hr
    · rename_i v1826 v1827 a2
      obtain ⟨v1828, hv1828, hr⟩ := optT_run hr
      obtain ⟨v1829, hv1829, hr⟩ := optT_run hr
      simp only [Tree.run] at hr
      obtain ⟨y, hy, hr⟩ := Option.bind_eq_some_iff.1 hr
      cases y with
      | inl y =>
        simp only [Tree.run, Option.some.injEq, Prod.mk.injEq] at hr
        obtain ⟨rfl, rfl⟩ := hr
        exact call_ok0 hs (fun k => (([a1.av F, a2.av F, a3.av F] : List AV)[k]?).getD .top) [a1, a3] [.bptr (BR.root 0) [.int .i64 v1826, .int .i64 v1827, .bslc (BR.root 1) (.f32 v1828)], .bslc (BR.root 2) (.f32 v1829)] (fun F' h0 hi hρ => ⟨by simp [DVs.av, DV.av, BR.av, hρ], spec_l03UpperSolve_fn v1826 v1827 v1828 v1829 F' (by rw [hi]; rfl) (st_nil hi) ⟨bptr_ok hi (by rw [h0]; simpa [DVs.av, DV.av, BR.av, hρ] using (cellsOf_ok hs (DVs.okAt ha 0 rfl) hcp0).1) ⟨trivial, trivial, bslc_ok hi (by rw [h0, hρ]; exact rowF32_ok hs (DVs.okAt (cellsOf_ok hs (DVs.okAt ha 0 rfl) hcp0).2 2 rfl) hv1828), trivial⟩, bslc_ok hi (by rw [h0, hρ]; exact rowF32_ok hs (DVs.okAt ha 1 rfl) hv1829), trivial⟩ hy⟩) rfl
      | inr y =>
        simp only [Tree.run, Option.some.injEq, Prod.mk.injEq] at hr
        obtain ⟨rfl, rfl⟩ := hr
        exact call_ok1 hs (fun k => (([a1.av F, a2.av F, a3.av F] : List AV)[k]?).getD .top) [a1, a3] [.bptr (BR.root 0) [.int .i64 v1826, .int .i64 v1827, .bslc (BR.root 1) (.f32 v1828)], .bslc (BR.root 2) (.f32 v1829)] (fun F' h0 hi hρ => ⟨by simp [DVs.av, DV.av, BR.av, hρ], spec_l03UpperSolve_fn v1826 v1827 v1828 v1829 F' (by rw [hi]; rfl) (st_nil hi) ⟨bptr_ok hi (by rw [h0]; simpa [DVs.av, DV.av, BR.av, hρ] using (cellsOf_ok hs (DVs.okAt ha 0 rfl) hcp0).1) ⟨trivial, trivial, bslc_ok hi (by rw [h0, hρ]; exact rowF32_ok hs (DVs.okAt (cellsOf_ok hs (DVs.okAt ha 0 rfl) hcp0).2 2 rfl) hv1828), trivial⟩, bslc_ok hi (by rw [h0, hρ]; exact rowF32_ok hs (DVs.okAt ha 1 rfl) hv1829), trivial⟩ hy⟩) rfl rfl
    · cases hr
  · cases hr
/-! spec.l03Least -/
noncomputable def spec_l03Least_l0_T (v50 : Int) (v52 : List Nat) (v1815 : Int) (v1816 : Int) (v1817 : Int) (v1818 : Int) (v1820 : List Nat) (v1821 : List Nat) (s : Int × (List Nat)) : Tree ((Int × (List Nat)) ⊕ ((List Nat))) :=
  (.br (decide (s.1 < v50)) (
   (.call (spec_l03Column_g v1815 v1816 v1820 s.1) fun v1822 =>
   (.call (spec_l02Dot_g v1822 v52) fun v1823 =>
   (.grd (fits (s.2 ++ ([v1823] : List Nat)).length) <|
   .leaf (.inl (IntKind.i64.wrap (s.1 + (1 : Int)), s.2 ++ ([v1823] : List Nat))))))
  ) (
   .leaf (.inr s.2)
  ))

noncomputable def spec_l03Least_l0_g (v50 : Int) (v52 : List Nat) (v1815 : Int) (v1816 : Int) (v1817 : Int) (v1818 : Int) (v1820 : List Nat) (v1821 : List Nat) (s0 : Int × (List Nat)) : Option ((List Nat)) := whileM (fun s => (spec_l03Least_l0_T v50 v52 v1815 v1816 v1817 v1818 v1820 v1821 s).run) s0
def spec_l03Least_l0_E (v49 : Int) (v50 : Int) (v51 : List Nat) (v52 : List Nat) (v1815 : Int) (v1816 : Int) (v1817 : Int) (v1818 : Int) (v1820 : List Nat) (v1821 : List Nat) (s : Int × (List Nat)) : Sd := ([.bptr (BR.root 0) [.int .i64 v49, .int .i64 v50, .bslc (BR.root 1) (.f32 v51)], .bslc (BR.root 2) (.f32 v52), .top, .top, .top, .top, .ptr 0 (0 : Nat) 0 (3 : Nat), .ptr 1 (0 : Nat) 0 (3 : Nat), .top, .own 2 0 ((s.2).length), .int .i64 s.1, .top, .top, .top, .top, .top, .top, .top, .top, .top, .top, .top, .top, .top, .top, .top, .top, .top, .top, .top, .top, .top, .top, .top, .top, .top, .top, .top, .top, .top, .top, .top], [.gen [.int .i64 v1815, .int .i64 v1816, .own 3 0 ((v1820).length)] false 0, .gen [.int .i64 v1817, .int .i64 v1818, .own 4 0 ((v1821).length)] false 0, .row (.f32 s.2) 0, .row (.f32 v1820) 0, .row (.f32 v1821) 0])
def spec_l03Least_l0_X (v49 : Int) (v50 : Int) (v51 : List Nat) (v52 : List Nat) (v1815 : Int) (v1816 : Int) (v1817 : Int) (v1818 : Int) (v1820 : List Nat) (v1821 : List Nat) (x : (List Nat)) : Out := (.normal, [.top, .top, .top, .top, .top, .top, .top, .ptr 0 (0 : Nat) 0 (3 : Nat), .top, .own 1 0 ((x).length), .top, .top, .top, .top, .top, .top, .top, .top, .top, .top, .top, .top, .top, .top, .top, .top, .top, .top, .top, .top, .top, .top, .top, .top, .top, .top, .top, .top, .top, .top, .top, .top], [.gen [.int .i64 v1817, .int .i64 v1818, .own 2 0 ((v1821).length)] false 0, .row (.f32 x) 0, .row (.f32 v1821) 0])
def spec_l03Least_l0_kill : List Nat := [0, 0, 1, 1, 1, 1, 0, 0, 1, 0, 0, 1, 1, 1, 1, 1, 1, 1, 1, 1, 1, 1, 1, 1, 1, 1, 1, 1, 1, 1, 1, 1, 1, 1, 1, 1, 1, 1, 1, 1, 1, 1]
def spec_l03Least_l0_nx : Exit → List Nat
  | .exit 0 => [1, 1, 1, 1, 1, 1, 1, 0, 1, 0, 1, 1, 1, 1, 1, 1, 1, 1, 1, 1, 1, 1, 1, 1, 1, 1, 1, 1, 1, 1, 1, 1, 1, 1, 1, 1, 1, 1, 1, 1, 1, 1]
  | .ret => [1, 1, 1, 1, 0, 0, 1, 1, 1, 1, 1, 1, 1, 1, 1, 1, 1, 1, 1, 1, 1, 1, 1, 1, 1, 1, 1, 1, 1, 1, 1, 1, 1, 1, 1, 1, 1, 1, 1, 1, 1, 1]
  | _ => []
noncomputable def spec_l03Least_LO (v49 : Int) (v50 : Int) (v51 : List Nat) (v52 : List Nat) : LOr := fun id e L =>
  match id with
  | 0 => .need (normA 0 spec_l03Least_l0_kill e L = some (spec_l03Least_l0_E v49 v50 v51 v52 (gI (cAt L (vAt e 6) 0)) (gI (cAt L (vAt e 6) 1)) (gI (cAt L (vAt e 7) 0)) (gI (cAt L (vAt e 7) 1)) (gRF L (cAt L (vAt e 6) 2)) (gRF L (cAt L (vAt e 7) 2)) ((gI (vAt e 10)), (gRF L (vAt e 9))))) (.call (spec_l03Least_l0_g v50 v52 (gI (cAt L (vAt e 6) 0)) (gI (cAt L (vAt e 6) 1)) (gI (cAt L (vAt e 7) 0)) (gI (cAt L (vAt e 7) 1)) (gRF L (cAt L (vAt e 6) 2)) (gRF L (cAt L (vAt e 7) 2)) ((gI (vAt e 10)), (gRF L (vAt e 9)))) fun x => .leaf (spec_l03Least_l0_X v49 v50 v51 v52 (gI (cAt L (vAt e 6) 0)) (gI (cAt L (vAt e 6) 1)) (gI (cAt L (vAt e 7) 0)) (gI (cAt L (vAt e 7) 1)) (gRF L (cAt L (vAt e 6) 2)) (gRF L (cAt L (vAt e 7) 2)) x))
  | _ => .fail
noncomputable def spec_l03Least_tab : List (FuncId × DFn × Bool) := [(115, spec_l03Mirror_F, true), (159, spec_l03Column_F, true), (160, spec_l02Dot_F, true), (135, spec_l02Finite_F, true), (165, spec_l03UpperSolve_F, true)]
theorem spec_l03Least_hO : OrcOk Try.prog (tabD spec_l03Least_tab) (tabM spec_l03Least_tab) := tabD_cons spec_l03Mirror_Fok (tabD_cons spec_l03Column_Fok (tabD_cons spec_l02Dot_Fok (tabD_cons spec_l02Finite_Fok (tabD_cons spec_l03UpperSolve_Fok (tabD_nil _)))))
theorem spec_l03Least_l0_be (v49 : Int) (v50 : Int) (v51 : List Nat) (v52 : List Nat) (v1815 : Int) (v1816 : Int) (v1817 : Int) (v1818 : Int) (v1820 : List Nat) (v1821 : List Nat) (s : Int × (List Nat)) : bodyT TT (tabD spec_l03Least_tab) (tabM spec_l03Least_tab) (spec_l03Least_LO v49 v50 v51 v52) 0 spec_l03Least_l0_kill spec_l03Least_l0_nx (bodyOf Try.f130 0) 0 (spec_l03Least_l0_E v49 v50 v51 v52 v1815 v1816 v1817 v1818 v1820 v1821 s) = (spec_l03Least_l0_T v50 v52 v1815 v1816 v1817 v1818 v1820 v1821 s).bind fun y => .leaf (outS (spec_l03Least_l0_E v49 v50 v51 v52 v1815 v1816 v1817 v1818 v1820 v1821) (spec_l03Least_l0_X v49 v50 v51 v52 v1815 v1816 v1817 v1818 v1820 v1821) y) := by kernel_rfl
theorem spec_l03Least_l0_ok (v49 : Int) (v50 : Int) (v51 : List Nat) (v52 : List Nat) : LSound Try.prog 0 (spec_l03Least_LO v49 v50 v51 v52) 0 (bodyOf Try.f130 0) := by
  intro e L out h
  exact lo_ok (E := spec_l03Least_l0_E v49 v50 v51 v52 (gI (cAt L (vAt e 6) 0)) (gI (cAt L (vAt e 6) 1)) (gI (cAt L (vAt e 7) 0)) (gI (cAt L (vAt e 7) 1)) (gRF L (cAt L (vAt e 6) 2)) (gRF L (cAt L (vAt e 7) 2))) (gT := spec_l03Least_l0_T v50 v52 (gI (cAt L (vAt e 6) 0)) (gI (cAt L (vAt e 6) 1)) (gI (cAt L (vAt e 7) 0)) (gI (cAt L (vAt e 7) 1)) (gRF L (cAt L (vAt e 6) 2)) (gRF L (cAt L (vAt e 7) 2))) (X := spec_l03Least_l0_X v49 v50 v51 v52 (gI (cAt L (vAt e 6) 0)) (gI (cAt L (vAt e 6) 1)) (gI (cAt L (vAt e 7) 0)) (gI (cAt L (vAt e 7) 1)) (gRF L (cAt L (vAt e 6) 2)) (gRF L (cAt L (vAt e 7) 2))) (s0 := ((gI (vAt e 10)), (gRF L (vAt e 9)))) tok spec_l03Least_hO mixed (LoopsOk_eq (l := []) (by kernel_rfl) trivial) (spec_l03Least_l0_be v49 v50 v51 v52 (gI (cAt L (vAt e 6) 0)) (gI (cAt L (vAt e 6) 1)) (gI (cAt L (vAt e 7) 0)) (gI (cAt L (vAt e 7) 1)) (gRF L (cAt L (vAt e 6) 2)) (gRF L (cAt L (vAt e 7) 2))) rfl (by intro x; rfl) h
noncomputable def spec_l03Least_T (v49 : Int) (v50 : Int) (v51 : List Nat) (v52 : List Nat) : Tree ((Unit) ⊕ ((List Nat))) :=
  (.call (spec_l03Mirror_g v49 v50 v51) fun v1790 =>
  (.sum v1790 (fun v1791 =>
   .leaf (.inl ())
  ) (fun v1792 =>
   (.sum v1792 (fun v1793 =>
    (.br (!v1793.2.2.2.2.1) (
     .leaf (.inl ())
    ) (
     (.need (some (spec_l03Least_l0_E v49 v50 v51 v52 v1793.1 v1793.2.1 v1793.2.2.1 v1793.2.2.2.1 v1793.2.2.2.2.2.1 v1793.2.2.2.2.2.2 ((0 : Int), ([] : List Nat))) = some (spec_l03Least_l0_E v49 v50 v51 v52 v1793.1 v1793.2.1 v1793.2.2.1 v1793.2.2.2.1 v1793.2.2.2.2.2.1 v1793.2.2.2.2.2.2 ((0 : Int), ([] : List Nat)))) <|
     (.call (spec_l03Least_l0_g v50 v52 v1793.1 v1793.2.1 v1793.2.2.1 v1793.2.2.2.1 v1793.2.2.2.2.2.1 v1793.2.2.2.2.2.2 ((0 : Int), ([] : List Nat))) fun v1824 =>
     (.call (spec_l02Finite_g v1824) fun v1825 =>
     (.br (!v1825) (
      .leaf (.inl ())
     ) (
      (.call (spec_l03UpperSolve_g v1793.2.2.1 v1793.2.2.2.1 v1793.2.2.2.2.2.2 v1824) fun v1894 =>
      (.sum v1894 (fun v1895 =>
       .leaf (.inl ())
      ) (fun v1896 =>
       .leaf (.inr v1896)
      )))
     )))))
    ))
   ) (fun v1794 =>
    .leaf (.inl ())
   ))
  )))

noncomputable def spec_l03Least_g (v49 : Int) (v50 : Int) (v51 : List Nat) (v52 : List Nat) : Option ((Unit) ⊕ ((List Nat))) := (spec_l03Least_T v49 v50 v51 v52).run
def spec_l03Least_enc (v49 : Int) (v50 : Int) (v51 : List Nat) (v52 : List Nat) (y : (Unit) ⊕ ((List Nat))) : Rs := (match y with | .inl y => (.tup [.nilslc, .lit false], []) | .inr y => (.tup [.own 0 0 ((y).length), .lit true], [.row (.f32 y) 0]))
theorem spec_l03Least_den (v49 : Int) (v50 : Int) (v51 : List Nat) (v52 : List Nat) : (den TT (tabD spec_l03Least_tab) (tabM spec_l03Least_tab) (spec_l03Least_LO v49 v50 v51 v52) (codeOf Try.f130) ([.bptr (BR.root 0) [.int .i64 v49, .int .i64 v50, .bslc (BR.root 1) (.f32 v51)], .bslc (BR.root 2) (.f32 v52)] ++ List.replicate (Try.f130.ntmps - ([.bptr (BR.root 0) [.int .i64 v49, .int .i64 v50, .bslc (BR.root 1) (.f32 v51)], .bslc (BR.root 2) (.f32 v52)] : List DV).length) .undef) []).bind (retD TT Try.f130.results.toList 0) = (spec_l03Least_T v49 v50 v51 v52).bind fun y => .leaf (spec_l03Least_enc v49 v50 v51 v52 y) := by kernel_rfl
theorem spec_l03Least_fn (v49 : Int) (v50 : Int) (v51 : List Nat) (v52 : List Nat) (F : Fr) (hm : F.ids.length = 0) (h0 : St F [] F.H0) (hA : DVs.Ok F [] [.bptr (BR.root 0) [.int .i64 v49, .int .i64 v50, .bslc (BR.root 1) (.f32 v51)], .bslc (BR.root 2) (.f32 v52)]) {y : (Unit) ⊕ ((List Nat))} (hy : spec_l03Least_g v49 v50 v51 v52 = some y) : ∃ H', FnOk Try.prog 130 (DVs.av F [.bptr (BR.root 0) [.int .i64 v49, .int .i64 v50, .bslc (BR.root 1) (.f32 v51)], .bslc (BR.root 2) (.f32 v52)]) F.H0 ((spec_l03Least_enc v49 v50 v51 v52 y).1.av F) H' ∧ St F (spec_l03Least_enc v49 v50 v51 v52 y).2 H' ∧ (spec_l03Least_enc v49 v50 v51 v52 y).1.Ok F (spec_l03Least_enc v49 v50 v51 v52 y).2 :=
  fn_fin tok spec_l03Least_hO mixed Try.func130 Try.call130 (by kernel_rfl) (LoopsOk_eq (l := [(0, bodyOf Try.f130 0)]) (by kernel_rfl) ⟨spec_l03Least_l0_ok v49 v50 v51 v52, trivial⟩) (spec_l03Least_den v49 v50 v51 v52) hy hm h0 hA
noncomputable def spec_l03Least_F : DFn := fun args L =>
  match args with
  | [a1, a3] =>
    optT (cellsOf L 3 a1) fun cs0 =>
    (match cs0 with
    | [.int .i64 v49, .int .i64 v50, a2] =>
    optT (rowF32 L a2) fun v51 =>
    optT (rowF32 L a3) fun v52 =>
    .call (spec_l03Least_g v49 v50 v51 v52) fun y => .sum y (fun y0 => .leaf (.tup [.nilslc, .lit false], L)) (fun z0 => .leaf (.tup [.own (L.length + 0) 0 ((z0).length), .lit true], L ++ [.row (.f32 z0) 0]))
    | _ => .fail)
  | _ => .fail
theorem spec_l03Least_Fok : COk Try.prog 130 spec_l03Least_F true := by
  intro F L H args r L' hs ha hr
  unfold spec_l03Least_F at hr
  split at hr
  · rename_i a1 a3
    obtain ⟨cs0, hcp0, hr⟩ := optT_run hr
    split at hr
    · rename_i v49 v50 a2
      obtain ⟨v51, hv51, hr⟩ := optT_run hr
      obtain ⟨v52, hv52, hr⟩ := optT_run hr
      simp only [Tree.run] at hr
      obtain ⟨y, hy, hr⟩ := Option.bind_eq_some_iff.1 hr
      cases y with
      | inl y =>
        simp only [Tree.run, Option.some.injEq, Prod.mk.injEq] at hr
        obtain ⟨rfl, rfl⟩ := hr
        exact call_ok0 hs (fun k => (([a1.av F, a2.av F, a3.av F] : List AV)[k]?).getD .top) [a1, a3] [.bptr (BR.root 0) [.int .i64 v49, .int .i64 v50, .bslc (BR.root 1) (.f32 v51)], .bslc (BR.root 2) (.f32 v52)] (fun F' h0 hi hρ => ⟨by simp [DVs.av, DV.av, BR.av, hρ], spec_l03Least_fn v49 v50 v51 v52 F' (by rw [hi]; rfl) (st_nil hi) ⟨bptr_ok hi (by rw [h0]; simpa [DVs.av, DV.av, BR.av, hρ] using (cellsOf_ok hs (DVs.okAt ha 0 rfl) hcp0).1) ⟨trivial, trivial, bslc_ok hi (by rw [h0, hρ]; exact rowF32_ok hs (DVs.okAt (cellsOf_ok hs (DVs.okAt ha 0 rfl) hcp0).2 2 rfl) hv51), trivial⟩, bslc_ok hi (by rw [h0, hρ]; exact rowF32_ok hs (DVs.okAt ha 1 rfl) hv52), trivial⟩ hy⟩) rfl
      | inr y =>
        simp only [Tree.run, Option.some.injEq, Prod.mk.injEq] at hr
        obtain ⟨rfl, rfl⟩ := hr
        exact call_ok1 hs (fun k => (([a1.av F, a2.av F, a3.av F] : List AV)[k]?).getD .top) [a1, a3] [.bptr (BR.root 0) [.int .i64 v49, .int .i64 v50, .bslc (BR.root 1) (.f32 v51)], .bslc (BR.root 2) (.f32 v52)] (fun F' h0 hi hρ => ⟨by simp [DVs.av, DV.av, BR.av, hρ], spec_l03Least_fn v49 v50 v51 v52 F' (by rw [hi]; rfl) (st_nil hi) ⟨bptr_ok hi (by rw [h0]; simpa [DVs.av, DV.av, BR.av, hρ] using (cellsOf_ok hs (DVs.okAt ha 0 rfl) hcp0).1) ⟨trivial, trivial, bslc_ok hi (by rw [h0, hρ]; exact rowF32_ok hs (DVs.okAt (cellsOf_ok hs (DVs.okAt ha 0 rfl) hcp0).2 2 rfl) hv51), trivial⟩, bslc_ok hi (by rw [h0, hρ]; exact rowF32_ok hs (DVs.okAt ha 1 rfl) hv52), trivial⟩ hy⟩) rfl rfl
    · cases hr
  · cases hr
/-! spec.LeastSquares -/
noncomputable def spec_LeastSquares_LO (v24 : Int) (v25 : Int) (v26 : List Nat) (v27 : List Nat) : LOr := fun id e L =>
  match id with
  | _ => .fail
noncomputable def spec_LeastSquares_tab : List (FuncId × DFn × Bool) := [(61, spec_l02Is_F, true), (108, spec_l02Vector_F, true), (130, spec_l03Least_F, true)]
theorem spec_LeastSquares_hO : OrcOk Try.prog (tabD spec_LeastSquares_tab) (tabM spec_LeastSquares_tab) := tabD_cons spec_l02Is_Fok (tabD_cons spec_l02Vector_Fok (tabD_cons spec_l03Least_Fok (tabD_nil _)))
noncomputable def spec_LeastSquares_T (v24 : Int) (v25 : Int) (v26 : List Nat) (v27 : List Nat) : Tree ((Unit) ⊕ ((List Nat))) :=
  (.call (spec_l02Is_g v24 v25 v26) fun v45 =>
  (.br (!v45) (
   .leaf (.inl ())
  ) (
   (.br (decide (v24 < v25)) (
    .leaf (.inl ())
   ) (
    (.call (spec_l02Vector_g v27) fun v48 =>
    (.br (!v48) (
     .leaf (.inl ())
    ) (
     (.br (!decide (((v27.length : Nat) : Int) = v24)) (
      .leaf (.inl ())
     ) (
      (.call (spec_l03Least_g v24 v25 v26 v27) fun v1897 =>
      (.sum v1897 (fun v1898 =>
       .leaf (.inl ())
      ) (fun v1899 =>
       .leaf (.inr v1899)
      )))
     ))
    )))
   ))
  )))

noncomputable def spec_LeastSquares_g (v24 : Int) (v25 : Int) (v26 : List Nat) (v27 : List Nat) : Option ((Unit) ⊕ ((List Nat))) := (spec_LeastSquares_T v24 v25 v26 v27).run
def spec_LeastSquares_enc (v24 : Int) (v25 : Int) (v26 : List Nat) (v27 : List Nat) (y : (Unit) ⊕ ((List Nat))) : Rs := (match y with | .inl y => (.tup [.nilslc, .lit false], []) | .inr y => (.tup [.own 0 0 ((y).length), .lit true], [.row (.f32 y) 0]))
theorem spec_LeastSquares_den (v24 : Int) (v25 : Int) (v26 : List Nat) (v27 : List Nat) : (den TT (tabD spec_LeastSquares_tab) (tabM spec_LeastSquares_tab) (spec_LeastSquares_LO v24 v25 v26 v27) (codeOf Try.f54) ([.agg [.int .i64 v24, .int .i64 v25, .bslc (BR.root 0) (.f32 v26)], .bslc (BR.root 1) (.f32 v27)] ++ List.replicate (Try.f54.ntmps - ([.agg [.int .i64 v24, .int .i64 v25, .bslc (BR.root 0) (.f32 v26)], .bslc (BR.root 1) (.f32 v27)] : List DV).length) .undef) []).bind (retD TT Try.f54.results.toList 0) = (spec_LeastSquares_T v24 v25 v26 v27).bind fun y => .leaf (spec_LeastSquares_enc v24 v25 v26 v27 y) := by kernel_rfl
theorem spec_LeastSquares_fn (v24 : Int) (v25 : Int) (v26 : List Nat) (v27 : List Nat) (F : Fr) (hm : F.ids.length = 0) (h0 : St F [] F.H0) (hA : DVs.Ok F [] [.agg [.int .i64 v24, .int .i64 v25, .bslc (BR.root 0) (.f32 v26)], .bslc (BR.root 1) (.f32 v27)]) {y : (Unit) ⊕ ((List Nat))} (hy : spec_LeastSquares_g v24 v25 v26 v27 = some y) : ∃ H', FnOk Try.prog 54 (DVs.av F [.agg [.int .i64 v24, .int .i64 v25, .bslc (BR.root 0) (.f32 v26)], .bslc (BR.root 1) (.f32 v27)]) F.H0 ((spec_LeastSquares_enc v24 v25 v26 v27 y).1.av F) H' ∧ St F (spec_LeastSquares_enc v24 v25 v26 v27 y).2 H' ∧ (spec_LeastSquares_enc v24 v25 v26 v27 y).1.Ok F (spec_LeastSquares_enc v24 v25 v26 v27 y).2 :=
  fn_fin tok spec_LeastSquares_hO mixed Try.func54 Try.call54 (by kernel_rfl) (LoopsOk_eq (l := []) (by kernel_rfl) trivial) (spec_LeastSquares_den v24 v25 v26 v27) hy hm h0 hA
noncomputable def spec_LeastSquares_F : DFn := fun args L =>
  match args with
  | [.agg [.int .i64 v24, .int .i64 v25, a1], a2] =>
    optT (rowF32 L a1) fun v26 =>
    optT (rowF32 L a2) fun v27 =>
    .call (spec_LeastSquares_g v24 v25 v26 v27) fun y => .sum y (fun y0 => .leaf (.tup [.nilslc, .lit false], L)) (fun z0 => .leaf (.tup [.own (L.length + 0) 0 ((z0).length), .lit true], L ++ [.row (.f32 z0) 0]))
  | _ => .fail
theorem spec_LeastSquares_Fok : COk Try.prog 54 spec_LeastSquares_F true := by
  intro F L H args r L' hs ha hr
  unfold spec_LeastSquares_F at hr
  split at hr
  · rename_i v24 v25 a1 a2
    obtain ⟨v26, hv26, hr⟩ := optT_run hr
    obtain ⟨v27, hv27, hr⟩ := optT_run hr
    simp only [Tree.run] at hr
    obtain ⟨y, hy, hr⟩ := Option.bind_eq_some_iff.1 hr
    cases y with
    | inl y =>
      simp only [Tree.run, Option.some.injEq, Prod.mk.injEq] at hr
      obtain ⟨rfl, rfl⟩ := hr
      exact call_ok0 hs (fun k => (([a1.av F, a2.av F] : List AV)[k]?).getD .top) [.agg [.int .i64 v24, .int .i64 v25, a1], a2] [.agg [.int .i64 v24, .int .i64 v25, .bslc (BR.root 0) (.f32 v26)], .bslc (BR.root 1) (.f32 v27)] (fun F' h0 hi hρ => ⟨by simp [DVs.av, DV.av, BR.av, hρ], spec_LeastSquares_fn v24 v25 v26 v27 F' (by rw [hi]; rfl) (st_nil hi) ⟨⟨trivial, trivial, bslc_ok hi (by rw [h0, hρ]; exact rowF32_ok hs (DVs.okAt (DVs.okAt ha 0 rfl) 2 rfl) hv26), trivial⟩, bslc_ok hi (by rw [h0, hρ]; exact rowF32_ok hs (DVs.okAt ha 1 rfl) hv27), trivial⟩ hy⟩) rfl
    | inr y =>
      simp only [Tree.run, Option.some.injEq, Prod.mk.injEq] at hr
      obtain ⟨rfl, rfl⟩ := hr
      exact call_ok1 hs (fun k => (([a1.av F, a2.av F] : List AV)[k]?).getD .top) [.agg [.int .i64 v24, .int .i64 v25, a1], a2] [.agg [.int .i64 v24, .int .i64 v25, .bslc (BR.root 0) (.f32 v26)], .bslc (BR.root 1) (.f32 v27)] (fun F' h0 hi hρ => ⟨by simp [DVs.av, DV.av, BR.av, hρ], spec_LeastSquares_fn v24 v25 v26 v27 F' (by rw [hi]; rfl) (st_nil hi) ⟨⟨trivial, trivial, bslc_ok hi (by rw [h0, hρ]; exact rowF32_ok hs (DVs.okAt (DVs.okAt ha 0 rfl) 2 rfl) hv26), trivial⟩, bslc_ok hi (by rw [h0, hρ]; exact rowF32_ok hs (DVs.okAt ha 1 rfl) hv27), trivial⟩ hy⟩) rfl rfl
  · cases hr
/-! impl.length[float32] -/
noncomputable def impl_lengthF_LO (v1910 : List Nat) : LOr := fun id e L =>
  match id with
  | _ => .fail
noncomputable def impl_lengthF_tab : List (FuncId × DFn × Bool) := []
theorem impl_lengthF_hO : OrcOk Try.prog (tabD impl_lengthF_tab) (tabM impl_lengthF_tab) := tabD_nil _
noncomputable def impl_lengthF_T (v1910 : List Nat) : Tree (Int) :=
  .leaf ((v1910.length : Nat) : Int)

noncomputable def impl_lengthF_g (v1910 : List Nat) : Option (Int) := (impl_lengthF_T v1910).run
def impl_lengthF_enc (v1910 : List Nat) (y : Int) : Rs := (.int .i64 y, [])
theorem impl_lengthF_den (v1910 : List Nat) : (den TT (tabD impl_lengthF_tab) (tabM impl_lengthF_tab) (impl_lengthF_LO v1910) (codeOf Try.f112) ([.bslc (BR.root 0) (.f32 v1910)] ++ List.replicate (Try.f112.ntmps - ([.bslc (BR.root 0) (.f32 v1910)] : List DV).length) .undef) []).bind (retD TT Try.f112.results.toList 0) = (impl_lengthF_T v1910).bind fun y => .leaf (impl_lengthF_enc v1910 y) := by kernel_rfl
theorem impl_lengthF_fn (v1910 : List Nat) (F : Fr) (hm : F.ids.length = 0) (h0 : St F [] F.H0) (hA : DVs.Ok F [] [.bslc (BR.root 0) (.f32 v1910)]) {y : Int} (hy : impl_lengthF_g v1910 = some y) : ∃ H', FnOk Try.prog 112 (DVs.av F [.bslc (BR.root 0) (.f32 v1910)]) F.H0 ((impl_lengthF_enc v1910 y).1.av F) H' ∧ St F (impl_lengthF_enc v1910 y).2 H' ∧ (impl_lengthF_enc v1910 y).1.Ok F (impl_lengthF_enc v1910 y).2 :=
  fn_fin tok impl_lengthF_hO mixed Try.func112 Try.call112 (by kernel_rfl) (LoopsOk_eq (l := []) (by kernel_rfl) trivial) (impl_lengthF_den v1910) hy hm h0 hA
def impl_lengthF_v (v1910 : List Nat) : Int :=
  ((v1910.length : Nat) : Int)
theorem impl_lengthF_tot (v1910 : List Nat) : impl_lengthF_g v1910 = some (impl_lengthF_v v1910) := by
  unfold impl_lengthF_g impl_lengthF_T impl_lengthF_v
  simp only [Tree.run]
  repeat' (first | rfl | split)
noncomputable def impl_lengthF_F : DFn := fun args L =>
  match args with
  | [a1] =>
    optT (rowF32 L a1) fun v1910 =>
    .leaf (.int .i64 (impl_lengthF_v v1910), L)
  | _ => .fail
theorem impl_lengthF_Fok : COk Try.prog 112 impl_lengthF_F true := by
  intro F L H args r L' hs ha hr
  unfold impl_lengthF_F at hr
  split at hr
  · rename_i a1
    obtain ⟨v1910, hv1910, hr⟩ := optT_run hr
    have hy := impl_lengthF_tot v1910
    generalize impl_lengthF_v v1910 = y at hy hr
    simp only [Tree.run, Option.some.injEq, Prod.mk.injEq] at hr
    obtain ⟨rfl, rfl⟩ := hr
    exact call_ok0 hs (fun k => (([a1.av F] : List AV)[k]?).getD .top) [a1] [.bslc (BR.root 0) (.f32 v1910)] (fun F' h0 hi hρ => ⟨by simp [DVs.av, DV.av, BR.av, hρ], impl_lengthF_fn v1910 F' (by rw [hi]; rfl) (st_nil hi) ⟨bslc_ok hi (by rw [h0, hρ]; exact rowF32_ok hs (DVs.okAt ha 0 rfl) hv1910), trivial⟩ hy⟩) rfl
  · cases hr
/-! impl.inRange -/
noncomputable def impl_inRange_LO (v1911 : Int) (v1912 : Int) (v1913 : Int) : LOr := fun id e L =>
  match id with
  | _ => .fail
noncomputable def impl_inRange_tab : List (FuncId × DFn × Bool) := []
theorem impl_inRange_hO : OrcOk Try.prog (tabD impl_inRange_tab) (tabM impl_inRange_tab) := tabD_nil _
noncomputable def impl_inRange_T (v1911 : Int) (v1912 : Int) (v1913 : Int) : Tree (Bool) :=
  (.br (decide (v1912 ≤ v1911)) (
   .leaf (decide (v1911 ≤ v1913))
  ) (
   .leaf false
  ))

noncomputable def impl_inRange_g (v1911 : Int) (v1912 : Int) (v1913 : Int) : Option (Bool) := (impl_inRange_T v1911 v1912 v1913).run
def impl_inRange_enc (v1911 : Int) (v1912 : Int) (v1913 : Int) (y : Bool) : Rs := (.bool y, [])
theorem impl_inRange_den (v1911 : Int) (v1912 : Int) (v1913 : Int) : (den TT (tabD impl_inRange_tab) (tabM impl_inRange_tab) (impl_inRange_LO v1911 v1912 v1913) (codeOf Try.f73) ([.int .i64 v1911, .int .i64 v1912, .int .i64 v1913] ++ List.replicate (Try.f73.ntmps - ([.int .i64 v1911, .int .i64 v1912, .int .i64 v1913] : List DV).length) .undef) []).bind (retD TT Try.f73.results.toList 0) = (impl_inRange_T v1911 v1912 v1913).bind fun y => .leaf (impl_inRange_enc v1911 v1912 v1913 y) := by kernel_rfl
theorem impl_inRange_fn (v1911 : Int) (v1912 : Int) (v1913 : Int) (F : Fr) (hm : F.ids.length = 0) (h0 : St F [] F.H0) (hA : DVs.Ok F [] [.int .i64 v1911, .int .i64 v1912, .int .i64 v1913]) {y : Bool} (hy : impl_inRange_g v1911 v1912 v1913 = some y) : ∃ H', FnOk Try.prog 73 (DVs.av F [.int .i64 v1911, .int .i64 v1912, .int .i64 v1913]) F.H0 ((impl_inRange_enc v1911 v1912 v1913 y).1.av F) H' ∧ St F (impl_inRange_enc v1911 v1912 v1913 y).2 H' ∧ (impl_inRange_enc v1911 v1912 v1913 y).1.Ok F (impl_inRange_enc v1911 v1912 v1913 y).2 :=
  fn_fin tok impl_inRange_hO mixed Try.func73 Try.call73 (by kernel_rfl) (LoopsOk_eq (l := []) (by kernel_rfl) trivial) (impl_inRange_den v1911 v1912 v1913) hy hm h0 hA
def impl_inRange_v (v1911 : Int) (v1912 : Int) (v1913 : Int) : Bool :=
  if (decide (v1912 ≤ v1911)) = true then (
   decide (v1911 ≤ v1913)
  ) else (
   false
  )
theorem impl_inRange_tot (v1911 : Int) (v1912 : Int) (v1913 : Int) : impl_inRange_g v1911 v1912 v1913 = some (impl_inRange_v v1911 v1912 v1913) := by
  unfold impl_inRange_g impl_inRange_T impl_inRange_v
  simp only [Tree.run]
  repeat' (first | rfl | split)
noncomputable def impl_inRange_F : DFn := fun args L =>
  match args with
  | [.int .i64 v1911, .int .i64 v1912, .int .i64 v1913] =>
    .leaf (.bool (impl_inRange_v v1911 v1912 v1913), L)
  | _ => .fail
theorem impl_inRange_Fok : COk Try.prog 73 impl_inRange_F true := by
  intro F L H args r L' hs ha hr
  unfold impl_inRange_F at hr
  split at hr
  · rename_i v1911 v1912 v1913
    have hy := impl_inRange_tot v1911 v1912 v1913
    generalize impl_inRange_v v1911 v1912 v1913 = y at hy hr
    simp only [Tree.run, Option.some.injEq, Prod.mk.injEq] at hr
    obtain ⟨rfl, rfl⟩ := hr
    exact call_ok0 hs (fun k => (([] : List AV)[k]?).getD .top) [.int .i64 v1911, .int .i64 v1912, .int .i64 v1913] [.int .i64 v1911, .int .i64 v1912, .int .i64 v1913] (fun F' h0 hi hρ => ⟨by simp [DVs.av, DV.av, BR.av, hρ], impl_inRange_fn v1911 v1912 v1913 F' (by rw [hi]; rfl) (st_nil hi) ⟨trivial, trivial, trivial, trivial⟩ hy⟩) rfl
  · cases hr
/-! math.IsNaN -/
noncomputable def math_IsNaN_LO (v1921 : Nat) : LOr := fun id e L =>
  match id with
  | _ => .fail
noncomputable def math_IsNaN_tab : List (FuncId × DFn × Bool) := []
theorem math_IsNaN_hO : OrcOk Try.prog (tabD math_IsNaN_tab) (tabM math_IsNaN_tab) := tabD_nil _
noncomputable def math_IsNaN_T (v1921 : Nat) : Tree (Bool) :=
  .leaf (!feq .f64 v1921 v1921)

noncomputable def math_IsNaN_g (v1921 : Nat) : Option (Bool) := (math_IsNaN_T v1921).run
def math_IsNaN_enc (v1921 : Nat) (y : Bool) : Rs := (.bool y, [])
theorem math_IsNaN_den (v1921 : Nat) : (den TT (tabD math_IsNaN_tab) (tabM math_IsNaN_tab) (math_IsNaN_LO v1921) (codeOf Try.f172) ([.flt .f64 v1921] ++ List.replicate (Try.f172.ntmps - ([.flt .f64 v1921] : List DV).length) .undef) []).bind (retD TT Try.f172.results.toList 0) = (math_IsNaN_T v1921).bind fun y => .leaf (math_IsNaN_enc v1921 y) := by kernel_rfl
theorem math_IsNaN_fn (v1921 : Nat) (F : Fr) (hm : F.ids.length = 0) (h0 : St F [] F.H0) (hA : DVs.Ok F [] [.flt .f64 v1921]) {y : Bool} (hy : math_IsNaN_g v1921 = some y) : ∃ H', FnOk Try.prog 172 (DVs.av F [.flt .f64 v1921]) F.H0 ((math_IsNaN_enc v1921 y).1.av F) H' ∧ St F (math_IsNaN_enc v1921 y).2 H' ∧ (math_IsNaN_enc v1921 y).1.Ok F (math_IsNaN_enc v1921 y).2 :=
  fn_fin tok math_IsNaN_hO mixed Try.func172 Try.call172 (by kernel_rfl) (LoopsOk_eq (l := []) (by kernel_rfl) trivial) (math_IsNaN_den v1921) hy hm h0 hA
def math_IsNaN_v (v1921 : Nat) : Bool :=
  !feq .f64 v1921 v1921
theorem math_IsNaN_tot (v1921 : Nat) : math_IsNaN_g v1921 = some (math_IsNaN_v v1921) := by
  unfold math_IsNaN_g math_IsNaN_T math_IsNaN_v
  simp only [Tree.run]
  repeat' (first | rfl | split)
noncomputable def math_IsNaN_F : DFn := fun args L =>
  match args with
  | [.flt .f64 v1921] =>
    .leaf (.bool (math_IsNaN_v v1921), L)
  | _ => .fail
theorem math_IsNaN_Fok : COk Try.prog 172 math_IsNaN_F true := by
  intro F L H args r L' hs ha hr
  unfold math_IsNaN_F at hr
  split at hr
  · rename_i v1921
    have hy := math_IsNaN_tot v1921
    generalize math_IsNaN_v v1921 = y at hy hr
    simp only [Tree.run, Option.some.injEq, Prod.mk.injEq] at hr
    obtain ⟨rfl, rfl⟩ := hr
    exact call_ok0 hs (fun k => (([] : List AV)[k]?).getD .top) [.flt .f64 v1921] [.flt .f64 v1921] (fun F' h0 hi hρ => ⟨by simp [DVs.av, DV.av, BR.av, hρ], math_IsNaN_fn v1921 F' (by rw [hi]; rfl) (st_nil hi) ⟨trivial, trivial⟩ hy⟩) rfl
  · cases hr
/-! math.IsInf -/
noncomputable def math_IsInf_LO (v1922 : Nat) (v1923 : Int) : LOr := fun id e L =>
  match id with
  | _ => .fail
noncomputable def math_IsInf_tab : List (FuncId × DFn × Bool) := [(97, Abs_F, true)]
theorem math_IsInf_hO : OrcOk Try.prog (tabD math_IsInf_tab) (tabM math_IsInf_tab) := tabD_cons Abs_Fok (tabD_nil _)
noncomputable def math_IsInf_T (v1922 : Nat) (v1923 : Int) : Tree (Bool) :=
  (.br (decide (v1923 = (0 : Int))) (
   .leaf (fgrt .f64 (fabs v1922) (9218868437227405311 : Nat))
  ) (
   (.br (decide (v1923 < (0 : Int))) (
    .leaf (fgrt .f64 (fneg .f64 v1922) (9218868437227405311 : Nat))
   ) (
    .leaf (fgrt .f64 v1922 (9218868437227405311 : Nat))
   ))
  ))

noncomputable def math_IsInf_g (v1922 : Nat) (v1923 : Int) : Option (Bool) := (math_IsInf_T v1922 v1923).run
def math_IsInf_enc (v1922 : Nat) (v1923 : Int) (y : Bool) : Rs := (.bool y, [])
theorem math_IsInf_den (v1922 : Nat) (v1923 : Int) : (den TT (tabD math_IsInf_tab) (tabM math_IsInf_tab) (math_IsInf_LO v1922 v1923) (codeOf Try.f173) ([.flt .f64 v1922, .int .i64 v1923] ++ List.replicate (Try.f173.ntmps - ([.flt .f64 v1922, .int .i64 v1923] : List DV).length) .undef) []).bind (retD TT Try.f173.results.toList 0) = (math_IsInf_T v1922 v1923).bind fun y => .leaf (math_IsInf_enc v1922 v1923 y) := by kernel_rfl
theorem math_IsInf_fn (v1922 : Nat) (v1923 : Int) (F : Fr) (hm : F.ids.length = 0) (h0 : St F [] F.H0) (hA : DVs.Ok F [] [.flt .f64 v1922, .int .i64 v1923]) {y : Bool} (hy : math_IsInf_g v1922 v1923 = some y) : ∃ H', FnOk Try.prog 173 (DVs.av F [.flt .f64 v1922, .int .i64 v1923]) F.H0 ((math_IsInf_enc v1922 v1923 y).1.av F) H' ∧ St F (math_IsInf_enc v1922 v1923 y).2 H' ∧ (math_IsInf_enc v1922 v1923 y).1.Ok F (math_IsInf_enc v1922 v1923 y).2 :=
  fn_fin tok math_IsInf_hO mixed Try.func173 Try.call173 (by kernel_rfl) (LoopsOk_eq (l := []) (by kernel_rfl) trivial) (math_IsInf_den v1922 v1923) hy hm h0 hA
def math_IsInf_v (v1922 : Nat) (v1923 : Int) : Bool :=
  if (decide (v1923 = (0 : Int))) = true then (
   fgrt .f64 (fabs v1922) (9218868437227405311 : Nat)
  ) else (
   if (decide (v1923 < (0 : Int))) = true then (
    fgrt .f64 (fneg .f64 v1922) (9218868437227405311 : Nat)
   ) else (
    fgrt .f64 v1922 (9218868437227405311 : Nat)
   )
  )
theorem math_IsInf_tot (v1922 : Nat) (v1923 : Int) : math_IsInf_g v1922 v1923 = some (math_IsInf_v v1922 v1923) := by
  unfold math_IsInf_g math_IsInf_T math_IsInf_v
  simp only [Tree.run]
  repeat' (first | rfl | split)
noncomputable def math_IsInf_F : DFn := fun args L =>
  match args with
  | [.flt .f64 v1922, .int .i64 v1923] =>
    .leaf (.bool (math_IsInf_v v1922 v1923), L)
  | _ => .fail
theorem math_IsInf_Fok : COk Try.prog 173 math_IsInf_F true := by
  intro F L H args r L' hs ha hr
  unfold math_IsInf_F at hr
  split at hr
  · rename_i v1922 v1923
    have hy := math_IsInf_tot v1922 v1923
    generalize math_IsInf_v v1922 v1923 = y at hy hr
    simp only [Tree.run, Option.some.injEq, Prod.mk.injEq] at hr
    obtain ⟨rfl, rfl⟩ := hr
    exact call_ok0 hs (fun k => (([] : List AV)[k]?).getD .top) [.flt .f64 v1922, .int .i64 v1923] [.flt .f64 v1922, .int .i64 v1923] (fun F' h0 hi hρ => ⟨by simp [DVs.av, DV.av, BR.av, hρ], math_IsInf_fn v1922 v1923 F' (by rw [hi]; rfl) (st_nil hi) ⟨trivial, trivial, trivial⟩ hy⟩) rfl
  · cases hr
/-! impl.isFinite64 -/
noncomputable def impl_isFinite64_LO (v1920 : Nat) : LOr := fun id e L =>
  match id with
  | _ => .fail
noncomputable def impl_isFinite64_tab : List (FuncId × DFn × Bool) := [(172, math_IsNaN_F, true), (173, math_IsInf_F, true)]
theorem impl_isFinite64_hO : OrcOk Try.prog (tabD impl_isFinite64_tab) (tabM impl_isFinite64_tab) := tabD_cons math_IsNaN_Fok (tabD_cons math_IsInf_Fok (tabD_nil _))
noncomputable def impl_isFinite64_T (v1920 : Nat) : Tree (Bool) :=
  (.br (!(math_IsNaN_v v1920)) (
   .leaf (!(math_IsInf_v v1920 (0 : Int)))
  ) (
   .leaf false
  ))

noncomputable def impl_isFinite64_g (v1920 : Nat) : Option (Bool) := (impl_isFinite64_T v1920).run
def impl_isFinite64_enc (v1920 : Nat) (y : Bool) : Rs := (.bool y, [])
theorem impl_isFinite64_den (v1920 : Nat) : (den TT (tabD impl_isFinite64_tab) (tabM impl_isFinite64_tab) (impl_isFinite64_LO v1920) (codeOf Try.f149) ([.flt .f64 v1920] ++ List.replicate (Try.f149.ntmps - ([.flt .f64 v1920] : List DV).length) .undef) []).bind (retD TT Try.f149.results.toList 0) = (impl_isFinite64_T v1920).bind fun y => .leaf (impl_isFinite64_enc v1920 y) := by kernel_rfl
theorem impl_isFinite64_fn (v1920 : Nat) (F : Fr) (hm : F.ids.length = 0) (h0 : St F [] F.H0) (hA : DVs.Ok F [] [.flt .f64 v1920]) {y : Bool} (hy : impl_isFinite64_g v1920 = some y) : ∃ H', FnOk Try.prog 149 (DVs.av F [.flt .f64 v1920]) F.H0 ((impl_isFinite64_enc v1920 y).1.av F) H' ∧ St F (impl_isFinite64_enc v1920 y).2 H' ∧ (impl_isFinite64_enc v1920 y).1.Ok F (impl_isFinite64_enc v1920 y).2 :=
  fn_fin tok impl_isFinite64_hO mixed Try.func149 Try.call149 (by kernel_rfl) (LoopsOk_eq (l := []) (by kernel_rfl) trivial) (impl_isFinite64_den v1920) hy hm h0 hA
def impl_isFinite64_v (v1920 : Nat) : Bool :=
  if (!(math_IsNaN_v v1920)) = true then (
   !(math_IsInf_v v1920 (0 : Int))
  ) else (
   false
  )
theorem impl_isFinite64_tot (v1920 : Nat) : impl_isFinite64_g v1920 = some (impl_isFinite64_v v1920) := by
  unfold impl_isFinite64_g impl_isFinite64_T impl_isFinite64_v
  simp only [Tree.run]
  repeat' (first | rfl | split)
noncomputable def impl_isFinite64_F : DFn := fun args L =>
  match args with
  | [.flt .f64 v1920] =>
    .leaf (.bool (impl_isFinite64_v v1920), L)
  | _ => .fail
theorem impl_isFinite64_Fok : COk Try.prog 149 impl_isFinite64_F true := by
  intro F L H args r L' hs ha hr
  unfold impl_isFinite64_F at hr
  split at hr
  · rename_i v1920
    have hy := impl_isFinite64_tot v1920
    generalize impl_isFinite64_v v1920 = y at hy hr
    simp only [Tree.run, Option.some.injEq, Prod.mk.injEq] at hr
    obtain ⟨rfl, rfl⟩ := hr
    exact call_ok0 hs (fun k => (([] : List AV)[k]?).getD .top) [.flt .f64 v1920] [.flt .f64 v1920] (fun F' h0 hi hρ => ⟨by simp [DVs.av, DV.av, BR.av, hρ], impl_isFinite64_fn v1920 F' (by rw [hi]; rfl) (st_nil hi) ⟨trivial, trivial⟩ hy⟩) rfl
  · cases hr
/-! impl.IsFinite -/
noncomputable def impl_IsFinite_LO (v1919 : Nat) : LOr := fun id e L =>
  match id with
  | _ => .fail
noncomputable def impl_IsFinite_tab : List (FuncId × DFn × Bool) := [(149, impl_isFinite64_F, true)]
theorem impl_IsFinite_hO : OrcOk Try.prog (tabD impl_IsFinite_tab) (tabM impl_IsFinite_tab) := tabD_cons impl_isFinite64_Fok (tabD_nil _)
noncomputable def impl_IsFinite_T (v1919 : Nat) : Tree (Bool) :=
  .leaf (impl_isFinite64_v (wid v1919))

noncomputable def impl_IsFinite_g (v1919 : Nat) : Option (Bool) := (impl_IsFinite_T v1919).run
def impl_IsFinite_enc (v1919 : Nat) (y : Bool) : Rs := (.bool y, [])
theorem impl_IsFinite_den (v1919 : Nat) : (den TT (tabD impl_IsFinite_tab) (tabM impl_IsFinite_tab) (impl_IsFinite_LO v1919) (codeOf Try.f96) ([.flt .f32 v1919] ++ List.replicate (Try.f96.ntmps - ([.flt .f32 v1919] : List DV).length) .undef) []).bind (retD TT Try.f96.results.toList 0) = (impl_IsFinite_T v1919).bind fun y => .leaf (impl_IsFinite_enc v1919 y) := by kernel_rfl
theorem impl_IsFinite_fn (v1919 : Nat) (F : Fr) (hm : F.ids.length = 0) (h0 : St F [] F.H0) (hA : DVs.Ok F [] [.flt .f32 v1919]) {y : Bool} (hy : impl_IsFinite_g v1919 = some y) : ∃ H', FnOk Try.prog 96 (DVs.av F [.flt .f32 v1919]) F.H0 ((impl_IsFinite_enc v1919 y).1.av F) H' ∧ St F (impl_IsFinite_enc v1919 y).2 H' ∧ (impl_IsFinite_enc v1919 y).1.Ok F (impl_IsFinite_enc v1919 y).2 :=
  fn_fin tok impl_IsFinite_hO mixed Try.func96 Try.call96 (by kernel_rfl) (LoopsOk_eq (l := []) (by kernel_rfl) trivial) (impl_IsFinite_den v1919) hy hm h0 hA
def impl_IsFinite_v (v1919 : Nat) : Bool :=
  (impl_isFinite64_v (wid v1919))
theorem impl_IsFinite_tot (v1919 : Nat) : impl_IsFinite_g v1919 = some (impl_IsFinite_v v1919) := by
  unfold impl_IsFinite_g impl_IsFinite_T impl_IsFinite_v
  simp only [Tree.run]
  repeat' (first | rfl | split)
noncomputable def impl_IsFinite_F : DFn := fun args L =>
  match args with
  | [.flt .f32 v1919] =>
    .leaf (.bool (impl_IsFinite_v v1919), L)
  | _ => .fail
theorem impl_IsFinite_Fok : COk Try.prog 96 impl_IsFinite_F true := by
  intro F L H args r L' hs ha hr
  unfold impl_IsFinite_F at hr
  split at hr
  · rename_i v1919
    have hy := impl_IsFinite_tot v1919
    generalize impl_IsFinite_v v1919 = y at hy hr
    simp only [Tree.run, Option.some.injEq, Prod.mk.injEq] at hr
    obtain ⟨rfl, rfl⟩ := hr
    exact call_ok0 hs (fun k => (([] : List AV)[k]?).getD .top) [.flt .f32 v1919] [.flt .f32 v1919] (fun F' h0 hi hρ => ⟨by simp [DVs.av, DV.av, BR.av, hρ], impl_IsFinite_fn v1919 F' (by rw [hi]; rfl) (st_nil hi) ⟨trivial, trivial⟩ hy⟩) rfl
  · cases hr
/-! impl.areFinite$1 -/
noncomputable def impl_areFinite_1_LO (v1918 : Nat) : LOr := fun id e L =>
  match id with
  | _ => .fail
noncomputable def impl_areFinite_1_tab : List (FuncId × DFn × Bool) := [(96, impl_IsFinite_F, true)]
theorem impl_areFinite_1_hO : OrcOk Try.prog (tabD impl_areFinite_1_tab) (tabM impl_areFinite_1_tab) := tabD_cons impl_IsFinite_Fok (tabD_nil _)
noncomputable def impl_areFinite_1_T (v1918 : Nat) : Tree (Bool) :=
  .leaf (!(impl_IsFinite_v v1918))

noncomputable def impl_areFinite_1_g (v1918 : Nat) : Option (Bool) := (impl_areFinite_1_T v1918).run
def impl_areFinite_1_enc (v1918 : Nat) (y : Bool) : Rs := (.bool y, [])
theorem impl_areFinite_1_den (v1918 : Nat) : (den TT (tabD impl_areFinite_1_tab) (tabM impl_areFinite_1_tab) (impl_areFinite_1_LO v1918) (codeOf Try.f138) ([.flt .f32 v1918] ++ List.replicate (Try.f138.ntmps - ([.flt .f32 v1918] : List DV).length) .undef) []).bind (retD TT Try.f138.results.toList 0) = (impl_areFinite_1_T v1918).bind fun y => .leaf (impl_areFinite_1_enc v1918 y) := by kernel_rfl
theorem impl_areFinite_1_fn (v1918 : Nat) (F : Fr) (hm : F.ids.length = 0) (h0 : St F [] F.H0) (hA : DVs.Ok F [] [.flt .f32 v1918]) {y : Bool} (hy : impl_areFinite_1_g v1918 = some y) : ∃ H', FnOk Try.prog 138 (DVs.av F [.flt .f32 v1918]) F.H0 ((impl_areFinite_1_enc v1918 y).1.av F) H' ∧ St F (impl_areFinite_1_enc v1918 y).2 H' ∧ (impl_areFinite_1_enc v1918 y).1.Ok F (impl_areFinite_1_enc v1918 y).2 :=
  fn_fin tok impl_areFinite_1_hO mixed Try.func138 Try.call138 (by kernel_rfl) (LoopsOk_eq (l := []) (by kernel_rfl) trivial) (impl_areFinite_1_den v1918) hy hm h0 hA
def impl_areFinite_1_v (v1918 : Nat) : Bool :=
  !(impl_IsFinite_v v1918)
theorem impl_areFinite_1_tot (v1918 : Nat) : impl_areFinite_1_g v1918 = some (impl_areFinite_1_v v1918) := by
  unfold impl_areFinite_1_g impl_areFinite_1_T impl_areFinite_1_v
  simp only [Tree.run]
  repeat' (first | rfl | split)
noncomputable def impl_areFinite_1_F : DFn := fun args L =>
  match args with
  | [.flt .f32 v1918] =>
    .leaf (.bool (impl_areFinite_1_v v1918), L)
  | _ => .fail
theorem impl_areFinite_1_Fok : COk Try.prog 138 impl_areFinite_1_F true := by
  intro F L H args r L' hs ha hr
  unfold impl_areFinite_1_F at hr
  split at hr
  · rename_i v1918
    have hy := impl_areFinite_1_tot v1918
    generalize impl_areFinite_1_v v1918 = y at hy hr
    simp only [Tree.run, Option.some.injEq, Prod.mk.injEq] at hr
    obtain ⟨rfl, rfl⟩ := hr
    exact call_ok0 hs (fun k => (([] : List AV)[k]?).getD .top) [.flt .f32 v1918] [.flt .f32 v1918] (fun F' h0 hi hρ => ⟨by simp [DVs.av, DV.av, BR.av, hρ], impl_areFinite_1_fn v1918 F' (by rw [hi]; rfl) (st_nil hi) ⟨trivial, trivial⟩ hy⟩) rfl
  · cases hr
/-! slices.IndexFunc[list of float32,float32] -/
noncomputable def slices_IndexFuncF_l0_T (v1916 : List Nat) (s : Int) : Tree ((Int) ⊕ ((Int) ⊕ (Unit))) :=
  (.br (decide (s < ((v1916.length : Nat) : Int))) (
   (.grd (inb s v1916.length) <|
   (.br (impl_areFinite_1_v (nth v1916 (Int.toNat s))) (
    .leaf (.inr (.inl s))
   ) (
    .leaf (.inl (IntKind.i64.wrap (s + (1 : Int))))
   )))
  ) (
   .leaf (.inr (.inr ()))
  ))

noncomputable def slices_IndexFuncF_l0_g (v1916 : List Nat) (s0 : Int) : Option ((Int) ⊕ (Unit)) := whileM (fun s => (slices_IndexFuncF_l0_T v1916 s).run) s0
def slices_IndexFuncF_l0_E (v1916 : List Nat) (s : Int) : Sd := ([.bslc (BR.root 0) (.f32 v1916), .fn 138 [], .top, .top, .top, .top, .top, .int .i64 ((v1916.length : Nat) : Int), .int .i64 s, .top, .top, .top, .top, .top, .top, .top, .top, .top, .top], [])
def slices_IndexFuncF_l0_X (v1916 : List Nat) (x : (Int) ⊕ (Unit)) : Out := (match x with | .inl x => (.ret, [.top, .top, .top, .top, .int .i64 x, .top, .top, .top, .top, .top, .top, .top, .top, .top, .top, .top, .top, .top, .top], []) | .inr x => (.normal, [.top, .top, .top, .top, .top, .top, .top, .top, .top, .top, .top, .top, .top, .top, .top, .top, .top, .top, .top], []))
def slices_IndexFuncF_l0_kill : List Nat := [0, 0, 1, 1, 1, 1, 1, 0, 0, 1, 1, 1, 1, 1, 1, 1, 1, 1, 1]
def slices_IndexFuncF_l0_nx : Exit → List Nat
  | .exit 0 => [1, 1, 1, 1, 1, 1, 1, 1, 1, 1, 1, 1, 1, 1, 1, 1, 1, 1, 1]
  | .ret => [1, 1, 1, 1, 0, 1, 1, 1, 1, 1, 1, 1, 1, 1, 1, 1, 1, 1, 1]
  | _ => []
noncomputable def slices_IndexFuncF_LO (v1916 : List Nat) : LOr := fun id e L =>
  match id with
  | 0 => .need (normA 0 slices_IndexFuncF_l0_kill e L = some (slices_IndexFuncF_l0_E v1916 (gI (vAt e 8)))) (.call (slices_IndexFuncF_l0_g v1916 (gI (vAt e 8))) fun x => .sum x (fun b0 => .leaf (slices_IndexFuncF_l0_X v1916 (.inl b0))) (fun c0 => .leaf (slices_IndexFuncF_l0_X v1916 (.inr c0))))
  | _ => .fail
noncomputable def slices_IndexFuncF_tab : List (FuncId × DFn × Bool) := [(138, impl_areFinite_1_F, true)]
theorem slices_IndexFuncF_hO : OrcOk Try.prog (tabD slices_IndexFuncF_tab) (tabM slices_IndexFuncF_tab) := tabD_cons impl_areFinite_1_Fok (tabD_nil _)
theorem slices_IndexFuncF_l0_be (v1916 : List Nat) (s : Int) : bodyT TT (tabD slices_IndexFuncF_tab) (tabM slices_IndexFuncF_tab) (slices_IndexFuncF_LO v1916) 0 slices_IndexFuncF_l0_kill slices_IndexFuncF_l0_nx (bodyOf Try.f168 0) 0 (slices_IndexFuncF_l0_E v1916 s) = (slices_IndexFuncF_l0_T v1916 s).bind fun y => .leaf (outS (slices_IndexFuncF_l0_E v1916) (slices_IndexFuncF_l0_X v1916) y) := by kernel_rfl
theorem slices_IndexFuncF_l0_ok (v1916 : List Nat) : LSound Try.prog 0 (slices_IndexFuncF_LO v1916) 0 (bodyOf Try.f168 0) := by
  intro e L out h
  exact lo_ok (E := slices_IndexFuncF_l0_E v1916) (gT := slices_IndexFuncF_l0_T v1916) (X := slices_IndexFuncF_l0_X v1916) (s0 := (gI (vAt e 8))) tok slices_IndexFuncF_hO mixed (LoopsOk_eq (l := []) (by kernel_rfl) trivial) (slices_IndexFuncF_l0_be v1916) rfl (by intro x; (cases x with | inl b => rfl | inr x => exact rfl)) h
noncomputable def slices_IndexFuncF_T (v1916 : List Nat) : Tree (Int) :=
  (.need (some (slices_IndexFuncF_l0_E v1916 (0 : Int)) = some (slices_IndexFuncF_l0_E v1916 (0 : Int))) <|
  (.call (slices_IndexFuncF_l0_g v1916 (0 : Int)) fun v1926 =>
  (.sum v1926 (fun v1927 =>
   .leaf v1927
  ) (fun v1928 =>
   .leaf (-1 : Int)
  ))))

noncomputable def slices_IndexFuncF_g (v1916 : List Nat) : Option (Int) := (slices_IndexFuncF_T v1916).run
def slices_IndexFuncF_enc (v1916 : List Nat) (y : Int) : Rs := (.int .i64 y, [])
theorem slices_IndexFuncF_den (v1916 : List Nat) : (den TT (tabD slices_IndexFuncF_tab) (tabM slices_IndexFuncF_tab) (slices_IndexFuncF_LO v1916) (codeOf Try.f168) ([.bslc (BR.root 0) (.f32 v1916), .fn 138 []] ++ List.replicate (Try.f168.ntmps - ([.bslc (BR.root 0) (.f32 v1916), .fn 138 []] : List DV).length) .undef) []).bind (retD TT Try.f168.results.toList 0) = (slices_IndexFuncF_T v1916).bind fun y => .leaf (slices_IndexFuncF_enc v1916 y) := by kernel_rfl
theorem slices_IndexFuncF_fn (v1916 : List Nat) (F : Fr) (hm : F.ids.length = 0) (h0 : St F [] F.H0) (hA : DVs.Ok F [] [.bslc (BR.root 0) (.f32 v1916), .fn 138 []]) {y : Int} (hy : slices_IndexFuncF_g v1916 = some y) : ∃ H', FnOk Try.prog 168 (DVs.av F [.bslc (BR.root 0) (.f32 v1916), .fn 138 []]) F.H0 ((slices_IndexFuncF_enc v1916 y).1.av F) H' ∧ St F (slices_IndexFuncF_enc v1916 y).2 H' ∧ (slices_IndexFuncF_enc v1916 y).1.Ok F (slices_IndexFuncF_enc v1916 y).2 :=
  fn_fin tok slices_IndexFuncF_hO mixed Try.func168 Try.call168 (by kernel_rfl) (LoopsOk_eq (l := [(0, bodyOf Try.f168 0)]) (by kernel_rfl) ⟨slices_IndexFuncF_l0_ok v1916, trivial⟩) (slices_IndexFuncF_den v1916) hy hm h0 hA
noncomputable def slices_IndexFuncF_F : DFn := fun args L =>
  match args with
  | [a1, .fn 138 []] =>
    optT (rowF32 L a1) fun v1916 =>
    .call (slices_IndexFuncF_g v1916) fun y => .leaf (.int .i64 y, L)
  | _ => .fail
theorem slices_IndexFuncF_Fok : COk Try.prog 168 slices_IndexFuncF_F true := by
  intro F L H args r L' hs ha hr
  unfold slices_IndexFuncF_F at hr
  split at hr
  · rename_i a1
    obtain ⟨v1916, hv1916, hr⟩ := optT_run hr
    simp only [Tree.run] at hr
    obtain ⟨y, hy, hr⟩ := Option.bind_eq_some_iff.1 hr
    simp only [Tree.run, Option.some.injEq, Prod.mk.injEq] at hr
    obtain ⟨rfl, rfl⟩ := hr
    exact call_ok0 hs (fun k => (([a1.av F] : List AV)[k]?).getD .top) [a1, .fn 138 []] [.bslc (BR.root 0) (.f32 v1916), .fn 138 []] (fun F' h0 hi hρ => ⟨by simp [DVs.av, DV.av, BR.av, hρ], slices_IndexFuncF_fn v1916 F' (by rw [hi]; rfl) (st_nil hi) ⟨bslc_ok hi (by rw [h0, hρ]; exact rowF32_ok hs (DVs.okAt ha 0 rfl) hv1916), trivial, trivial⟩ hy⟩) rfl
  · cases hr
/-! slices.ContainsFunc[list of float32,float32] -/
noncomputable def slices_ContainsFuncF_LO (v1915 : List Nat) : LOr := fun id e L =>
  match id with
  | _ => .fail
noncomputable def slices_ContainsFuncF_tab : List (FuncId × DFn × Bool) := [(168, slices_IndexFuncF_F, true)]
theorem slices_ContainsFuncF_hO : OrcOk Try.prog (tabD slices_ContainsFuncF_tab) (tabM slices_ContainsFuncF_tab) := tabD_cons slices_IndexFuncF_Fok (tabD_nil _)
noncomputable def slices_ContainsFuncF_T (v1915 : List Nat) : Tree (Bool) :=
  (.call (slices_IndexFuncF_g v1915) fun v1929 =>
  .leaf (decide ((0 : Int) ≤ v1929)))

noncomputable def slices_ContainsFuncF_g (v1915 : List Nat) : Option (Bool) := (slices_ContainsFuncF_T v1915).run
def slices_ContainsFuncF_enc (v1915 : List Nat) (y : Bool) : Rs := (.bool y, [])
theorem slices_ContainsFuncF_den (v1915 : List Nat) : (den TT (tabD slices_ContainsFuncF_tab) (tabM slices_ContainsFuncF_tab) (slices_ContainsFuncF_LO v1915) (codeOf Try.f137) ([.bslc (BR.root 0) (.f32 v1915), .fn 138 []] ++ List.replicate (Try.f137.ntmps - ([.bslc (BR.root 0) (.f32 v1915), .fn 138 []] : List DV).length) .undef) []).bind (retD TT Try.f137.results.toList 0) = (slices_ContainsFuncF_T v1915).bind fun y => .leaf (slices_ContainsFuncF_enc v1915 y) := by kernel_rfl
theorem slices_ContainsFuncF_fn (v1915 : List Nat) (F : Fr) (hm : F.ids.length = 0) (h0 : St F [] F.H0) (hA : DVs.Ok F [] [.bslc (BR.root 0) (.f32 v1915), .fn 138 []]) {y : Bool} (hy : slices_ContainsFuncF_g v1915 = some y) : ∃ H', FnOk Try.prog 137 (DVs.av F [.bslc (BR.root 0) (.f32 v1915), .fn 138 []]) F.H0 ((slices_ContainsFuncF_enc v1915 y).1.av F) H' ∧ St F (slices_ContainsFuncF_enc v1915 y).2 H' ∧ (slices_ContainsFuncF_enc v1915 y).1.Ok F (slices_ContainsFuncF_enc v1915 y).2 :=
  fn_fin tok slices_ContainsFuncF_hO mixed Try.func137 Try.call137 (by kernel_rfl) (LoopsOk_eq (l := []) (by kernel_rfl) trivial) (slices_ContainsFuncF_den v1915) hy hm h0 hA
noncomputable def slices_ContainsFuncF_F : DFn := fun args L =>
  match args with
  | [a1, .fn 138 []] =>
    optT (rowF32 L a1) fun v1915 =>
    .call (slices_ContainsFuncF_g v1915) fun y => .leaf (.bool y, L)
  | _ => .fail
theorem slices_ContainsFuncF_Fok : COk Try.prog 137 slices_ContainsFuncF_F true := by
  intro F L H args r L' hs ha hr
  unfold slices_ContainsFuncF_F at hr
  split at hr
  · rename_i a1
    obtain ⟨v1915, hv1915, hr⟩ := optT_run hr
    simp only [Tree.run] at hr
    obtain ⟨y, hy, hr⟩ := Option.bind_eq_some_iff.1 hr
    simp only [Tree.run, Option.some.injEq, Prod.mk.injEq] at hr
    obtain ⟨rfl, rfl⟩ := hr
    exact call_ok0 hs (fun k => (([a1.av F] : List AV)[k]?).getD .top) [a1, .fn 138 []] [.bslc (BR.root 0) (.f32 v1915), .fn 138 []] (fun F' h0 hi hρ => ⟨by simp [DVs.av, DV.av, BR.av, hρ], slices_ContainsFuncF_fn v1915 F' (by rw [hi]; rfl) (st_nil hi) ⟨bslc_ok hi (by rw [h0, hρ]; exact rowF32_ok hs (DVs.okAt ha 0 rfl) hv1915), trivial, trivial⟩ hy⟩) rfl
  · cases hr
/-! impl.areFinite -/
noncomputable def impl_areFinite_LO (v1914 : List Nat) : LOr := fun id e L =>
  match id with
  | _ => .fail
noncomputable def impl_areFinite_tab : List (FuncId × DFn × Bool) := [(137, slices_ContainsFuncF_F, true)]
theorem impl_areFinite_hO : OrcOk Try.prog (tabD impl_areFinite_tab) (tabM impl_areFinite_tab) := tabD_cons slices_ContainsFuncF_Fok (tabD_nil _)
noncomputable def impl_areFinite_T (v1914 : List Nat) : Tree (Bool) :=
  (.call (slices_ContainsFuncF_g v1914) fun v1930 =>
  .leaf (!v1930))

noncomputable def impl_areFinite_g (v1914 : List Nat) : Option (Bool) := (impl_areFinite_T v1914).run
def impl_areFinite_enc (v1914 : List Nat) (y : Bool) : Rs := (.bool y, [])
theorem impl_areFinite_den (v1914 : List Nat) : (den TT (tabD impl_areFinite_tab) (tabM impl_areFinite_tab) (impl_areFinite_LO v1914) (codeOf Try.f68) ([.bslc (BR.root 0) (.f32 v1914)] ++ List.replicate (Try.f68.ntmps - ([.bslc (BR.root 0) (.f32 v1914)] : List DV).length) .undef) []).bind (retD TT Try.f68.results.toList 0) = (impl_areFinite_T v1914).bind fun y => .leaf (impl_areFinite_enc v1914 y) := by kernel_rfl
theorem impl_areFinite_fn (v1914 : List Nat) (F : Fr) (hm : F.ids.length = 0) (h0 : St F [] F.H0) (hA : DVs.Ok F [] [.bslc (BR.root 0) (.f32 v1914)]) {y : Bool} (hy : impl_areFinite_g v1914 = some y) : ∃ H', FnOk Try.prog 68 (DVs.av F [.bslc (BR.root 0) (.f32 v1914)]) F.H0 ((impl_areFinite_enc v1914 y).1.av F) H' ∧ St F (impl_areFinite_enc v1914 y).2 H' ∧ (impl_areFinite_enc v1914 y).1.Ok F (impl_areFinite_enc v1914 y).2 :=
  fn_fin tok impl_areFinite_hO mixed Try.func68 Try.call68 (by kernel_rfl) (LoopsOk_eq (l := []) (by kernel_rfl) trivial) (impl_areFinite_den v1914) hy hm h0 hA
noncomputable def impl_areFinite_F : DFn := fun args L =>
  match args with
  | [a1] =>
    optT (rowF32 L a1) fun v1914 =>
    .call (impl_areFinite_g v1914) fun y => .leaf (.bool y, L)
  | _ => .fail
theorem impl_areFinite_Fok : COk Try.prog 68 impl_areFinite_F true := by
  intro F L H args r L' hs ha hr
  unfold impl_areFinite_F at hr
  split at hr
  · rename_i a1
    obtain ⟨v1914, hv1914, hr⟩ := optT_run hr
    simp only [Tree.run] at hr
    obtain ⟨y, hy, hr⟩ := Option.bind_eq_some_iff.1 hr
    simp only [Tree.run, Option.some.injEq, Prod.mk.injEq] at hr
    obtain ⟨rfl, rfl⟩ := hr
    exact call_ok0 hs (fun k => (([a1.av F] : List AV)[k]?).getD .top) [a1] [.bslc (BR.root 0) (.f32 v1914)] (fun F' h0 hi hρ => ⟨by simp [DVs.av, DV.av, BR.av, hρ], impl_areFinite_fn v1914 F' (by rw [hi]; rfl) (st_nil hi) ⟨bslc_ok hi (by rw [h0, hρ]; exact rowF32_ok hs (DVs.okAt ha 0 rfl) hv1914), trivial⟩ hy⟩) rfl
  · cases hr
/-! impl.IsVector -/
noncomputable def impl_IsVector_LO (v1909 : List Nat) : LOr := fun id e L =>
  match id with
  | _ => .fail
noncomputable def impl_IsVector_tab : List (FuncId × DFn × Bool) := [(112, impl_lengthF_F, true), (73, impl_inRange_F, true), (68, impl_areFinite_F, true)]
theorem impl_IsVector_hO : OrcOk Try.prog (tabD impl_IsVector_tab) (tabM impl_IsVector_tab) := tabD_cons impl_lengthF_Fok (tabD_cons impl_inRange_Fok (tabD_cons impl_areFinite_Fok (tabD_nil _)))
noncomputable def impl_IsVector_T (v1909 : List Nat) : Tree (Bool) :=
  (.br (impl_inRange_v (impl_lengthF_v v1909) (1 : Int) (256 : Int)) (
   (.call (impl_areFinite_g v1909) fun v1931 =>
   .leaf v1931)
  ) (
   .leaf false
  ))

noncomputable def impl_IsVector_g (v1909 : List Nat) : Option (Bool) := (impl_IsVector_T v1909).run
def impl_IsVector_enc (v1909 : List Nat) (y : Bool) : Rs := (.bool y, [])
theorem impl_IsVector_den (v1909 : List Nat) : (den TT (tabD impl_IsVector_tab) (tabM impl_IsVector_tab) (impl_IsVector_LO v1909) (codeOf Try.f111) ([.bslc (BR.root 0) (.f32 v1909)] ++ List.replicate (Try.f111.ntmps - ([.bslc (BR.root 0) (.f32 v1909)] : List DV).length) .undef) []).bind (retD TT Try.f111.results.toList 0) = (impl_IsVector_T v1909).bind fun y => .leaf (impl_IsVector_enc v1909 y) := by kernel_rfl
theorem impl_IsVector_fn (v1909 : List Nat) (F : Fr) (hm : F.ids.length = 0) (h0 : St F [] F.H0) (hA : DVs.Ok F [] [.bslc (BR.root 0) (.f32 v1909)]) {y : Bool} (hy : impl_IsVector_g v1909 = some y) : ∃ H', FnOk Try.prog 111 (DVs.av F [.bslc (BR.root 0) (.f32 v1909)]) F.H0 ((impl_IsVector_enc v1909 y).1.av F) H' ∧ St F (impl_IsVector_enc v1909 y).2 H' ∧ (impl_IsVector_enc v1909 y).1.Ok F (impl_IsVector_enc v1909 y).2 :=
  fn_fin tok impl_IsVector_hO mixed Try.func111 Try.call111 (by kernel_rfl) (LoopsOk_eq (l := []) (by kernel_rfl) trivial) (impl_IsVector_den v1909) hy hm h0 hA
noncomputable def impl_IsVector_F : DFn := fun args L =>
  match args with
  | [a1] =>
    optT (rowF32 L a1) fun v1909 =>
    .call (impl_IsVector_g v1909) fun y => .leaf (.bool y, L)
  | _ => .fail
theorem impl_IsVector_Fok : COk Try.prog 111 impl_IsVector_F true := by
  intro F L H args r L' hs ha hr
  unfold impl_IsVector_F at hr
  split at hr
  · rename_i a1
    obtain ⟨v1909, hv1909, hr⟩ := optT_run hr
    simp only [Tree.run] at hr
    obtain ⟨y, hy, hr⟩ := Option.bind_eq_some_iff.1 hr
    simp only [Tree.run, Option.some.injEq, Prod.mk.injEq] at hr
    obtain ⟨rfl, rfl⟩ := hr
    exact call_ok0 hs (fun k => (([a1.av F] : List AV)[k]?).getD .top) [a1] [.bslc (BR.root 0) (.f32 v1909)] (fun F' h0 hi hρ => ⟨by simp [DVs.av, DV.av, BR.av, hρ], impl_IsVector_fn v1909 F' (by rw [hi]; rfl) (st_nil hi) ⟨bslc_ok hi (by rw [h0, hρ]; exact rowF32_ok hs (DVs.okAt ha 0 rfl) hv1909), trivial⟩ hy⟩) rfl
  · cases hr
/-! impl.isSide -/
noncomputable def impl_isSide_LO (v1942 : Int) : LOr := fun id e L =>
  match id with
  | _ => .fail
noncomputable def impl_isSide_tab : List (FuncId × DFn × Bool) := [(73, impl_inRange_F, true)]
theorem impl_isSide_hO : OrcOk Try.prog (tabD impl_isSide_tab) (tabM impl_isSide_tab) := tabD_cons impl_inRange_Fok (tabD_nil _)
noncomputable def impl_isSide_T (v1942 : Int) : Tree (Bool) :=
  .leaf (impl_inRange_v v1942 (1 : Int) (12 : Int))

noncomputable def impl_isSide_g (v1942 : Int) : Option (Bool) := (impl_isSide_T v1942).run
def impl_isSide_enc (v1942 : Int) (y : Bool) : Rs := (.bool y, [])
theorem impl_isSide_den (v1942 : Int) : (den TT (tabD impl_isSide_tab) (tabM impl_isSide_tab) (impl_isSide_LO v1942) (codeOf Try.f77) ([.int .i64 v1942] ++ List.replicate (Try.f77.ntmps - ([.int .i64 v1942] : List DV).length) .undef) []).bind (retD TT Try.f77.results.toList 0) = (impl_isSide_T v1942).bind fun y => .leaf (impl_isSide_enc v1942 y) := by kernel_rfl
theorem impl_isSide_fn (v1942 : Int) (F : Fr) (hm : F.ids.length = 0) (h0 : St F [] F.H0) (hA : DVs.Ok F [] [.int .i64 v1942]) {y : Bool} (hy : impl_isSide_g v1942 = some y) : ∃ H', FnOk Try.prog 77 (DVs.av F [.int .i64 v1942]) F.H0 ((impl_isSide_enc v1942 y).1.av F) H' ∧ St F (impl_isSide_enc v1942 y).2 H' ∧ (impl_isSide_enc v1942 y).1.Ok F (impl_isSide_enc v1942 y).2 :=
  fn_fin tok impl_isSide_hO mixed Try.func77 Try.call77 (by kernel_rfl) (LoopsOk_eq (l := []) (by kernel_rfl) trivial) (impl_isSide_den v1942) hy hm h0 hA
def impl_isSide_v (v1942 : Int) : Bool :=
  (impl_inRange_v v1942 (1 : Int) (12 : Int))
theorem impl_isSide_tot (v1942 : Int) : impl_isSide_g v1942 = some (impl_isSide_v v1942) := by
  unfold impl_isSide_g impl_isSide_T impl_isSide_v
  simp only [Tree.run]
  repeat' (first | rfl | split)
noncomputable def impl_isSide_F : DFn := fun args L =>
  match args with
  | [.int .i64 v1942] =>
    .leaf (.bool (impl_isSide_v v1942), L)
  | _ => .fail
theorem impl_isSide_Fok : COk Try.prog 77 impl_isSide_F true := by
  intro F L H args r L' hs ha hr
  unfold impl_isSide_F at hr
  split at hr
  · rename_i v1942
    have hy := impl_isSide_tot v1942
    generalize impl_isSide_v v1942 = y at hy hr
    simp only [Tree.run, Option.some.injEq, Prod.mk.injEq] at hr
    obtain ⟨rfl, rfl⟩ := hr
    exact call_ok0 hs (fun k => (([] : List AV)[k]?).getD .top) [.int .i64 v1942] [.int .i64 v1942] (fun F' h0 hi hρ => ⟨by simp [DVs.av, DV.av, BR.av, hρ], impl_isSide_fn v1942 F' (by rw [hi]; rfl) (st_nil hi) ⟨trivial, trivial⟩ hy⟩) rfl
  · cases hr
end Go.Proofs.Ytooakheodgndaaa.AM
