/- Functions: what they come to. -/
import Derived.Test.YtooakheodgndaaaBase
set_option maxRecDepth 100000
set_option maxHeartbeats 4000000
set_option linter.unusedSimpArgs false
set_option linter.unusedVariables false
namespace Go.Proofs.Ytooakheodgndaaa.AM
open Go.Proofs
/-! laws.szFloat32S -/
noncomputable def laws_szFloat32S_LO (v9 : List Nat) (v10 : Int) : LOr := fun id e L =>
  match id with
  | _ => .fail
noncomputable def laws_szFloat32S_tab : List (FuncId × DFn × Bool) := []
theorem laws_szFloat32S_hO : OrcOk Try.prog (tabD laws_szFloat32S_tab) (tabM laws_szFloat32S_tab) := tabD_nil _
noncomputable def laws_szFloat32S_T (v9 : List Nat) (v10 : Int) : Tree (Int) :=
  (.br (decide (IntKind.i64.wrap (v10 - ((v9.length : Nat) : Int)) < (0 : Int))) (
   .leaf (-1 : Int)
  ) (
   .leaf (IntKind.i64.wrap (v10 - ((v9.length : Nat) : Int)))
  ))

noncomputable def laws_szFloat32S_g (v9 : List Nat) (v10 : Int) : Option (Int) := (laws_szFloat32S_T v9 v10).run
def laws_szFloat32S_enc (v9 : List Nat) (v10 : Int) (y : Int) : Rs := (.int .i64 y, [])
theorem laws_szFloat32S_den (v9 : List Nat) (v10 : Int) : (den TT (tabD laws_szFloat32S_tab) (tabM laws_szFloat32S_tab) (laws_szFloat32S_LO v9 v10) (codeOf Try.f56) ([.bslc (BR.root 0) (.f32 v9), .int .i64 v10] ++ List.replicate (Try.f56.ntmps - ([.bslc (BR.root 0) (.f32 v9), .int .i64 v10] : List DV).length) .undef) []).bind (retD TT Try.f56.results.toList 0) = (laws_szFloat32S_T v9 v10).bind fun y => .leaf (laws_szFloat32S_enc v9 v10 y) := by kernel_rfl
theorem laws_szFloat32S_fn (v9 : List Nat) (v10 : Int) (F : Fr) (hm : F.ids.length = 0) (h0 : St F [] F.H0) (hA : DVs.Ok F [] [.bslc (BR.root 0) (.f32 v9), .int .i64 v10]) {y : Int} (hy : laws_szFloat32S_g v9 v10 = some y) : ∃ H', FnOk Try.prog 56 (DVs.av F [.bslc (BR.root 0) (.f32 v9), .int .i64 v10]) F.H0 ((laws_szFloat32S_enc v9 v10 y).1.av F) H' ∧ St F (laws_szFloat32S_enc v9 v10 y).2 H' ∧ (laws_szFloat32S_enc v9 v10 y).1.Ok F (laws_szFloat32S_enc v9 v10 y).2 :=
  fn_fin tok laws_szFloat32S_hO mixed Try.func56 Try.call56 (by kernel_rfl) (LoopsOk_eq (l := []) (by kernel_rfl) trivial) (laws_szFloat32S_den v9 v10) hy hm h0 hA
def laws_szFloat32S_v (v9 : List Nat) (v10 : Int) : Int :=
  if (decide (IntKind.i64.wrap (v10 - ((v9.length : Nat) : Int)) < (0 : Int))) = true then (
   (-1 : Int)
  ) else (
   IntKind.i64.wrap (v10 - ((v9.length : Nat) : Int))
  )
theorem laws_szFloat32S_tot (v9 : List Nat) (v10 : Int) : laws_szFloat32S_g v9 v10 = some (laws_szFloat32S_v v9 v10) := by
  unfold laws_szFloat32S_g laws_szFloat32S_T laws_szFloat32S_v
  simp only [Tree.run]
  repeat' (first | rfl | split)
noncomputable def laws_szFloat32S_F : DFn := fun args L =>
  match args with
  | [a1, .int .i64 v10] =>
    optT (rowF32 L a1) fun v9 =>
    .leaf (.int .i64 (laws_szFloat32S_v v9 v10), L)
  | _ => .fail
theorem laws_szFloat32S_Fok : COk Try.prog 56 laws_szFloat32S_F true := by
  intro F L H args r L' hs ha hr
  unfold laws_szFloat32S_F at hr
  split at hr
  · rename_i a1 v10
    obtain ⟨v9, hv9, hr⟩ := optT_run hr
    have hy := laws_szFloat32S_tot v9 v10
    generalize laws_szFloat32S_v v9 v10 = y at hy hr
    simp only [Tree.run, Option.some.injEq, Prod.mk.injEq] at hr
    obtain ⟨rfl, rfl⟩ := hr
    exact call_ok0 hs (fun k => (([a1.av F] : List AV)[k]?).getD .top) [a1, .int .i64 v10] [.bslc (BR.root 0) (.f32 v9), .int .i64 v10] (fun F' h0 hi hρ => ⟨by simp [DVs.av, DV.av, BR.av, hρ], laws_szFloat32S_fn v9 v10 F' (by rw [hi]; rfl) (st_nil hi) ⟨bslc_ok hi (by rw [h0, hρ]; exact rowF32_ok hs (DVs.okAt ha 0 rfl) hv9), trivial, trivial⟩ hy⟩) rfl
  · cases hr
/-! laws.szMatrix -/
noncomputable def laws_szMatrix_LO (v5 : Int) (v6 : Int) (v7 : List Nat) (v8 : Int) : LOr := fun id e L =>
  match id with
  | _ => .fail
noncomputable def laws_szMatrix_tab : List (FuncId × DFn × Bool) := [(56, laws_szFloat32S_F, true)]
theorem laws_szMatrix_hO : OrcOk Try.prog (tabD laws_szMatrix_tab) (tabM laws_szMatrix_tab) := tabD_cons laws_szFloat32S_Fok (tabD_nil _)
noncomputable def laws_szMatrix_T (v7 : List Nat) (v8 : Int) : Tree (Int) :=
  (.br (decide ((laws_szFloat32S_v v7 v8) < (0 : Int))) (
   .leaf (-1 : Int)
  ) (
   .leaf (laws_szFloat32S_v v7 v8)
  ))

noncomputable def laws_szMatrix_g (v7 : List Nat) (v8 : Int) : Option (Int) := (laws_szMatrix_T v7 v8).run
def laws_szMatrix_enc (v5 : Int) (v6 : Int) (v7 : List Nat) (v8 : Int) (y : Int) : Rs := (.int .i64 y, [])
theorem laws_szMatrix_den (v5 : Int) (v6 : Int) (v7 : List Nat) (v8 : Int) : (den TT (tabD laws_szMatrix_tab) (tabM laws_szMatrix_tab) (laws_szMatrix_LO v5 v6 v7 v8) (codeOf Try.f15) ([.agg [.int .i64 v5, .int .i64 v6, .bslc (BR.root 0) (.f32 v7)], .int .i64 v8] ++ List.replicate (Try.f15.ntmps - ([.agg [.int .i64 v5, .int .i64 v6, .bslc (BR.root 0) (.f32 v7)], .int .i64 v8] : List DV).length) .undef) []).bind (retD TT Try.f15.results.toList 0) = (laws_szMatrix_T v7 v8).bind fun y => .leaf (laws_szMatrix_enc v5 v6 v7 v8 y) := by kernel_rfl
theorem laws_szMatrix_fn (v5 : Int) (v6 : Int) (v7 : List Nat) (v8 : Int) (F : Fr) (hm : F.ids.length = 0) (h0 : St F [] F.H0) (hA : DVs.Ok F [] [.agg [.int .i64 v5, .int .i64 v6, .bslc (BR.root 0) (.f32 v7)], .int .i64 v8]) {y : Int} (hy : laws_szMatrix_g v7 v8 = some y) : ∃ H', FnOk Try.prog 15 (DVs.av F [.agg [.int .i64 v5, .int .i64 v6, .bslc (BR.root 0) (.f32 v7)], .int .i64 v8]) F.H0 ((laws_szMatrix_enc v5 v6 v7 v8 y).1.av F) H' ∧ St F (laws_szMatrix_enc v5 v6 v7 v8 y).2 H' ∧ (laws_szMatrix_enc v5 v6 v7 v8 y).1.Ok F (laws_szMatrix_enc v5 v6 v7 v8 y).2 :=
  fn_fin tok laws_szMatrix_hO mixed Try.func15 Try.call15 (by kernel_rfl) (LoopsOk_eq (l := []) (by kernel_rfl) trivial) (laws_szMatrix_den v5 v6 v7 v8) hy hm h0 hA
def laws_szMatrix_v (v7 : List Nat) (v8 : Int) : Int :=
  if (decide ((laws_szFloat32S_v v7 v8) < (0 : Int))) = true then (
   (-1 : Int)
  ) else (
   (laws_szFloat32S_v v7 v8)
  )
theorem laws_szMatrix_tot (v7 : List Nat) (v8 : Int) : laws_szMatrix_g v7 v8 = some (laws_szMatrix_v v7 v8) := by
  unfold laws_szMatrix_g laws_szMatrix_T laws_szMatrix_v
  simp only [Tree.run]
  repeat' (first | rfl | split)
noncomputable def laws_szMatrix_F : DFn := fun args L =>
  match args with
  | [.agg [.int .i64 v5, .int .i64 v6, a1], .int .i64 v8] =>
    optT (rowF32 L a1) fun v7 =>
    .leaf (.int .i64 (laws_szMatrix_v v7 v8), L)
  | _ => .fail
theorem laws_szMatrix_Fok : COk Try.prog 15 laws_szMatrix_F true := by
  intro F L H args r L' hs ha hr
  unfold laws_szMatrix_F at hr
  split at hr
  · rename_i v5 v6 a1 v8
    obtain ⟨v7, hv7, hr⟩ := optT_run hr
    have hy := laws_szMatrix_tot v7 v8
    generalize laws_szMatrix_v v7 v8 = y at hy hr
    simp only [Tree.run, Option.some.injEq, Prod.mk.injEq] at hr
    obtain ⟨rfl, rfl⟩ := hr
    exact call_ok0 hs (fun k => (([a1.av F] : List AV)[k]?).getD .top) [.agg [.int .i64 v5, .int .i64 v6, a1], .int .i64 v8] [.agg [.int .i64 v5, .int .i64 v6, .bslc (BR.root 0) (.f32 v7)], .int .i64 v8] (fun F' h0 hi hρ => ⟨by simp [DVs.av, DV.av, BR.av, hρ], laws_szMatrix_fn v5 v6 v7 v8 F' (by rw [hi]; rfl) (st_nil hi) ⟨⟨trivial, trivial, bslc_ok hi (by rw [h0, hρ]; exact rowF32_ok hs (DVs.okAt (DVs.okAt ha 0 rfl) 2 rfl) hv7), trivial⟩, trivial, trivial⟩ hy⟩) rfl
  · cases hr
/-! laws.toFloat32S -/
noncomputable def laws_toFloat32S_l0_T (v14 : List Nat) (s : Int × (List Nat)) : Tree ((Int × (List Nat)) ⊕ ((List Nat))) :=
  (.br (decide (s.1 < ((v14.length : Nat) : Int))) (
   (.grd (inb s.1 v14.length) <|
   (.grd (inb s.1 ((s.2).length)) <|
   .leaf (.inl (IntKind.i64.wrap (s.1 + (1 : Int)), List.set s.2 (Int.toNat s.1) (nth v14 (Int.toNat s.1))))))
  ) (
   .leaf (.inr s.2)
  ))

noncomputable def laws_toFloat32S_l0_g (v14 : List Nat) (s0 : Int × (List Nat)) : Option ((List Nat)) := whileM (fun s => (laws_toFloat32S_l0_T v14 s).run) s0
def laws_toFloat32S_l0_E (v14 : List Nat) (s : Int × (List Nat)) : Sd := ([.bslc (BR.root 0) (.f32 v14), .top, .top, .own 0 0 ((s.2).length), .int .i64 s.1, .top, .top, .top, .top, .top, .top, .top, .top, .top, .top, .top, .top, .top, .top, .top, .top, .top], [.row (.f32 s.2) 0])
def laws_toFloat32S_l0_X (v14 : List Nat) (x : (List Nat)) : Out := (.normal, [.top, .top, .top, .own 0 0 ((x).length), .top, .top, .top, .top, .top, .top, .top, .top, .top, .top, .top, .top, .top, .top, .top, .top, .top, .top], [.row (.f32 x) 0])
def laws_toFloat32S_l0_kill : List Nat := [0, 1, 1, 0, 0, 1, 1, 1, 1, 1, 1, 1, 1, 1, 1, 1, 1, 1, 1, 1, 1, 1]
def laws_toFloat32S_l0_nx : Exit → List Nat
  | .exit 0 => [1, 1, 1, 0, 1, 1, 1, 1, 1, 1, 1, 1, 1, 1, 1, 1, 1, 1, 1, 1, 1, 1]
  | .ret => [1, 1, 0, 1, 1, 1, 1, 1, 1, 1, 1, 1, 1, 1, 1, 1, 1, 1, 1, 1, 1, 1]
  | _ => []
noncomputable def laws_toFloat32S_LO (v14 : List Nat) : LOr := fun id e L =>
  match id with
  | 0 => .need (normA 0 laws_toFloat32S_l0_kill e L = some (laws_toFloat32S_l0_E v14 ((gI (vAt e 4)), (gRF L (vAt e 3))))) (.call (laws_toFloat32S_l0_g v14 ((gI (vAt e 4)), (gRF L (vAt e 3)))) fun x => .leaf (laws_toFloat32S_l0_X v14 x))
  | _ => .fail
noncomputable def laws_toFloat32S_tab : List (FuncId × DFn × Bool) := []
theorem laws_toFloat32S_hO : OrcOk Try.prog (tabD laws_toFloat32S_tab) (tabM laws_toFloat32S_tab) := tabD_nil _
theorem laws_toFloat32S_l0_be (v14 : List Nat) (s : Int × (List Nat)) : bodyT TT (tabD laws_toFloat32S_tab) (tabM laws_toFloat32S_tab) (laws_toFloat32S_LO v14) 0 laws_toFloat32S_l0_kill laws_toFloat32S_l0_nx (bodyOf Try.f33 0) 0 (laws_toFloat32S_l0_E v14 s) = (laws_toFloat32S_l0_T v14 s).bind fun y => .leaf (outS (laws_toFloat32S_l0_E v14) (laws_toFloat32S_l0_X v14) y) := by kernel_rfl
theorem laws_toFloat32S_l0_ok (v14 : List Nat) : LSound Try.prog 0 (laws_toFloat32S_LO v14) 0 (bodyOf Try.f33 0) := by
  intro e L out h
  exact lo_ok (E := laws_toFloat32S_l0_E v14) (gT := laws_toFloat32S_l0_T v14) (X := laws_toFloat32S_l0_X v14) (s0 := ((gI (vAt e 4)), (gRF L (vAt e 3)))) tok laws_toFloat32S_hO mixed (LoopsOk_eq (l := []) (by kernel_rfl) trivial) (laws_toFloat32S_l0_be v14) rfl (by intro x; rfl) h
noncomputable def laws_toFloat32S_T (v14 : List Nat) : Tree ((List Nat)) :=
  (.need (((v14.length : Nat) : Int) = ((v14.length : Nat) : Int)) <|
  (.grd (inb ((v14.length : Nat) : Int) (maxN + 1)) <|
  (.need (some (laws_toFloat32S_l0_E v14 ((0 : Int), List.replicate (Int.toNat ((v14.length : Nat) : Int)) (0 : Nat))) = some (laws_toFloat32S_l0_E v14 ((0 : Int), List.replicate (Int.toNat ((v14.length : Nat) : Int)) (0 : Nat)))) <|
  (.call (laws_toFloat32S_l0_g v14 ((0 : Int), List.replicate (Int.toNat ((v14.length : Nat) : Int)) (0 : Nat))) fun v20 =>
  .leaf v20))))

noncomputable def laws_toFloat32S_g (v14 : List Nat) : Option ((List Nat)) := (laws_toFloat32S_T v14).run
def laws_toFloat32S_enc (v14 : List Nat) (y : (List Nat)) : Rs := (.own 0 0 ((y).length), [.row (.f32 y) 0])
theorem laws_toFloat32S_den (v14 : List Nat) : (den TT (tabD laws_toFloat32S_tab) (tabM laws_toFloat32S_tab) (laws_toFloat32S_LO v14) (codeOf Try.f33) ([.bslc (BR.root 0) (.f32 v14)] ++ List.replicate (Try.f33.ntmps - ([.bslc (BR.root 0) (.f32 v14)] : List DV).length) .undef) []).bind (retD TT Try.f33.results.toList 0) = (laws_toFloat32S_T v14).bind fun y => .leaf (laws_toFloat32S_enc v14 y) := by kernel_rfl
theorem laws_toFloat32S_fn (v14 : List Nat) (F : Fr) (hm : F.ids.length = 0) (h0 : St F [] F.H0) (hA : DVs.Ok F [] [.bslc (BR.root 0) (.f32 v14)]) {y : (List Nat)} (hy : laws_toFloat32S_g v14 = some y) : ∃ H', FnOk Try.prog 33 (DVs.av F [.bslc (BR.root 0) (.f32 v14)]) F.H0 ((laws_toFloat32S_enc v14 y).1.av F) H' ∧ St F (laws_toFloat32S_enc v14 y).2 H' ∧ (laws_toFloat32S_enc v14 y).1.Ok F (laws_toFloat32S_enc v14 y).2 :=
  fn_fin tok laws_toFloat32S_hO mixed Try.func33 Try.call33 (by kernel_rfl) (LoopsOk_eq (l := [(0, bodyOf Try.f33 0)]) (by kernel_rfl) ⟨laws_toFloat32S_l0_ok v14, trivial⟩) (laws_toFloat32S_den v14) hy hm h0 hA
noncomputable def laws_toFloat32S_F : DFn := fun args L =>
  match args with
  | [a1] =>
    optT (rowF32 L a1) fun v14 =>
    .call (laws_toFloat32S_g v14) fun y => .leaf (.own (L.length + 0) 0 ((y).length), L ++ [.row (.f32 y) 0])
  | _ => .fail
theorem laws_toFloat32S_Fok : COk Try.prog 33 laws_toFloat32S_F true := by
  intro F L H args r L' hs ha hr
  unfold laws_toFloat32S_F at hr
  split at hr
  · rename_i a1
    obtain ⟨v14, hv14, hr⟩ := optT_run hr
    simp only [Tree.run] at hr
    obtain ⟨y, hy, hr⟩ := Option.bind_eq_some_iff.1 hr
    simp only [Tree.run, Option.some.injEq, Prod.mk.injEq] at hr
    obtain ⟨rfl, rfl⟩ := hr
    exact call_ok1 hs (fun k => (([a1.av F] : List AV)[k]?).getD .top) [a1] [.bslc (BR.root 0) (.f32 v14)] (fun F' h0 hi hρ => ⟨by simp [DVs.av, DV.av, BR.av, hρ], laws_toFloat32S_fn v14 F' (by rw [hi]; rfl) (st_nil hi) ⟨bslc_ok hi (by rw [h0, hρ]; exact rowF32_ok hs (DVs.okAt ha 0 rfl) hv14), trivial⟩ hy⟩) rfl rfl
  · cases hr
/-! laws.toMatrix -/
noncomputable def laws_toMatrix_LO (v11 : Int) (v12 : Int) (v13 : List Nat) : LOr := fun id e L =>
  match id with
  | _ => .fail
noncomputable def laws_toMatrix_tab : List (FuncId × DFn × Bool) := [(33, laws_toFloat32S_F, true)]
theorem laws_toMatrix_hO : OrcOk Try.prog (tabD laws_toMatrix_tab) (tabM laws_toMatrix_tab) := tabD_cons laws_toFloat32S_Fok (tabD_nil _)
noncomputable def laws_toMatrix_T (v11 : Int) (v12 : Int) (v13 : List Nat) : Tree (Int × Int × (List Nat)) :=
  (.call (laws_toFloat32S_g v13) fun v21 =>
  .leaf (v11, v12, v21))

noncomputable def laws_toMatrix_g (v11 : Int) (v12 : Int) (v13 : List Nat) : Option (Int × Int × (List Nat)) := (laws_toMatrix_T v11 v12 v13).run
def laws_toMatrix_enc (v11 : Int) (v12 : Int) (v13 : List Nat) (y : Int × Int × (List Nat)) : Rs := (.agg [.int .i64 y.1, .int .i64 y.2.1, .own 0 0 ((y.2.2).length)], [.row (.f32 y.2.2) 0])
theorem laws_toMatrix_den (v11 : Int) (v12 : Int) (v13 : List Nat) : (den TT (tabD laws_toMatrix_tab) (tabM laws_toMatrix_tab) (laws_toMatrix_LO v11 v12 v13) (codeOf Try.f17) ([.agg [.int .i64 v11, .int .i64 v12, .bslc (BR.root 0) (.f32 v13)]] ++ List.replicate (Try.f17.ntmps - ([.agg [.int .i64 v11, .int .i64 v12, .bslc (BR.root 0) (.f32 v13)]] : List DV).length) .undef) []).bind (retD TT Try.f17.results.toList 0) = (laws_toMatrix_T v11 v12 v13).bind fun y => .leaf (laws_toMatrix_enc v11 v12 v13 y) := by kernel_rfl
theorem laws_toMatrix_fn (v11 : Int) (v12 : Int) (v13 : List Nat) (F : Fr) (hm : F.ids.length = 0) (h0 : St F [] F.H0) (hA : DVs.Ok F [] [.agg [.int .i64 v11, .int .i64 v12, .bslc (BR.root 0) (.f32 v13)]]) {y : Int × Int × (List Nat)} (hy : laws_toMatrix_g v11 v12 v13 = some y) : ∃ H', FnOk Try.prog 17 (DVs.av F [.agg [.int .i64 v11, .int .i64 v12, .bslc (BR.root 0) (.f32 v13)]]) F.H0 ((laws_toMatrix_enc v11 v12 v13 y).1.av F) H' ∧ St F (laws_toMatrix_enc v11 v12 v13 y).2 H' ∧ (laws_toMatrix_enc v11 v12 v13 y).1.Ok F (laws_toMatrix_enc v11 v12 v13 y).2 :=
  fn_fin tok laws_toMatrix_hO mixed Try.func17 Try.call17 (by kernel_rfl) (LoopsOk_eq (l := []) (by kernel_rfl) trivial) (laws_toMatrix_den v11 v12 v13) hy hm h0 hA
noncomputable def laws_toMatrix_F : DFn := fun args L =>
  match args with
  | [.agg [.int .i64 v11, .int .i64 v12, a1]] =>
    optT (rowF32 L a1) fun v13 =>
    .call (laws_toMatrix_g v11 v12 v13) fun y => .leaf (.agg [.int .i64 y.1, .int .i64 y.2.1, .own (L.length + 0) 0 ((y.2.2).length)], L ++ [.row (.f32 y.2.2) 0])
  | _ => .fail
theorem laws_toMatrix_Fok : COk Try.prog 17 laws_toMatrix_F true := by
  intro F L H args r L' hs ha hr
  unfold laws_toMatrix_F at hr
  split at hr
  · rename_i v11 v12 a1
    obtain ⟨v13, hv13, hr⟩ := optT_run hr
    simp only [Tree.run] at hr
    obtain ⟨y, hy, hr⟩ := Option.bind_eq_some_iff.1 hr
    simp only [Tree.run, Option.some.injEq, Prod.mk.injEq] at hr
    obtain ⟨rfl, rfl⟩ := hr
    exact call_ok1 hs (fun k => (([a1.av F] : List AV)[k]?).getD .top) [.agg [.int .i64 v11, .int .i64 v12, a1]] [.agg [.int .i64 v11, .int .i64 v12, .bslc (BR.root 0) (.f32 v13)]] (fun F' h0 hi hρ => ⟨by simp [DVs.av, DV.av, BR.av, hρ], laws_toMatrix_fn v11 v12 v13 F' (by rw [hi]; rfl) (st_nil hi) ⟨⟨trivial, trivial, bslc_ok hi (by rw [h0, hρ]; exact rowF32_ok hs (DVs.okAt (DVs.okAt ha 0 rfl) 2 rfl) hv13), trivial⟩, trivial⟩ hy⟩) rfl rfl
  · cases hr
/-! spec.l00In -/
noncomputable def spec_l00In_LO (v35 : Int) (v36 : Int) (v37 : Int) : LOr := fun id e L =>
  match id with
  | _ => .fail
noncomputable def spec_l00In_tab : List (FuncId × DFn × Bool) := []
theorem spec_l00In_hO : OrcOk Try.prog (tabD spec_l00In_tab) (tabM spec_l00In_tab) := tabD_nil _
noncomputable def spec_l00In_T (v35 : Int) (v36 : Int) (v37 : Int) : Tree (Bool) :=
  (.br (decide (v36 ≤ v35)) (
   .leaf (decide (v35 ≤ v37))
  ) (
   .leaf false
  ))

noncomputable def spec_l00In_g (v35 : Int) (v36 : Int) (v37 : Int) : Option (Bool) := (spec_l00In_T v35 v36 v37).run
def spec_l00In_enc (v35 : Int) (v36 : Int) (v37 : Int) (y : Bool) : Rs := (.bool y, [])
theorem spec_l00In_den (v35 : Int) (v36 : Int) (v37 : Int) : (den TT (tabD spec_l00In_tab) (tabM spec_l00In_tab) (spec_l00In_LO v35 v36 v37) (codeOf Try.f70) ([.int .i64 v35, .int .i64 v36, .int .i64 v37] ++ List.replicate (Try.f70.ntmps - ([.int .i64 v35, .int .i64 v36, .int .i64 v37] : List DV).length) .undef) []).bind (retD TT Try.f70.results.toList 0) = (spec_l00In_T v35 v36 v37).bind fun y => .leaf (spec_l00In_enc v35 v36 v37 y) := by kernel_rfl
theorem spec_l00In_fn (v35 : Int) (v36 : Int) (v37 : Int) (F : Fr) (hm : F.ids.length = 0) (h0 : St F [] F.H0) (hA : DVs.Ok F [] [.int .i64 v35, .int .i64 v36, .int .i64 v37]) {y : Bool} (hy : spec_l00In_g v35 v36 v37 = some y) : ∃ H', FnOk Try.prog 70 (DVs.av F [.int .i64 v35, .int .i64 v36, .int .i64 v37]) F.H0 ((spec_l00In_enc v35 v36 v37 y).1.av F) H' ∧ St F (spec_l00In_enc v35 v36 v37 y).2 H' ∧ (spec_l00In_enc v35 v36 v37 y).1.Ok F (spec_l00In_enc v35 v36 v37 y).2 :=
  fn_fin tok spec_l00In_hO mixed Try.func70 Try.call70 (by kernel_rfl) (LoopsOk_eq (l := []) (by kernel_rfl) trivial) (spec_l00In_den v35 v36 v37) hy hm h0 hA
def spec_l00In_v (v35 : Int) (v36 : Int) (v37 : Int) : Bool :=
  if (decide (v36 ≤ v35)) = true then (
   decide (v35 ≤ v37)
  ) else (
   false
  )
theorem spec_l00In_tot (v35 : Int) (v36 : Int) (v37 : Int) : spec_l00In_g v35 v36 v37 = some (spec_l00In_v v35 v36 v37) := by
  unfold spec_l00In_g spec_l00In_T spec_l00In_v
  simp only [Tree.run]
  repeat' (first | rfl | split)
noncomputable def spec_l00In_F : DFn := fun args L =>
  match args with
  | [.int .i64 v35, .int .i64 v36, .int .i64 v37] =>
    .leaf (.bool (spec_l00In_v v35 v36 v37), L)
  | _ => .fail
theorem spec_l00In_Fok : COk Try.prog 70 spec_l00In_F true := by
  intro F L H args r L' hs ha hr
  unfold spec_l00In_F at hr
  split at hr
  · rename_i v35 v36 v37
    have hy := spec_l00In_tot v35 v36 v37
    generalize spec_l00In_v v35 v36 v37 = y at hy hr
    simp only [Tree.run, Option.some.injEq, Prod.mk.injEq] at hr
    obtain ⟨rfl, rfl⟩ := hr
    exact call_ok0 hs (fun k => (([] : List AV)[k]?).getD .top) [.int .i64 v35, .int .i64 v36, .int .i64 v37] [.int .i64 v35, .int .i64 v36, .int .i64 v37] (fun F' h0 hi hρ => ⟨by simp [DVs.av, DV.av, BR.av, hρ], spec_l00In_fn v35 v36 v37 F' (by rw [hi]; rfl) (st_nil hi) ⟨trivial, trivial, trivial, trivial⟩ hy⟩) rfl
  · cases hr
/-! spec.l02Sides -/
noncomputable def spec_l02Sides_LO (v33 : Int) (v34 : Int) : LOr := fun id e L =>
  match id with
  | _ => .fail
noncomputable def spec_l02Sides_tab : List (FuncId × DFn × Bool) := [(70, spec_l00In_F, true)]
theorem spec_l02Sides_hO : OrcOk Try.prog (tabD spec_l02Sides_tab) (tabM spec_l02Sides_tab) := tabD_cons spec_l00In_Fok (tabD_nil _)
noncomputable def spec_l02Sides_T (v33 : Int) (v34 : Int) : Tree (Bool) :=
  (.br (spec_l00In_v v33 (1 : Int) (12 : Int)) (
   .leaf (spec_l00In_v v34 (1 : Int) (12 : Int))
  ) (
   .leaf false
  ))

noncomputable def spec_l02Sides_g (v33 : Int) (v34 : Int) : Option (Bool) := (spec_l02Sides_T v33 v34).run
def spec_l02Sides_enc (v33 : Int) (v34 : Int) (y : Bool) : Rs := (.bool y, [])
theorem spec_l02Sides_den (v33 : Int) (v34 : Int) : (den TT (tabD spec_l02Sides_tab) (tabM spec_l02Sides_tab) (spec_l02Sides_LO v33 v34) (codeOf Try.f134) ([.int .i64 v33, .int .i64 v34] ++ List.replicate (Try.f134.ntmps - ([.int .i64 v33, .int .i64 v34] : List DV).length) .undef) []).bind (retD TT Try.f134.results.toList 0) = (spec_l02Sides_T v33 v34).bind fun y => .leaf (spec_l02Sides_enc v33 v34 y) := by kernel_rfl
theorem spec_l02Sides_fn (v33 : Int) (v34 : Int) (F : Fr) (hm : F.ids.length = 0) (h0 : St F [] F.H0) (hA : DVs.Ok F [] [.int .i64 v33, .int .i64 v34]) {y : Bool} (hy : spec_l02Sides_g v33 v34 = some y) : ∃ H', FnOk Try.prog 134 (DVs.av F [.int .i64 v33, .int .i64 v34]) F.H0 ((spec_l02Sides_enc v33 v34 y).1.av F) H' ∧ St F (spec_l02Sides_enc v33 v34 y).2 H' ∧ (spec_l02Sides_enc v33 v34 y).1.Ok F (spec_l02Sides_enc v33 v34 y).2 :=
  fn_fin tok spec_l02Sides_hO mixed Try.func134 Try.call134 (by kernel_rfl) (LoopsOk_eq (l := []) (by kernel_rfl) trivial) (spec_l02Sides_den v33 v34) hy hm h0 hA
def spec_l02Sides_v (v33 : Int) (v34 : Int) : Bool :=
  if (spec_l00In_v v33 (1 : Int) (12 : Int)) = true then (
   (spec_l00In_v v34 (1 : Int) (12 : Int))
  ) else (
   false
  )
theorem spec_l02Sides_tot (v33 : Int) (v34 : Int) : spec_l02Sides_g v33 v34 = some (spec_l02Sides_v v33 v34) := by
  unfold spec_l02Sides_g spec_l02Sides_T spec_l02Sides_v
  simp only [Tree.run]
  repeat' (first | rfl | split)
noncomputable def spec_l02Sides_F : DFn := fun args L =>
  match args with
  | [.int .i64 v33, .int .i64 v34] =>
    .leaf (.bool (spec_l02Sides_v v33 v34), L)
  | _ => .fail
theorem spec_l02Sides_Fok : COk Try.prog 134 spec_l02Sides_F true := by
  intro F L H args r L' hs ha hr
  unfold spec_l02Sides_F at hr
  split at hr
  · rename_i v33 v34
    have hy := spec_l02Sides_tot v33 v34
    generalize spec_l02Sides_v v33 v34 = y at hy hr
    simp only [Tree.run, Option.some.injEq, Prod.mk.injEq] at hr
    obtain ⟨rfl, rfl⟩ := hr
    exact call_ok0 hs (fun k => (([] : List AV)[k]?).getD .top) [.int .i64 v33, .int .i64 v34] [.int .i64 v33, .int .i64 v34] (fun F' h0 hi hρ => ⟨by simp [DVs.av, DV.av, BR.av, hρ], spec_l02Sides_fn v33 v34 F' (by rw [hi]; rfl) (st_nil hi) ⟨trivial, trivial, trivial⟩ hy⟩) rfl
  · cases hr
/-! spec.l01Finite -/
noncomputable def spec_l01Finite_LO (v40 : Nat) : LOr := fun id e L =>
  match id with
  | _ => .fail
noncomputable def spec_l01Finite_tab : List (FuncId × DFn × Bool) := []
theorem spec_l01Finite_hO : OrcOk Try.prog (tabD spec_l01Finite_tab) (tabM spec_l01Finite_tab) := tabD_nil _
noncomputable def spec_l01Finite_T (v40 : Nat) : Tree (Bool) :=
  .leaf (feq .f32 (fsub .f32 v40 v40) (0 : Nat))

noncomputable def spec_l01Finite_g (v40 : Nat) : Option (Bool) := (spec_l01Finite_T v40).run
def spec_l01Finite_enc (v40 : Nat) (y : Bool) : Rs := (.bool y, [])
theorem spec_l01Finite_den (v40 : Nat) : (den TT (tabD spec_l01Finite_tab) (tabM spec_l01Finite_tab) (spec_l01Finite_LO v40) (codeOf Try.f60) ([.flt .f32 v40] ++ List.replicate (Try.f60.ntmps - ([.flt .f32 v40] : List DV).length) .undef) []).bind (retD TT Try.f60.results.toList 0) = (spec_l01Finite_T v40).bind fun y => .leaf (spec_l01Finite_enc v40 y) := by kernel_rfl
theorem spec_l01Finite_fn (v40 : Nat) (F : Fr) (hm : F.ids.length = 0) (h0 : St F [] F.H0) (hA : DVs.Ok F [] [.flt .f32 v40]) {y : Bool} (hy : spec_l01Finite_g v40 = some y) : ∃ H', FnOk Try.prog 60 (DVs.av F [.flt .f32 v40]) F.H0 ((spec_l01Finite_enc v40 y).1.av F) H' ∧ St F (spec_l01Finite_enc v40 y).2 H' ∧ (spec_l01Finite_enc v40 y).1.Ok F (spec_l01Finite_enc v40 y).2 :=
  fn_fin tok spec_l01Finite_hO mixed Try.func60 Try.call60 (by kernel_rfl) (LoopsOk_eq (l := []) (by kernel_rfl) trivial) (spec_l01Finite_den v40) hy hm h0 hA
def spec_l01Finite_v (v40 : Nat) : Bool :=
  feq .f32 (fsub .f32 v40 v40) (0 : Nat)
theorem spec_l01Finite_tot (v40 : Nat) : spec_l01Finite_g v40 = some (spec_l01Finite_v v40) := by
  unfold spec_l01Finite_g spec_l01Finite_T spec_l01Finite_v
  simp only [Tree.run]
  repeat' (first | rfl | split)
noncomputable def spec_l01Finite_F : DFn := fun args L =>
  match args with
  | [.flt .f32 v40] =>
    .leaf (.bool (spec_l01Finite_v v40), L)
  | _ => .fail
theorem spec_l01Finite_Fok : COk Try.prog 60 spec_l01Finite_F true := by
  intro F L H args r L' hs ha hr
  unfold spec_l01Finite_F at hr
  split at hr
  · rename_i v40
    have hy := spec_l01Finite_tot v40
    generalize spec_l01Finite_v v40 = y at hy hr
    simp only [Tree.run, Option.some.injEq, Prod.mk.injEq] at hr
    obtain ⟨rfl, rfl⟩ := hr
    exact call_ok0 hs (fun k => (([] : List AV)[k]?).getD .top) [.flt .f32 v40] [.flt .f32 v40] (fun F' h0 hi hρ => ⟨by simp [DVs.av, DV.av, BR.av, hρ], spec_l01Finite_fn v40 F' (by rw [hi]; rfl) (st_nil hi) ⟨trivial, trivial⟩ hy⟩) rfl
  · cases hr
/-! spec.l02Finite -/
noncomputable def spec_l02Finite_l0_T (v38 : List Nat) (s : Int) : Tree ((Int) ⊕ ((Unit) ⊕ (Unit))) :=
  (.br (decide (s < ((v38.length : Nat) : Int))) (
   (.grd (inb s v38.length) <|
   (.br (!(spec_l01Finite_v (nth v38 (Int.toNat s)))) (
    .leaf (.inr (.inl ()))
   ) (
    .leaf (.inl (IntKind.i64.wrap (s + (1 : Int))))
   )))
  ) (
   .leaf (.inr (.inr ()))
  ))

noncomputable def spec_l02Finite_l0_g (v38 : List Nat) (s0 : Int) : Option ((Unit) ⊕ (Unit)) := whileM (fun s => (spec_l02Finite_l0_T v38 s).run) s0
def spec_l02Finite_l0_E (v38 : List Nat) (s : Int) : Sd := ([.bslc (BR.root 0) (.f32 v38), .top, .top, .int .i64 s, .top, .top, .top, .top, .top, .top, .top, .top, .top, .top, .top, .top], [])
def spec_l02Finite_l0_X (v38 : List Nat) (x : (Unit) ⊕ (Unit)) : Out := (match x with | .inl x => (.ret, [.top, .top, .lit false, .top, .top, .top, .top, .top, .top, .top, .top, .top, .top, .top, .top, .top], []) | .inr x => (.normal, [.top, .top, .top, .top, .top, .top, .top, .top, .top, .top, .top, .top, .top, .top, .top, .top], []))
def spec_l02Finite_l0_kill : List Nat := [0, 1, 1, 0, 1, 1, 1, 1, 1, 1, 1, 1, 1, 1, 1, 1]
def spec_l02Finite_l0_nx : Exit → List Nat
  | .exit 0 => [1, 1, 1, 1, 1, 1, 1, 1, 1, 1, 1, 1, 1, 1, 1, 1]
  | .ret => [1, 1, 0, 1, 1, 1, 1, 1, 1, 1, 1, 1, 1, 1, 1, 1]
  | _ => []
noncomputable def spec_l02Finite_LO (v38 : List Nat) : LOr := fun id e L =>
  match id with
  | 0 => .need (normA 0 spec_l02Finite_l0_kill e L = some (spec_l02Finite_l0_E v38 (gI (vAt e 3)))) (.call (spec_l02Finite_l0_g v38 (gI (vAt e 3))) fun x => .sum x (fun b0 => .leaf (spec_l02Finite_l0_X v38 (.inl b0))) (fun c0 => .leaf (spec_l02Finite_l0_X v38 (.inr c0))))
  | _ => .fail
noncomputable def spec_l02Finite_tab : List (FuncId × DFn × Bool) := [(60, spec_l01Finite_F, true)]
theorem spec_l02Finite_hO : OrcOk Try.prog (tabD spec_l02Finite_tab) (tabM spec_l02Finite_tab) := tabD_cons spec_l01Finite_Fok (tabD_nil _)
theorem spec_l02Finite_l0_be (v38 : List Nat) (s : Int) : bodyT TT (tabD spec_l02Finite_tab) (tabM spec_l02Finite_tab) (spec_l02Finite_LO v38) 0 spec_l02Finite_l0_kill spec_l02Finite_l0_nx (bodyOf Try.f135 0) 0 (spec_l02Finite_l0_E v38 s) = (spec_l02Finite_l0_T v38 s).bind fun y => .leaf (outS (spec_l02Finite_l0_E v38) (spec_l02Finite_l0_X v38) y) := by kernel_rfl
theorem spec_l02Finite_l0_ok (v38 : List Nat) : LSound Try.prog 0 (spec_l02Finite_LO v38) 0 (bodyOf Try.f135 0) := by
  intro e L out h
  exact lo_ok (E := spec_l02Finite_l0_E v38) (gT := spec_l02Finite_l0_T v38) (X := spec_l02Finite_l0_X v38) (s0 := (gI (vAt e 3))) tok spec_l02Finite_hO mixed (LoopsOk_eq (l := []) (by kernel_rfl) trivial) (spec_l02Finite_l0_be v38) rfl (by intro x; (cases x with | inl b => rfl | inr x => exact rfl)) h
noncomputable def spec_l02Finite_T (v38 : List Nat) : Tree (Bool) :=
  (.need (some (spec_l02Finite_l0_E v38 (0 : Int)) = some (spec_l02Finite_l0_E v38 (0 : Int))) <|
  (.call (spec_l02Finite_l0_g v38 (0 : Int)) fun v43 =>
  (.sum v43 (fun v44 =>
   .leaf false
  ) (fun v45 =>
   .leaf true
  ))))

noncomputable def spec_l02Finite_g (v38 : List Nat) : Option (Bool) := (spec_l02Finite_T v38).run
def spec_l02Finite_enc (v38 : List Nat) (y : Bool) : Rs := (.bool y, [])
theorem spec_l02Finite_den (v38 : List Nat) : (den TT (tabD spec_l02Finite_tab) (tabM spec_l02Finite_tab) (spec_l02Finite_LO v38) (codeOf Try.f135) ([.bslc (BR.root 0) (.f32 v38)] ++ List.replicate (Try.f135.ntmps - ([.bslc (BR.root 0) (.f32 v38)] : List DV).length) .undef) []).bind (retD TT Try.f135.results.toList 0) = (spec_l02Finite_T v38).bind fun y => .leaf (spec_l02Finite_enc v38 y) := by kernel_rfl
theorem spec_l02Finite_fn (v38 : List Nat) (F : Fr) (hm : F.ids.length = 0) (h0 : St F [] F.H0) (hA : DVs.Ok F [] [.bslc (BR.root 0) (.f32 v38)]) {y : Bool} (hy : spec_l02Finite_g v38 = some y) : ∃ H', FnOk Try.prog 135 (DVs.av F [.bslc (BR.root 0) (.f32 v38)]) F.H0 ((spec_l02Finite_enc v38 y).1.av F) H' ∧ St F (spec_l02Finite_enc v38 y).2 H' ∧ (spec_l02Finite_enc v38 y).1.Ok F (spec_l02Finite_enc v38 y).2 :=
  fn_fin tok spec_l02Finite_hO mixed Try.func135 Try.call135 (by kernel_rfl) (LoopsOk_eq (l := [(0, bodyOf Try.f135 0)]) (by kernel_rfl) ⟨spec_l02Finite_l0_ok v38, trivial⟩) (spec_l02Finite_den v38) hy hm h0 hA
noncomputable def spec_l02Finite_F : DFn := fun args L =>
  match args with
  | [a1] =>
    optT (rowF32 L a1) fun v38 =>
    .call (spec_l02Finite_g v38) fun y => .leaf (.bool y, L)
  | _ => .fail
theorem spec_l02Finite_Fok : COk Try.prog 135 spec_l02Finite_F true := by
  intro F L H args r L' hs ha hr
  unfold spec_l02Finite_F at hr
  split at hr
  · rename_i a1
    obtain ⟨v38, hv38, hr⟩ := optT_run hr
    simp only [Tree.run] at hr
    obtain ⟨y, hy, hr⟩ := Option.bind_eq_some_iff.1 hr
    simp only [Tree.run, Option.some.injEq, Prod.mk.injEq] at hr
    obtain ⟨rfl, rfl⟩ := hr
    exact call_ok0 hs (fun k => (([a1.av F] : List AV)[k]?).getD .top) [a1] [.bslc (BR.root 0) (.f32 v38)] (fun F' h0 hi hρ => ⟨by simp [DVs.av, DV.av, BR.av, hρ], spec_l02Finite_fn v38 F' (by rw [hi]; rfl) (st_nil hi) ⟨bslc_ok hi (by rw [h0, hρ]; exact rowF32_ok hs (DVs.okAt ha 0 rfl) hv38), trivial⟩ hy⟩) rfl
  · cases hr
/-! spec.l02Is -/
noncomputable def spec_l02Is_LO (v30 : Int) (v31 : Int) (v32 : List Nat) : LOr := fun id e L =>
  match id with
  | _ => .fail
noncomputable def spec_l02Is_tab : List (FuncId × DFn × Bool) := [(134, spec_l02Sides_F, true), (135, spec_l02Finite_F, true)]
theorem spec_l02Is_hO : OrcOk Try.prog (tabD spec_l02Is_tab) (tabM spec_l02Is_tab) := tabD_cons spec_l02Sides_Fok (tabD_cons spec_l02Finite_Fok (tabD_nil _))
noncomputable def spec_l02Is_T (v30 : Int) (v31 : Int) (v32 : List Nat) : Tree (Bool) :=
  (.br (spec_l02Sides_v v30 v31) (
   (.br (decide (((v32.length : Nat) : Int) = IntKind.i64.wrap (v30 * v31))) (
    (.call (spec_l02Finite_g v32) fun v46 =>
    .leaf v46)
   ) (
    .leaf false
   ))
  ) (
   .leaf false
  ))

noncomputable def spec_l02Is_g (v30 : Int) (v31 : Int) (v32 : List Nat) : Option (Bool) := (spec_l02Is_T v30 v31 v32).run
def spec_l02Is_enc (v30 : Int) (v31 : Int) (v32 : List Nat) (y : Bool) : Rs := (.bool y, [])
theorem spec_l02Is_den (v30 : Int) (v31 : Int) (v32 : List Nat) : (den TT (tabD spec_l02Is_tab) (tabM spec_l02Is_tab) (spec_l02Is_LO v30 v31 v32) (codeOf Try.f61) ([.bptr (BR.root 0) [.int .i64 v30, .int .i64 v31, .bslc (BR.root 1) (.f32 v32)]] ++ List.replicate (Try.f61.ntmps - ([.bptr (BR.root 0) [.int .i64 v30, .int .i64 v31, .bslc (BR.root 1) (.f32 v32)]] : List DV).length) .undef) []).bind (retD TT Try.f61.results.toList 0) = (spec_l02Is_T v30 v31 v32).bind fun y => .leaf (spec_l02Is_enc v30 v31 v32 y) := by kernel_rfl
theorem spec_l02Is_fn (v30 : Int) (v31 : Int) (v32 : List Nat) (F : Fr) (hm : F.ids.length = 0) (h0 : St F [] F.H0) (hA : DVs.Ok F [] [.bptr (BR.root 0) [.int .i64 v30, .int .i64 v31, .bslc (BR.root 1) (.f32 v32)]]) {y : Bool} (hy : spec_l02Is_g v30 v31 v32 = some y) : ∃ H', FnOk Try.prog 61 (DVs.av F [.bptr (BR.root 0) [.int .i64 v30, .int .i64 v31, .bslc (BR.root 1) (.f32 v32)]]) F.H0 ((spec_l02Is_enc v30 v31 v32 y).1.av F) H' ∧ St F (spec_l02Is_enc v30 v31 v32 y).2 H' ∧ (spec_l02Is_enc v30 v31 v32 y).1.Ok F (spec_l02Is_enc v30 v31 v32 y).2 :=
  fn_fin tok spec_l02Is_hO mixed Try.func61 Try.call61 (by kernel_rfl) (LoopsOk_eq (l := []) (by kernel_rfl) trivial) (spec_l02Is_den v30 v31 v32) hy hm h0 hA
noncomputable def spec_l02Is_F : DFn := fun args L =>
  match args with
  | [a1] =>
    optT (cellsOf L 3 a1) fun cs0 =>
    (match cs0 with
    | [.int .i64 v30, .int .i64 v31, a2] =>
    optT (rowF32 L a2) fun v32 =>
    .call (spec_l02Is_g v30 v31 v32) fun y => .leaf (.bool y, L)
    | _ => .fail)
  | _ => .fail
theorem spec_l02Is_Fok : COk Try.prog 61 spec_l02Is_F true := by
  intro F L H args r L' hs ha hr
  unfold spec_l02Is_F at hr
  split at hr
  · rename_i a1
    obtain ⟨cs0, hcp0, hr⟩ := optT_run hr
    split at hr
    · rename_i v30 v31 a2
      obtain ⟨v32, hv32, hr⟩ := optT_run hr
      simp only [Tree.run] at hr
      obtain ⟨y, hy, hr⟩ := Option.bind_eq_some_iff.1 hr
      simp only [Tree.run, Option.some.injEq, Prod.mk.injEq] at hr
      obtain ⟨rfl, rfl⟩ := hr
      exact call_ok0 hs (fun k => (([a1.av F, a2.av F] : List AV)[k]?).getD .top) [a1] [.bptr (BR.root 0) [.int .i64 v30, .int .i64 v31, .bslc (BR.root 1) (.f32 v32)]] (fun F' h0 hi hρ => ⟨by simp [DVs.av, DV.av, BR.av, hρ], spec_l02Is_fn v30 v31 v32 F' (by rw [hi]; rfl) (st_nil hi) ⟨bptr_ok hi (by rw [h0]; simpa [DVs.av, DV.av, BR.av, hρ] using (cellsOf_ok hs (DVs.okAt ha 0 rfl) hcp0).1) ⟨trivial, trivial, bslc_ok hi (by rw [h0, hρ]; exact rowF32_ok hs (DVs.okAt (cellsOf_ok hs (DVs.okAt ha 0 rfl) hcp0).2 2 rfl) hv32), trivial⟩, trivial⟩ hy⟩) rfl
    · cases hr
  · cases hr
/-! spec.l02Dot -/
noncomputable def spec_l02Dot_l0_T (v48 : List Nat) (v49 : List Nat) (s : Nat × Int) : Tree ((Nat × Int) ⊕ (Nat)) :=
  (.br (decide (s.2 < ((v48.length : Nat) : Int))) (
   (.grd (inb s.2 v48.length) <|
   (.grd (inb s.2 v49.length) <|
   .leaf (.inl (fadd .f32 s.1 (fmul .f32 (nth v48 (Int.toNat s.2)) (nth v49 (Int.toNat s.2))), IntKind.i64.wrap (s.2 + (1 : Int))))))
  ) (
   .leaf (.inr s.1)
  ))

noncomputable def spec_l02Dot_l0_g (v48 : List Nat) (v49 : List Nat) (s0 : Nat × Int) : Option (Nat) := whileM (fun s => (spec_l02Dot_l0_T v48 v49 s).run) s0
def spec_l02Dot_l0_E (v48 : List Nat) (v49 : List Nat) (s : Nat × Int) : Sd := ([.bslc (BR.root 0) (.f32 v48), .bslc (BR.root 1) (.f32 v49), .top, .top, .top, .flt .f32 s.1, .int .i64 s.2, .top, .top, .top, .top, .top, .top, .top, .top, .top, .top, .top, .top, .top, .top, .top, .top, .top, .top], [])
def spec_l02Dot_l0_X (v48 : List Nat) (v49 : List Nat) (x : Nat) : Out := (.normal, [.top, .top, .top, .top, .top, .flt .f32 x, .top, .top, .top, .top, .top, .top, .top, .top, .top, .top, .top, .top, .top, .top, .top, .top, .top, .top, .top], [])
def spec_l02Dot_l0_kill : List Nat := [0, 0, 1, 1, 1, 0, 0, 1, 1, 1, 1, 1, 1, 1, 1, 1, 1, 1, 1, 1, 1, 1, 1, 1, 1]
def spec_l02Dot_l0_nx : Exit → List Nat
  | .exit 0 => [1, 1, 1, 1, 1, 0, 1, 1, 1, 1, 1, 1, 1, 1, 1, 1, 1, 1, 1, 1, 1, 1, 1, 1, 1]
  | .ret => [1, 1, 1, 1, 0, 1, 1, 1, 1, 1, 1, 1, 1, 1, 1, 1, 1, 1, 1, 1, 1, 1, 1, 1, 1]
  | _ => []
noncomputable def spec_l02Dot_LO (v48 : List Nat) (v49 : List Nat) : LOr := fun id e L =>
  match id with
  | 0 => .need (normA 0 spec_l02Dot_l0_kill e L = some (spec_l02Dot_l0_E v48 v49 ((gF (vAt e 5)), (gI (vAt e 6))))) (.call (spec_l02Dot_l0_g v48 v49 ((gF (vAt e 5)), (gI (vAt e 6)))) fun x => .leaf (spec_l02Dot_l0_X v48 v49 x))
  | _ => .fail
noncomputable def spec_l02Dot_tab : List (FuncId × DFn × Bool) := []
theorem spec_l02Dot_hO : OrcOk Try.prog (tabD spec_l02Dot_tab) (tabM spec_l02Dot_tab) := tabD_nil _
theorem spec_l02Dot_l0_be (v48 : List Nat) (v49 : List Nat) (s : Nat × Int) : bodyT TT (tabD spec_l02Dot_tab) (tabM spec_l02Dot_tab) (spec_l02Dot_LO v48 v49) 0 spec_l02Dot_l0_kill spec_l02Dot_l0_nx (bodyOf Try.f160 0) 0 (spec_l02Dot_l0_E v48 v49 s) = (spec_l02Dot_l0_T v48 v49 s).bind fun y => .leaf (outS (spec_l02Dot_l0_E v48 v49) (spec_l02Dot_l0_X v48 v49) y) := by kernel_rfl
theorem spec_l02Dot_l0_ok (v48 : List Nat) (v49 : List Nat) : LSound Try.prog 0 (spec_l02Dot_LO v48 v49) 0 (bodyOf Try.f160 0) := by
  intro e L out h
  exact lo_ok (E := spec_l02Dot_l0_E v48 v49) (gT := spec_l02Dot_l0_T v48 v49) (X := spec_l02Dot_l0_X v48 v49) (s0 := ((gF (vAt e 5)), (gI (vAt e 6)))) tok spec_l02Dot_hO mixed (LoopsOk_eq (l := []) (by kernel_rfl) trivial) (spec_l02Dot_l0_be v48 v49) rfl (by intro x; rfl) h
noncomputable def spec_l02Dot_T (v48 : List Nat) (v49 : List Nat) : Tree (Nat) :=
  (.need (some (spec_l02Dot_l0_E v48 v49 ((0 : Nat), (0 : Int))) = some (spec_l02Dot_l0_E v48 v49 ((0 : Nat), (0 : Int)))) <|
  (.call (spec_l02Dot_l0_g v48 v49 ((0 : Nat), (0 : Int))) fun v56 =>
  .leaf v56))

noncomputable def spec_l02Dot_g (v48 : List Nat) (v49 : List Nat) : Option (Nat) := (spec_l02Dot_T v48 v49).run
def spec_l02Dot_enc (v48 : List Nat) (v49 : List Nat) (y : Nat) : Rs := (.flt .f32 y, [])
theorem spec_l02Dot_den (v48 : List Nat) (v49 : List Nat) : (den TT (tabD spec_l02Dot_tab) (tabM spec_l02Dot_tab) (spec_l02Dot_LO v48 v49) (codeOf Try.f160) ([.bslc (BR.root 0) (.f32 v48), .bslc (BR.root 1) (.f32 v49)] ++ List.replicate (Try.f160.ntmps - ([.bslc (BR.root 0) (.f32 v48), .bslc (BR.root 1) (.f32 v49)] : List DV).length) .undef) []).bind (retD TT Try.f160.results.toList 0) = (spec_l02Dot_T v48 v49).bind fun y => .leaf (spec_l02Dot_enc v48 v49 y) := by kernel_rfl
theorem spec_l02Dot_fn (v48 : List Nat) (v49 : List Nat) (F : Fr) (hm : F.ids.length = 0) (h0 : St F [] F.H0) (hA : DVs.Ok F [] [.bslc (BR.root 0) (.f32 v48), .bslc (BR.root 1) (.f32 v49)]) {y : Nat} (hy : spec_l02Dot_g v48 v49 = some y) : ∃ H', FnOk Try.prog 160 (DVs.av F [.bslc (BR.root 0) (.f32 v48), .bslc (BR.root 1) (.f32 v49)]) F.H0 ((spec_l02Dot_enc v48 v49 y).1.av F) H' ∧ St F (spec_l02Dot_enc v48 v49 y).2 H' ∧ (spec_l02Dot_enc v48 v49 y).1.Ok F (spec_l02Dot_enc v48 v49 y).2 :=
  fn_fin tok spec_l02Dot_hO mixed Try.func160 Try.call160 (by kernel_rfl) (LoopsOk_eq (l := [(0, bodyOf Try.f160 0)]) (by kernel_rfl) ⟨spec_l02Dot_l0_ok v48 v49, trivial⟩) (spec_l02Dot_den v48 v49) hy hm h0 hA
noncomputable def spec_l02Dot_F : DFn := fun args L =>
  match args with
  | [a1, a2] =>
    optT (rowF32 L a1) fun v48 =>
    optT (rowF32 L a2) fun v49 =>
    .call (spec_l02Dot_g v48 v49) fun y => .leaf (.flt .f32 y, L)
  | _ => .fail
theorem spec_l02Dot_Fok : COk Try.prog 160 spec_l02Dot_F true := by
  intro F L H args r L' hs ha hr
  unfold spec_l02Dot_F at hr
  split at hr
  · rename_i a1 a2
    obtain ⟨v48, hv48, hr⟩ := optT_run hr
    obtain ⟨v49, hv49, hr⟩ := optT_run hr
    simp only [Tree.run] at hr
    obtain ⟨y, hy, hr⟩ := Option.bind_eq_some_iff.1 hr
    simp only [Tree.run, Option.some.injEq, Prod.mk.injEq] at hr
    obtain ⟨rfl, rfl⟩ := hr
    exact call_ok0 hs (fun k => (([a1.av F, a2.av F] : List AV)[k]?).getD .top) [a1, a2] [.bslc (BR.root 0) (.f32 v48), .bslc (BR.root 1) (.f32 v49)] (fun F' h0 hi hρ => ⟨by simp [DVs.av, DV.av, BR.av, hρ], spec_l02Dot_fn v48 v49 F' (by rw [hi]; rfl) (st_nil hi) ⟨bslc_ok hi (by rw [h0, hρ]; exact rowF32_ok hs (DVs.okAt ha 0 rfl) hv48), bslc_ok hi (by rw [h0, hρ]; exact rowF32_ok hs (DVs.okAt ha 1 rfl) hv49), trivial⟩ hy⟩) rfl
  · cases hr
/-! math.Sqrt -/
noncomputable def math_Sqrt_LO (v59 : Nat) : LOr := fun id e L =>
  match id with
  | _ => .fail
noncomputable def math_Sqrt_tab : List (FuncId × DFn × Bool) := [(177, Sqrt_F, true)]
theorem math_Sqrt_hO : OrcOk Try.prog (tabD math_Sqrt_tab) (tabM math_Sqrt_tab) := tabD_cons Sqrt_Fok (tabD_nil _)
noncomputable def math_Sqrt_T (v59 : Nat) : Tree (Nat) :=
  .leaf (fsqrt v59)

noncomputable def math_Sqrt_g (v59 : Nat) : Option (Nat) := (math_Sqrt_T v59).run
def math_Sqrt_enc (v59 : Nat) (y : Nat) : Rs := (.flt .f64 y, [])
theorem math_Sqrt_den (v59 : Nat) : (den TT (tabD math_Sqrt_tab) (tabM math_Sqrt_tab) (math_Sqrt_LO v59) (codeOf Try.f157) ([.flt .f64 v59] ++ List.replicate (Try.f157.ntmps - ([.flt .f64 v59] : List DV).length) .undef) []).bind (retD TT Try.f157.results.toList 0) = (math_Sqrt_T v59).bind fun y => .leaf (math_Sqrt_enc v59 y) := by kernel_rfl
theorem math_Sqrt_fn (v59 : Nat) (F : Fr) (hm : F.ids.length = 0) (h0 : St F [] F.H0) (hA : DVs.Ok F [] [.flt .f64 v59]) {y : Nat} (hy : math_Sqrt_g v59 = some y) : ∃ H', FnOk Try.prog 157 (DVs.av F [.flt .f64 v59]) F.H0 ((math_Sqrt_enc v59 y).1.av F) H' ∧ St F (math_Sqrt_enc v59 y).2 H' ∧ (math_Sqrt_enc v59 y).1.Ok F (math_Sqrt_enc v59 y).2 :=
  fn_fin tok math_Sqrt_hO mixed Try.func157 Try.call157 (by kernel_rfl) (LoopsOk_eq (l := []) (by kernel_rfl) trivial) (math_Sqrt_den v59) hy hm h0 hA
def math_Sqrt_v (v59 : Nat) : Nat :=
  fsqrt v59
theorem math_Sqrt_tot (v59 : Nat) : math_Sqrt_g v59 = some (math_Sqrt_v v59) := by
  unfold math_Sqrt_g math_Sqrt_T math_Sqrt_v
  simp only [Tree.run]
  repeat' (first | rfl | split)
noncomputable def math_Sqrt_F : DFn := fun args L =>
  match args with
  | [.flt .f64 v59] =>
    .leaf (.flt .f64 (math_Sqrt_v v59), L)
  | _ => .fail
theorem math_Sqrt_Fok : COk Try.prog 157 math_Sqrt_F true := by
  intro F L H args r L' hs ha hr
  unfold math_Sqrt_F at hr
  split at hr
  · rename_i v59
    have hy := math_Sqrt_tot v59
    generalize math_Sqrt_v v59 = y at hy hr
    simp only [Tree.run, Option.some.injEq, Prod.mk.injEq] at hr
    obtain ⟨rfl, rfl⟩ := hr
    exact call_ok0 hs (fun k => (([] : List AV)[k]?).getD .top) [.flt .f64 v59] [.flt .f64 v59] (fun F' h0 hi hρ => ⟨by simp [DVs.av, DV.av, BR.av, hρ], math_Sqrt_fn v59 F' (by rw [hi]; rfl) (st_nil hi) ⟨trivial, trivial⟩ hy⟩) rfl
  · cases hr
/-! spec.l01Narrow -/
noncomputable def spec_l01Narrow_LO (v60 : Nat) : LOr := fun id e L =>
  match id with
  | _ => .fail
noncomputable def spec_l01Narrow_tab : List (FuncId × DFn × Bool) := []
theorem spec_l01Narrow_hO : OrcOk Try.prog (tabD spec_l01Narrow_tab) (tabM spec_l01Narrow_tab) := tabD_nil _
noncomputable def spec_l01Narrow_T (v60 : Nat) : Tree (Nat) :=
  (.call (fconv .f64 v60 .f32) fun v61 =>
  .leaf v61)

noncomputable def spec_l01Narrow_g (v60 : Nat) : Option (Nat) := (spec_l01Narrow_T v60).run
def spec_l01Narrow_enc (v60 : Nat) (y : Nat) : Rs := (.flt .f32 y, [])
theorem spec_l01Narrow_den (v60 : Nat) : (den TT (tabD spec_l01Narrow_tab) (tabM spec_l01Narrow_tab) (spec_l01Narrow_LO v60) (codeOf Try.f156) ([.flt .f64 v60] ++ List.replicate (Try.f156.ntmps - ([.flt .f64 v60] : List DV).length) .undef) []).bind (retD TT Try.f156.results.toList 0) = (spec_l01Narrow_T v60).bind fun y => .leaf (spec_l01Narrow_enc v60 y) := by kernel_rfl
theorem spec_l01Narrow_fn (v60 : Nat) (F : Fr) (hm : F.ids.length = 0) (h0 : St F [] F.H0) (hA : DVs.Ok F [] [.flt .f64 v60]) {y : Nat} (hy : spec_l01Narrow_g v60 = some y) : ∃ H', FnOk Try.prog 156 (DVs.av F [.flt .f64 v60]) F.H0 ((spec_l01Narrow_enc v60 y).1.av F) H' ∧ St F (spec_l01Narrow_enc v60 y).2 H' ∧ (spec_l01Narrow_enc v60 y).1.Ok F (spec_l01Narrow_enc v60 y).2 :=
  fn_fin tok spec_l01Narrow_hO mixed Try.func156 Try.call156 (by kernel_rfl) (LoopsOk_eq (l := []) (by kernel_rfl) trivial) (spec_l01Narrow_den v60) hy hm h0 hA
noncomputable def spec_l01Narrow_F : DFn := fun args L =>
  match args with
  | [.flt .f64 v60] =>
    .call (spec_l01Narrow_g v60) fun y => .leaf (.flt .f32 y, L)
  | _ => .fail
theorem spec_l01Narrow_Fok : COk Try.prog 156 spec_l01Narrow_F true := by
  intro F L H args r L' hs ha hr
  unfold spec_l01Narrow_F at hr
  split at hr
  · rename_i v60
    simp only [Tree.run] at hr
    obtain ⟨y, hy, hr⟩ := Option.bind_eq_some_iff.1 hr
    simp only [Tree.run, Option.some.injEq, Prod.mk.injEq] at hr
    obtain ⟨rfl, rfl⟩ := hr
    exact call_ok0 hs (fun k => (([] : List AV)[k]?).getD .top) [.flt .f64 v60] [.flt .f64 v60] (fun F' h0 hi hρ => ⟨by simp [DVs.av, DV.av, BR.av, hρ], spec_l01Narrow_fn v60 F' (by rw [hi]; rfl) (st_nil hi) ⟨trivial, trivial⟩ hy⟩) rfl
  · cases hr
/-! spec.l01Sqrt -/
noncomputable def spec_l01Sqrt_LO (v58 : Nat) : LOr := fun id e L =>
  match id with
  | _ => .fail
noncomputable def spec_l01Sqrt_tab : List (FuncId × DFn × Bool) := [(157, math_Sqrt_F, true), (156, spec_l01Narrow_F, true)]
theorem spec_l01Sqrt_hO : OrcOk Try.prog (tabD spec_l01Sqrt_tab) (tabM spec_l01Sqrt_tab) := tabD_cons math_Sqrt_Fok (tabD_cons spec_l01Narrow_Fok (tabD_nil _))
noncomputable def spec_l01Sqrt_T (v58 : Nat) : Tree (Nat) :=
  (.call (spec_l01Narrow_g (math_Sqrt_v (wid v58))) fun v62 =>
  .leaf v62)

noncomputable def spec_l01Sqrt_g (v58 : Nat) : Option (Nat) := (spec_l01Sqrt_T v58).run
def spec_l01Sqrt_enc (v58 : Nat) (y : Nat) : Rs := (.flt .f32 y, [])
theorem spec_l01Sqrt_den (v58 : Nat) : (den TT (tabD spec_l01Sqrt_tab) (tabM spec_l01Sqrt_tab) (spec_l01Sqrt_LO v58) (codeOf Try.f110) ([.flt .f32 v58] ++ List.replicate (Try.f110.ntmps - ([.flt .f32 v58] : List DV).length) .undef) []).bind (retD TT Try.f110.results.toList 0) = (spec_l01Sqrt_T v58).bind fun y => .leaf (spec_l01Sqrt_enc v58 y) := by kernel_rfl
theorem spec_l01Sqrt_fn (v58 : Nat) (F : Fr) (hm : F.ids.length = 0) (h0 : St F [] F.H0) (hA : DVs.Ok F [] [.flt .f32 v58]) {y : Nat} (hy : spec_l01Sqrt_g v58 = some y) : ∃ H', FnOk Try.prog 110 (DVs.av F [.flt .f32 v58]) F.H0 ((spec_l01Sqrt_enc v58 y).1.av F) H' ∧ St F (spec_l01Sqrt_enc v58 y).2 H' ∧ (spec_l01Sqrt_enc v58 y).1.Ok F (spec_l01Sqrt_enc v58 y).2 :=
  fn_fin tok spec_l01Sqrt_hO mixed Try.func110 Try.call110 (by kernel_rfl) (LoopsOk_eq (l := []) (by kernel_rfl) trivial) (spec_l01Sqrt_den v58) hy hm h0 hA
noncomputable def spec_l01Sqrt_F : DFn := fun args L =>
  match args with
  | [.flt .f32 v58] =>
    .call (spec_l01Sqrt_g v58) fun y => .leaf (.flt .f32 y, L)
  | _ => .fail
theorem spec_l01Sqrt_Fok : COk Try.prog 110 spec_l01Sqrt_F true := by
  intro F L H args r L' hs ha hr
  unfold spec_l01Sqrt_F at hr
  split at hr
  · rename_i v58
    simp only [Tree.run] at hr
    obtain ⟨y, hy, hr⟩ := Option.bind_eq_some_iff.1 hr
    simp only [Tree.run, Option.some.injEq, Prod.mk.injEq] at hr
    obtain ⟨rfl, rfl⟩ := hr
    exact call_ok0 hs (fun k => (([] : List AV)[k]?).getD .top) [.flt .f32 v58] [.flt .f32 v58] (fun F' h0 hi hρ => ⟨by simp [DVs.av, DV.av, BR.av, hρ], spec_l01Sqrt_fn v58 F' (by rw [hi]; rfl) (st_nil hi) ⟨trivial, trivial⟩ hy⟩) rfl
  · cases hr
/-! spec.l02Number -/
noncomputable def spec_l02Number_LO (v64 : Nat) : LOr := fun id e L =>
  match id with
  | _ => .fail
noncomputable def spec_l02Number_tab : List (FuncId × DFn × Bool) := [(60, spec_l01Finite_F, true)]
theorem spec_l02Number_hO : OrcOk Try.prog (tabD spec_l02Number_tab) (tabM spec_l02Number_tab) := tabD_cons spec_l01Finite_Fok (tabD_nil _)
noncomputable def spec_l02Number_T (v64 : Nat) : Tree ((Unit) ⊕ (Nat)) :=
  (.br (!(spec_l01Finite_v v64)) (
   .leaf (.inl ())
  ) (
   .leaf (.inr v64)
  ))

noncomputable def spec_l02Number_g (v64 : Nat) : Option ((Unit) ⊕ (Nat)) := (spec_l02Number_T v64).run
def spec_l02Number_enc (v64 : Nat) (y : (Unit) ⊕ (Nat)) : Rs := (match y with | .inl y => (.tup [.flt .f32 (0 : Nat), .lit false], []) | .inr y => (.tup [.flt .f32 y, .lit true], []))
theorem spec_l02Number_den (v64 : Nat) : (den TT (tabD spec_l02Number_tab) (tabM spec_l02Number_tab) (spec_l02Number_LO v64) (codeOf Try.f161) ([.flt .f32 v64] ++ List.replicate (Try.f161.ntmps - ([.flt .f32 v64] : List DV).length) .undef) []).bind (retD TT Try.f161.results.toList 0) = (spec_l02Number_T v64).bind fun y => .leaf (spec_l02Number_enc v64 y) := by kernel_rfl
theorem spec_l02Number_fn (v64 : Nat) (F : Fr) (hm : F.ids.length = 0) (h0 : St F [] F.H0) (hA : DVs.Ok F [] [.flt .f32 v64]) {y : (Unit) ⊕ (Nat)} (hy : spec_l02Number_g v64 = some y) : ∃ H', FnOk Try.prog 161 (DVs.av F [.flt .f32 v64]) F.H0 ((spec_l02Number_enc v64 y).1.av F) H' ∧ St F (spec_l02Number_enc v64 y).2 H' ∧ (spec_l02Number_enc v64 y).1.Ok F (spec_l02Number_enc v64 y).2 :=
  fn_fin tok spec_l02Number_hO mixed Try.func161 Try.call161 (by kernel_rfl) (LoopsOk_eq (l := []) (by kernel_rfl) trivial) (spec_l02Number_den v64) hy hm h0 hA
def spec_l02Number_v (v64 : Nat) : (Unit) ⊕ (Nat) :=
  if (!(spec_l01Finite_v v64)) = true then (
   .inl ()
  ) else (
   .inr v64
  )
theorem spec_l02Number_tot (v64 : Nat) : spec_l02Number_g v64 = some (spec_l02Number_v v64) := by
  unfold spec_l02Number_g spec_l02Number_T spec_l02Number_v
  simp only [Tree.run]
  repeat' (first | rfl | split)
noncomputable def spec_l02Number_F : DFn := fun args L =>
  match args with
  | [.flt .f32 v64] =>
    .sum (spec_l02Number_v v64) (fun y0 => .leaf (.tup [.flt .f32 (0 : Nat), .lit false], L)) (fun z0 => .leaf (.tup [.flt .f32 z0, .lit true], L))
  | _ => .fail
theorem spec_l02Number_Fok : COk Try.prog 161 spec_l02Number_F true := by
  intro F L H args r L' hs ha hr
  unfold spec_l02Number_F at hr
  split at hr
  · rename_i v64
    have hy := spec_l02Number_tot v64
    generalize spec_l02Number_v v64 = y at hy hr
    cases y with
    | inl y =>
      simp only [Tree.run, Option.some.injEq, Prod.mk.injEq] at hr
      obtain ⟨rfl, rfl⟩ := hr
      exact call_ok0 hs (fun k => (([] : List AV)[k]?).getD .top) [.flt .f32 v64] [.flt .f32 v64] (fun F' h0 hi hρ => ⟨by simp [DVs.av, DV.av, BR.av, hρ], spec_l02Number_fn v64 F' (by rw [hi]; rfl) (st_nil hi) ⟨trivial, trivial⟩ hy⟩) rfl
    | inr y =>
      simp only [Tree.run, Option.some.injEq, Prod.mk.injEq] at hr
      obtain ⟨rfl, rfl⟩ := hr
      exact call_ok0 hs (fun k => (([] : List AV)[k]?).getD .top) [.flt .f32 v64] [.flt .f32 v64] (fun F' h0 hi hρ => ⟨by simp [DVs.av, DV.av, BR.av, hρ], spec_l02Number_fn v64 F' (by rw [hi]; rfl) (st_nil hi) ⟨trivial, trivial⟩ hy⟩) rfl
  · cases hr
/-! spec.WholeNorm -/
noncomputable def spec_WholeNorm_LO (v27 : Int) (v28 : Int) (v29 : List Nat) : LOr := fun id e L =>
  match id with
  | _ => .fail
noncomputable def spec_WholeNorm_tab : List (FuncId × DFn × Bool) := [(61, spec_l02Is_F, true), (160, spec_l02Dot_F, true), (110, spec_l01Sqrt_F, true), (161, spec_l02Number_F, true)]
theorem spec_WholeNorm_hO : OrcOk Try.prog (tabD spec_WholeNorm_tab) (tabM spec_WholeNorm_tab) := tabD_cons spec_l02Is_Fok (tabD_cons spec_l02Dot_Fok (tabD_cons spec_l01Sqrt_Fok (tabD_cons spec_l02Number_Fok (tabD_nil _))))
noncomputable def spec_WholeNorm_T (v27 : Int) (v28 : Int) (v29 : List Nat) : Tree ((Unit) ⊕ (Nat)) :=
  (.call (spec_l02Is_g v27 v28 v29) fun v47 =>
  (.br (!v47) (
   .leaf (.inl ())
  ) (
   (.call (spec_l02Dot_g v29 v29) fun v57 =>
   (.call (spec_l01Sqrt_g v57) fun v63 =>
   (.sum (spec_l02Number_v v63) (fun v65 =>
    .leaf (.inl ())
   ) (fun v66 =>
    .leaf (.inr v66)
   ))))
  )))

noncomputable def spec_WholeNorm_g (v27 : Int) (v28 : Int) (v29 : List Nat) : Option ((Unit) ⊕ (Nat)) := (spec_WholeNorm_T v27 v28 v29).run
def spec_WholeNorm_enc (v27 : Int) (v28 : Int) (v29 : List Nat) (y : (Unit) ⊕ (Nat)) : Rs := (match y with | .inl y => (.tup [.flt .f32 (0 : Nat), .lit false], []) | .inr y => (.tup [.flt .f32 y, .lit true], []))
theorem spec_WholeNorm_den (v27 : Int) (v28 : Int) (v29 : List Nat) : (den TT (tabD spec_WholeNorm_tab) (tabM spec_WholeNorm_tab) (spec_WholeNorm_LO v27 v28 v29) (codeOf Try.f120) ([.agg [.int .i64 v27, .int .i64 v28, .bslc (BR.root 0) (.f32 v29)]] ++ List.replicate (Try.f120.ntmps - ([.agg [.int .i64 v27, .int .i64 v28, .bslc (BR.root 0) (.f32 v29)]] : List DV).length) .undef) []).bind (retD TT Try.f120.results.toList 0) = (spec_WholeNorm_T v27 v28 v29).bind fun y => .leaf (spec_WholeNorm_enc v27 v28 v29 y) := by kernel_rfl
theorem spec_WholeNorm_fn (v27 : Int) (v28 : Int) (v29 : List Nat) (F : Fr) (hm : F.ids.length = 0) (h0 : St F [] F.H0) (hA : DVs.Ok F [] [.agg [.int .i64 v27, .int .i64 v28, .bslc (BR.root 0) (.f32 v29)]]) {y : (Unit) ⊕ (Nat)} (hy : spec_WholeNorm_g v27 v28 v29 = some y) : ∃ H', FnOk Try.prog 120 (DVs.av F [.agg [.int .i64 v27, .int .i64 v28, .bslc (BR.root 0) (.f32 v29)]]) F.H0 ((spec_WholeNorm_enc v27 v28 v29 y).1.av F) H' ∧ St F (spec_WholeNorm_enc v27 v28 v29 y).2 H' ∧ (spec_WholeNorm_enc v27 v28 v29 y).1.Ok F (spec_WholeNorm_enc v27 v28 v29 y).2 :=
  fn_fin tok spec_WholeNorm_hO mixed Try.func120 Try.call120 (by kernel_rfl) (LoopsOk_eq (l := []) (by kernel_rfl) trivial) (spec_WholeNorm_den v27 v28 v29) hy hm h0 hA
noncomputable def spec_WholeNorm_F : DFn := fun args L =>
  match args with
  | [.agg [.int .i64 v27, .int .i64 v28, a1]] =>
    optT (rowF32 L a1) fun v29 =>
    .call (spec_WholeNorm_g v27 v28 v29) fun y => .sum y (fun y0 => .leaf (.tup [.flt .f32 (0 : Nat), .lit false], L)) (fun z0 => .leaf (.tup [.flt .f32 z0, .lit true], L))
  | _ => .fail
theorem spec_WholeNorm_Fok : COk Try.prog 120 spec_WholeNorm_F true := by
  intro F L H args r L' hs ha hr
  unfold spec_WholeNorm_F at hr
  split at hr
  · rename_i v27 v28 a1
    obtain ⟨v29, hv29, hr⟩ := optT_run hr
    simp only [Tree.run] at hr
    obtain ⟨y, hy, hr⟩ := Option.bind_eq_some_iff.1 hr
    cases y with
    | inl y =>
      simp only [Tree.run, Option.some.injEq, Prod.mk.injEq] at hr
      obtain ⟨rfl, rfl⟩ := hr
      exact call_ok0 hs (fun k => (([a1.av F] : List AV)[k]?).getD .top) [.agg [.int .i64 v27, .int .i64 v28, a1]] [.agg [.int .i64 v27, .int .i64 v28, .bslc (BR.root 0) (.f32 v29)]] (fun F' h0 hi hρ => ⟨by simp [DVs.av, DV.av, BR.av, hρ], spec_WholeNorm_fn v27 v28 v29 F' (by rw [hi]; rfl) (st_nil hi) ⟨⟨trivial, trivial, bslc_ok hi (by rw [h0, hρ]; exact rowF32_ok hs (DVs.okAt (DVs.okAt ha 0 rfl) 2 rfl) hv29), trivial⟩, trivial⟩ hy⟩) rfl
    | inr y =>
      simp only [Tree.run, Option.some.injEq, Prod.mk.injEq] at hr
      obtain ⟨rfl, rfl⟩ := hr
      exact call_ok0 hs (fun k => (([a1.av F] : List AV)[k]?).getD .top) [.agg [.int .i64 v27, .int .i64 v28, a1]] [.agg [.int .i64 v27, .int .i64 v28, .bslc (BR.root 0) (.f32 v29)]] (fun F' h0 hi hρ => ⟨by simp [DVs.av, DV.av, BR.av, hρ], spec_WholeNorm_fn v27 v28 v29 F' (by rw [hi]; rfl) (st_nil hi) ⟨⟨trivial, trivial, bslc_ok hi (by rw [h0, hρ]; exact rowF32_ok hs (DVs.okAt (DVs.okAt ha 0 rfl) 2 rfl) hv29), trivial⟩, trivial⟩ hy⟩) rfl
  · cases hr
/-! spec.l02Square -/
noncomputable def spec_l02Square_LO (v70 : Int) (v71 : Int) (v72 : List Nat) : LOr := fun id e L =>
  match id with
  | _ => .fail
noncomputable def spec_l02Square_tab : List (FuncId × DFn × Bool) := [(61, spec_l02Is_F, true)]
theorem spec_l02Square_hO : OrcOk Try.prog (tabD spec_l02Square_tab) (tabM spec_l02Square_tab) := tabD_cons spec_l02Is_Fok (tabD_nil _)
noncomputable def spec_l02Square_T (v70 : Int) (v71 : Int) (v72 : List Nat) : Tree (Bool) :=
  (.call (spec_l02Is_g v70 v71 v72) fun v73 =>
  (.br v73 (
   .leaf (decide (v70 = v71))
  ) (
   .leaf false
  )))

noncomputable def spec_l02Square_g (v70 : Int) (v71 : Int) (v72 : List Nat) : Option (Bool) := (spec_l02Square_T v70 v71 v72).run
def spec_l02Square_enc (v70 : Int) (v71 : Int) (v72 : List Nat) (y : Bool) : Rs := (.bool y, [])
theorem spec_l02Square_den (v70 : Int) (v71 : Int) (v72 : List Nat) : (den TT (tabD spec_l02Square_tab) (tabM spec_l02Square_tab) (spec_l02Square_LO v70 v71 v72) (codeOf Try.f57) ([.bptr (BR.root 0) [.int .i64 v70, .int .i64 v71, .bslc (BR.root 1) (.f32 v72)]] ++ List.replicate (Try.f57.ntmps - ([.bptr (BR.root 0) [.int .i64 v70, .int .i64 v71, .bslc (BR.root 1) (.f32 v72)]] : List DV).length) .undef) []).bind (retD TT Try.f57.results.toList 0) = (spec_l02Square_T v70 v71 v72).bind fun y => .leaf (spec_l02Square_enc v70 v71 v72 y) := by kernel_rfl
theorem spec_l02Square_fn (v70 : Int) (v71 : Int) (v72 : List Nat) (F : Fr) (hm : F.ids.length = 0) (h0 : St F [] F.H0) (hA : DVs.Ok F [] [.bptr (BR.root 0) [.int .i64 v70, .int .i64 v71, .bslc (BR.root 1) (.f32 v72)]]) {y : Bool} (hy : spec_l02Square_g v70 v71 v72 = some y) : ∃ H', FnOk Try.prog 57 (DVs.av F [.bptr (BR.root 0) [.int .i64 v70, .int .i64 v71, .bslc (BR.root 1) (.f32 v72)]]) F.H0 ((spec_l02Square_enc v70 v71 v72 y).1.av F) H' ∧ St F (spec_l02Square_enc v70 v71 v72 y).2 H' ∧ (spec_l02Square_enc v70 v71 v72 y).1.Ok F (spec_l02Square_enc v70 v71 v72 y).2 :=
  fn_fin tok spec_l02Square_hO mixed Try.func57 Try.call57 (by kernel_rfl) (LoopsOk_eq (l := []) (by kernel_rfl) trivial) (spec_l02Square_den v70 v71 v72) hy hm h0 hA
noncomputable def spec_l02Square_F : DFn := fun args L =>
  match args with
  | [a1] =>
    optT (cellsOf L 3 a1) fun cs0 =>
    (match cs0 with
    | [.int .i64 v70, .int .i64 v71, a2] =>
    optT (rowF32 L a2) fun v72 =>
    .call (spec_l02Square_g v70 v71 v72) fun y => .leaf (.bool y, L)
    | _ => .fail)
  | _ => .fail
theorem spec_l02Square_Fok : COk Try.prog 57 spec_l02Square_F true := by
  intro F L H args r L' hs ha hr
  unfold spec_l02Square_F at hr
  split at hr
  · rename_i a1
    obtain ⟨cs0, hcp0, hr⟩ := optT_run hr
    split at hr
    · rename_i v70 v71 a2
      obtain ⟨v72, hv72, hr⟩ := optT_run hr
      simp only [Tree.run] at hr
      obtain ⟨y, hy, hr⟩ := Option.bind_eq_some_iff.1 hr
      simp only [Tree.run, Option.some.injEq, Prod.mk.injEq] at hr
      obtain ⟨rfl, rfl⟩ := hr
      exact call_ok0 hs (fun k => (([a1.av F, a2.av F] : List AV)[k]?).getD .top) [a1] [.bptr (BR.root 0) [.int .i64 v70, .int .i64 v71, .bslc (BR.root 1) (.f32 v72)]] (fun F' h0 hi hρ => ⟨by simp [DVs.av, DV.av, BR.av, hρ], spec_l02Square_fn v70 v71 v72 F' (by rw [hi]; rfl) (st_nil hi) ⟨bptr_ok hi (by rw [h0]; simpa [DVs.av, DV.av, BR.av, hρ] using (cellsOf_ok hs (DVs.okAt ha 0 rfl) hcp0).1) ⟨trivial, trivial, bslc_ok hi (by rw [h0, hρ]; exact rowF32_ok hs (DVs.okAt (cellsOf_ok hs (DVs.okAt ha 0 rfl) hcp0).2 2 rfl) hv72), trivial⟩, trivial⟩ hy⟩) rfl
    · cases hr
  · cases hr
/-! spec.l04Rounds -/
noncomputable def spec_l04Rounds_LO (v75 : Int) : LOr := fun id e L =>
  match id with
  | _ => .fail
noncomputable def spec_l04Rounds_tab : List (FuncId × DFn × Bool) := [(70, spec_l00In_F, true)]
theorem spec_l04Rounds_hO : OrcOk Try.prog (tabD spec_l04Rounds_tab) (tabM spec_l04Rounds_tab) := tabD_cons spec_l00In_Fok (tabD_nil _)
noncomputable def spec_l04Rounds_T (v75 : Int) : Tree (Bool) :=
  .leaf (spec_l00In_v v75 (0 : Int) (64 : Int))

noncomputable def spec_l04Rounds_g (v75 : Int) : Option (Bool) := (spec_l04Rounds_T v75).run
def spec_l04Rounds_enc (v75 : Int) (y : Bool) : Rs := (.bool y, [])
theorem spec_l04Rounds_den (v75 : Int) : (den TT (tabD spec_l04Rounds_tab) (tabM spec_l04Rounds_tab) (spec_l04Rounds_LO v75) (codeOf Try.f121) ([.int .i64 v75] ++ List.replicate (Try.f121.ntmps - ([.int .i64 v75] : List DV).length) .undef) []).bind (retD TT Try.f121.results.toList 0) = (spec_l04Rounds_T v75).bind fun y => .leaf (spec_l04Rounds_enc v75 y) := by kernel_rfl
theorem spec_l04Rounds_fn (v75 : Int) (F : Fr) (hm : F.ids.length = 0) (h0 : St F [] F.H0) (hA : DVs.Ok F [] [.int .i64 v75]) {y : Bool} (hy : spec_l04Rounds_g v75 = some y) : ∃ H', FnOk Try.prog 121 (DVs.av F [.int .i64 v75]) F.H0 ((spec_l04Rounds_enc v75 y).1.av F) H' ∧ St F (spec_l04Rounds_enc v75 y).2 H' ∧ (spec_l04Rounds_enc v75 y).1.Ok F (spec_l04Rounds_enc v75 y).2 :=
  fn_fin tok spec_l04Rounds_hO mixed Try.func121 Try.call121 (by kernel_rfl) (LoopsOk_eq (l := []) (by kernel_rfl) trivial) (spec_l04Rounds_den v75) hy hm h0 hA
def spec_l04Rounds_v (v75 : Int) : Bool :=
  (spec_l00In_v v75 (0 : Int) (64 : Int))
theorem spec_l04Rounds_tot (v75 : Int) : spec_l04Rounds_g v75 = some (spec_l04Rounds_v v75) := by
  unfold spec_l04Rounds_g spec_l04Rounds_T spec_l04Rounds_v
  simp only [Tree.run]
  repeat' (first | rfl | split)
noncomputable def spec_l04Rounds_F : DFn := fun args L =>
  match args with
  | [.int .i64 v75] =>
    .leaf (.bool (spec_l04Rounds_v v75), L)
  | _ => .fail
theorem spec_l04Rounds_Fok : COk Try.prog 121 spec_l04Rounds_F true := by
  intro F L H args r L' hs ha hr
  unfold spec_l04Rounds_F at hr
  split at hr
  · rename_i v75
    have hy := spec_l04Rounds_tot v75
    generalize spec_l04Rounds_v v75 = y at hy hr
    simp only [Tree.run, Option.some.injEq, Prod.mk.injEq] at hr
    obtain ⟨rfl, rfl⟩ := hr
    exact call_ok0 hs (fun k => (([] : List AV)[k]?).getD .top) [.int .i64 v75] [.int .i64 v75] (fun F' h0 hi hρ => ⟨by simp [DVs.av, DV.av, BR.av, hρ], spec_l04Rounds_fn v75 F' (by rw [hi]; rfl) (st_nil hi) ⟨trivial, trivial⟩ hy⟩) rfl
  · cases hr
/-! spec.l02Own -/
noncomputable def spec_l02Own_LO (v76 : Int) (v77 : Int) (v78 : List Nat) : LOr := fun id e L =>
  match id with
  | _ => .fail
noncomputable def spec_l02Own_tab : List (FuncId × DFn × Bool) := []
theorem spec_l02Own_hO : OrcOk Try.prog (tabD spec_l02Own_tab) (tabM spec_l02Own_tab) := tabD_nil _
noncomputable def spec_l02Own_T (v76 : Int) (v77 : Int) (v78 : List Nat) : Tree (Int × Int) :=
  (.grd (fits (([] : List Nat) ++ v78).length) <|
  .leaf (v76, v77))

noncomputable def spec_l02Own_g (v76 : Int) (v77 : Int) (v78 : List Nat) : Option (Int × Int) := (spec_l02Own_T v76 v77 v78).run
def spec_l02Own_enc (v76 : Int) (v77 : Int) (v78 : List Nat) (y : Int × Int) : Rs := (.agg [.int .i64 y.1, .int .i64 y.2, .own 0 0 ((([] : List Nat) ++ v78).length)], [.row (.f32 (([] : List Nat) ++ v78)) 0])
theorem spec_l02Own_den (v76 : Int) (v77 : Int) (v78 : List Nat) : (den TT (tabD spec_l02Own_tab) (tabM spec_l02Own_tab) (spec_l02Own_LO v76 v77 v78) (codeOf Try.f101) ([.bptr (BR.root 0) [.int .i64 v76, .int .i64 v77, .bslc (BR.root 1) (.f32 v78)]] ++ List.replicate (Try.f101.ntmps - ([.bptr (BR.root 0) [.int .i64 v76, .int .i64 v77, .bslc (BR.root 1) (.f32 v78)]] : List DV).length) .undef) []).bind (retD TT Try.f101.results.toList 0) = (spec_l02Own_T v76 v77 v78).bind fun y => .leaf (spec_l02Own_enc v76 v77 v78 y) := by kernel_rfl
theorem spec_l02Own_fn (v76 : Int) (v77 : Int) (v78 : List Nat) (F : Fr) (hm : F.ids.length = 0) (h0 : St F [] F.H0) (hA : DVs.Ok F [] [.bptr (BR.root 0) [.int .i64 v76, .int .i64 v77, .bslc (BR.root 1) (.f32 v78)]]) {y : Int × Int} (hy : spec_l02Own_g v76 v77 v78 = some y) : ∃ H', FnOk Try.prog 101 (DVs.av F [.bptr (BR.root 0) [.int .i64 v76, .int .i64 v77, .bslc (BR.root 1) (.f32 v78)]]) F.H0 ((spec_l02Own_enc v76 v77 v78 y).1.av F) H' ∧ St F (spec_l02Own_enc v76 v77 v78 y).2 H' ∧ (spec_l02Own_enc v76 v77 v78 y).1.Ok F (spec_l02Own_enc v76 v77 v78 y).2 :=
  fn_fin tok spec_l02Own_hO mixed Try.func101 Try.call101 (by kernel_rfl) (LoopsOk_eq (l := []) (by kernel_rfl) trivial) (spec_l02Own_den v76 v77 v78) hy hm h0 hA
noncomputable def spec_l02Own_F : DFn := fun args L =>
  match args with
  | [a1] =>
    optT (cellsOf L 3 a1) fun cs0 =>
    (match cs0 with
    | [.int .i64 v76, .int .i64 v77, a2] =>
    optT (rowF32 L a2) fun v78 =>
    .call (spec_l02Own_g v76 v77 v78) fun y => .leaf (.agg [.int .i64 y.1, .int .i64 y.2, .own (L.length + 0) 0 ((([] : List Nat) ++ v78).length)], L ++ [.row (.f32 (([] : List Nat) ++ v78)) 0])
    | _ => .fail)
  | _ => .fail
theorem spec_l02Own_Fok : COk Try.prog 101 spec_l02Own_F true := by
  intro F L H args r L' hs ha hr
  unfold spec_l02Own_F at hr
  split at hr
  · rename_i a1
    obtain ⟨cs0, hcp0, hr⟩ := optT_run hr
    split at hr
    · rename_i v76 v77 a2
      obtain ⟨v78, hv78, hr⟩ := optT_run hr
      simp only [Tree.run] at hr
      obtain ⟨y, hy, hr⟩ := Option.bind_eq_some_iff.1 hr
      simp only [Tree.run, Option.some.injEq, Prod.mk.injEq] at hr
      obtain ⟨rfl, rfl⟩ := hr
      exact call_ok1 hs (fun k => (([a1.av F, a2.av F] : List AV)[k]?).getD .top) [a1] [.bptr (BR.root 0) [.int .i64 v76, .int .i64 v77, .bslc (BR.root 1) (.f32 v78)]] (fun F' h0 hi hρ => ⟨by simp [DVs.av, DV.av, BR.av, hρ], spec_l02Own_fn v76 v77 v78 F' (by rw [hi]; rfl) (st_nil hi) ⟨bptr_ok hi (by rw [h0]; simpa [DVs.av, DV.av, BR.av, hρ] using (cellsOf_ok hs (DVs.okAt ha 0 rfl) hcp0).1) ⟨trivial, trivial, bslc_ok hi (by rw [h0, hρ]; exact rowF32_ok hs (DVs.okAt (cellsOf_ok hs (DVs.okAt ha 0 rfl) hcp0).2 2 rfl) hv78), trivial⟩, trivial⟩ hy⟩) rfl rfl
    · cases hr
  · cases hr
/-! spec.l02Blank -/
noncomputable def spec_l02Blank_LO (v102 : Int) (v103 : Int) : LOr := fun id e L =>
  match id with
  | _ => .fail
noncomputable def spec_l02Blank_tab : List (FuncId × DFn × Bool) := []
theorem spec_l02Blank_hO : OrcOk Try.prog (tabD spec_l02Blank_tab) (tabM spec_l02Blank_tab) := tabD_nil _
noncomputable def spec_l02Blank_T (v102 : Int) (v103 : Int) : Tree (Int × Int) :=
  .leaf (v102, v103)

noncomputable def spec_l02Blank_g (v102 : Int) (v103 : Int) : Option (Int × Int) := (spec_l02Blank_T v102 v103).run
def spec_l02Blank_enc (v102 : Int) (v103 : Int) (y : Int × Int) : Rs := (.agg [.int .i64 y.1, .int .i64 y.2, .own 0 0 ((([] : List Nat)).length)], [.row (.f32 ([] : List Nat)) 0])
theorem spec_l02Blank_den (v102 : Int) (v103 : Int) : (den TT (tabD spec_l02Blank_tab) (tabM spec_l02Blank_tab) (spec_l02Blank_LO v102 v103) (codeOf Try.f139) ([.int .i64 v102, .int .i64 v103] ++ List.replicate (Try.f139.ntmps - ([.int .i64 v102, .int .i64 v103] : List DV).length) .undef) []).bind (retD TT Try.f139.results.toList 0) = (spec_l02Blank_T v102 v103).bind fun y => .leaf (spec_l02Blank_enc v102 v103 y) := by kernel_rfl
theorem spec_l02Blank_fn (v102 : Int) (v103 : Int) (F : Fr) (hm : F.ids.length = 0) (h0 : St F [] F.H0) (hA : DVs.Ok F [] [.int .i64 v102, .int .i64 v103]) {y : Int × Int} (hy : spec_l02Blank_g v102 v103 = some y) : ∃ H', FnOk Try.prog 139 (DVs.av F [.int .i64 v102, .int .i64 v103]) F.H0 ((spec_l02Blank_enc v102 v103 y).1.av F) H' ∧ St F (spec_l02Blank_enc v102 v103 y).2 H' ∧ (spec_l02Blank_enc v102 v103 y).1.Ok F (spec_l02Blank_enc v102 v103 y).2 :=
  fn_fin tok spec_l02Blank_hO mixed Try.func139 Try.call139 (by kernel_rfl) (LoopsOk_eq (l := []) (by kernel_rfl) trivial) (spec_l02Blank_den v102 v103) hy hm h0 hA
def spec_l02Blank_v (v102 : Int) (v103 : Int) : Int × Int :=
  (v102, v103)
theorem spec_l02Blank_tot (v102 : Int) (v103 : Int) : spec_l02Blank_g v102 v103 = some (spec_l02Blank_v v102 v103) := by
  unfold spec_l02Blank_g spec_l02Blank_T spec_l02Blank_v
  simp only [Tree.run]
  repeat' (first | rfl | split)
noncomputable def spec_l02Blank_F : DFn := fun args L =>
  match args with
  | [.int .i64 v102, .int .i64 v103] =>
    .leaf (.agg [.int .i64 ((spec_l02Blank_v v102 v103).1), .int .i64 ((spec_l02Blank_v v102 v103).2), .own (L.length + 0) 0 ((([] : List Nat)).length)], L ++ [.row (.f32 ([] : List Nat)) 0])
  | _ => .fail
theorem spec_l02Blank_Fok : COk Try.prog 139 spec_l02Blank_F true := by
  intro F L H args r L' hs ha hr
  unfold spec_l02Blank_F at hr
  split at hr
  · rename_i v102 v103
    have hy := spec_l02Blank_tot v102 v103
    generalize spec_l02Blank_v v102 v103 = y at hy hr
    simp only [Tree.run, Option.some.injEq, Prod.mk.injEq] at hr
    obtain ⟨rfl, rfl⟩ := hr
    exact call_ok1 hs (fun k => (([] : List AV)[k]?).getD .top) [.int .i64 v102, .int .i64 v103] [.int .i64 v102, .int .i64 v103] (fun F' h0 hi hρ => ⟨by simp [DVs.av, DV.av, BR.av, hρ], spec_l02Blank_fn v102 v103 F' (by rw [hi]; rfl) (st_nil hi) ⟨trivial, trivial, trivial⟩ hy⟩) rfl rfl
  · cases hr
/-! spec.l02At -/
noncomputable def spec_l02At_LO (v105 : Int) (v106 : Int) (v107 : List Nat) (v108 : Int) (v109 : Int) : LOr := fun id e L =>
  match id with
  | _ => .fail
noncomputable def spec_l02At_tab : List (FuncId × DFn × Bool) := []
theorem spec_l02At_hO : OrcOk Try.prog (tabD spec_l02At_tab) (tabM spec_l02At_tab) := tabD_nil _
noncomputable def spec_l02At_T (v106 : Int) (v107 : List Nat) (v108 : Int) (v109 : Int) : Tree (Nat) :=
  (.grd (inb (IntKind.i64.wrap ((IntKind.i64.wrap (v108 * v106)) + v109)) v107.length) <|
  .leaf (nth v107 (Int.toNat (IntKind.i64.wrap ((IntKind.i64.wrap (v108 * v106)) + v109)))))

noncomputable def spec_l02At_g (v106 : Int) (v107 : List Nat) (v108 : Int) (v109 : Int) : Option (Nat) := (spec_l02At_T v106 v107 v108 v109).run
def spec_l02At_enc (v105 : Int) (v106 : Int) (v107 : List Nat) (v108 : Int) (v109 : Int) (y : Nat) : Rs := (.flt .f32 y, [])
theorem spec_l02At_den (v105 : Int) (v106 : Int) (v107 : List Nat) (v108 : Int) (v109 : Int) : (den TT (tabD spec_l02At_tab) (tabM spec_l02At_tab) (spec_l02At_LO v105 v106 v107 v108 v109) (codeOf Try.f59) ([.bptr (BR.root 0) [.int .i64 v105, .int .i64 v106, .bslc (BR.root 1) (.f32 v107)], .int .i64 v108, .int .i64 v109] ++ List.replicate (Try.f59.ntmps - ([.bptr (BR.root 0) [.int .i64 v105, .int .i64 v106, .bslc (BR.root 1) (.f32 v107)], .int .i64 v108, .int .i64 v109] : List DV).length) .undef) []).bind (retD TT Try.f59.results.toList 0) = (spec_l02At_T v106 v107 v108 v109).bind fun y => .leaf (spec_l02At_enc v105 v106 v107 v108 v109 y) := by kernel_rfl
theorem spec_l02At_fn (v105 : Int) (v106 : Int) (v107 : List Nat) (v108 : Int) (v109 : Int) (F : Fr) (hm : F.ids.length = 0) (h0 : St F [] F.H0) (hA : DVs.Ok F [] [.bptr (BR.root 0) [.int .i64 v105, .int .i64 v106, .bslc (BR.root 1) (.f32 v107)], .int .i64 v108, .int .i64 v109]) {y : Nat} (hy : spec_l02At_g v106 v107 v108 v109 = some y) : ∃ H', FnOk Try.prog 59 (DVs.av F [.bptr (BR.root 0) [.int .i64 v105, .int .i64 v106, .bslc (BR.root 1) (.f32 v107)], .int .i64 v108, .int .i64 v109]) F.H0 ((spec_l02At_enc v105 v106 v107 v108 v109 y).1.av F) H' ∧ St F (spec_l02At_enc v105 v106 v107 v108 v109 y).2 H' ∧ (spec_l02At_enc v105 v106 v107 v108 v109 y).1.Ok F (spec_l02At_enc v105 v106 v107 v108 v109 y).2 :=
  fn_fin tok spec_l02At_hO mixed Try.func59 Try.call59 (by kernel_rfl) (LoopsOk_eq (l := []) (by kernel_rfl) trivial) (spec_l02At_den v105 v106 v107 v108 v109) hy hm h0 hA
noncomputable def spec_l02At_F : DFn := fun args L =>
  match args with
  | [a1, .int .i64 v108, .int .i64 v109] =>
    optT (cellsOf L 3 a1) fun cs0 =>
    (match cs0 with
    | [.int .i64 v105, .int .i64 v106, a2] =>
    optT (rowF32 L a2) fun v107 =>
    .call (spec_l02At_g v106 v107 v108 v109) fun y => .leaf (.flt .f32 y, L)
    | _ => .fail)
  | _ => .fail
theorem spec_l02At_Fok : COk Try.prog 59 spec_l02At_F true := by
  intro F L H args r L' hs ha hr
  unfold spec_l02At_F at hr
  split at hr
  · rename_i a1 v108 v109
    obtain ⟨cs0, hcp0, hr⟩ := optT_run hr
    split at hr
    · rename_i v105 v106 a2
      obtain ⟨v107, hv107, hr⟩ := optT_run hr
      simp only [Tree.run] at hr
      obtain ⟨y, hy, hr⟩ := Option.bind_eq_some_iff.1 hr
      simp only [Tree.run, Option.some.injEq, Prod.mk.injEq] at hr
      obtain ⟨rfl, rfl⟩ := hr
      exact call_ok0 hs (fun k => (([a1.av F, a2.av F] : List AV)[k]?).getD .top) [a1, .int .i64 v108, .int .i64 v109] [.bptr (BR.root 0) [.int .i64 v105, .int .i64 v106, .bslc (BR.root 1) (.f32 v107)], .int .i64 v108, .int .i64 v109] (fun F' h0 hi hρ => ⟨by simp [DVs.av, DV.av, BR.av, hρ], spec_l02At_fn v105 v106 v107 v108 v109 F' (by rw [hi]; rfl) (st_nil hi) ⟨bptr_ok hi (by rw [h0]; simpa [DVs.av, DV.av, BR.av, hρ] using (cellsOf_ok hs (DVs.okAt ha 0 rfl) hcp0).1) ⟨trivial, trivial, bslc_ok hi (by rw [h0, hρ]; exact rowF32_ok hs (DVs.okAt (cellsOf_ok hs (DVs.okAt ha 0 rfl) hcp0).2 2 rfl) hv107), trivial⟩, trivial, trivial, trivial⟩ hy⟩) rfl
    · cases hr
  · cases hr
/-! spec.l02Flip -/
noncomputable def spec_l02Flip_l0_T (v99 : Int) (v100 : Int) (v101 : List Nat) (s : Int × (List Nat)) : Tree ((Int × (List Nat)) ⊕ ((List Nat))) :=
  (.br (decide (s.1 < IntKind.i64.wrap (v99 * v100))) (
   (.grd (!decide (v99 = 0)) <|
   (.grd (!decide (v99 = 0)) <|
   (.call (spec_l02At_g v100 v101 (Int.tmod s.1 v99) (IntKind.i64.wrap (Int.tdiv s.1 v99))) fun v116 =>
   (.grd (fits (s.2 ++ ([v116] : List Nat)).length) <|
   .leaf (.inl (IntKind.i64.wrap (s.1 + (1 : Int)), s.2 ++ ([v116] : List Nat)))))))
  ) (
   .leaf (.inr s.2)
  ))

noncomputable def spec_l02Flip_l0_g (v99 : Int) (v100 : Int) (v101 : List Nat) (s0 : Int × (List Nat)) : Option ((List Nat)) := whileM (fun s => (spec_l02Flip_l0_T v99 v100 v101 s).run) s0
def spec_l02Flip_l0_E (v99 : Int) (v100 : Int) (v101 : List Nat) (s : Int × (List Nat)) : Sd := ([.bptr (BR.root 0) [.int .i64 v99, .int .i64 v100, .bslc (BR.root 1) (.f32 v101)], .top, .ptr 0 (0 : Nat) 0 (3 : Nat), .ptr 1 (0 : Nat) 0 (3 : Nat), .int .i64 s.1, .top, .top, .top, .top, .top, .top, .top, .top, .top, .top, .top, .top, .top, .top, .top, .top, .top, .top, .top, .top, .top, .top, .top, .top, .top, .top, .top, .top, .top, .top, .top, .top, .top, .top, .top, .top, .top, .top, .top, .top, .top, .top], [.gen [.int .i64 (0 : Int), .int .i64 (0 : Int), .nilslc] false 0, .gen [.int .i64 ((spec_l02Blank_v v100 v99).1), .int .i64 ((spec_l02Blank_v v100 v99).2), .own 2 0 ((s.2).length)] false 0, .row (.f32 s.2) 0])
def spec_l02Flip_l0_X (v99 : Int) (v100 : Int) (v101 : List Nat) (x : (List Nat)) : Out := (.normal, [.top, .top, .ptr 0 (0 : Nat) 0 (3 : Nat), .ptr 1 (0 : Nat) 0 (3 : Nat), .top, .top, .top, .top, .top, .top, .top, .top, .top, .top, .top, .top, .top, .top, .top, .top, .top, .top, .top, .top, .top, .top, .top, .top, .top, .top, .top, .top, .top, .top, .top, .top, .top, .top, .top, .top, .top, .top, .top, .top, .top, .top, .top], [.gen [.int .i64 (0 : Int), .int .i64 (0 : Int), .nilslc] false 0, .gen [.int .i64 ((spec_l02Blank_v v100 v99).1), .int .i64 ((spec_l02Blank_v v100 v99).2), .own 2 0 ((x).length)] false 0, .row (.f32 x) 0])
def spec_l02Flip_l0_kill : List Nat := [0, 1, 0, 0, 0, 1, 1, 1, 1, 1, 1, 1, 1, 1, 1, 1, 1, 1, 1, 1, 1, 1, 1, 1, 1, 1, 1, 1, 1, 1, 1, 1, 1, 1, 1, 1, 1, 1, 1, 1, 1, 1, 1, 1, 1, 1, 1]
def spec_l02Flip_l0_nx : Exit → List Nat
  | .exit 0 => [1, 1, 0, 0, 1, 1, 1, 1, 1, 1, 1, 1, 1, 1, 1, 1, 1, 1, 1, 1, 1, 1, 1, 1, 1, 1, 1, 1, 1, 1, 1, 1, 1, 1, 1, 1, 1, 1, 1, 1, 1, 1, 1, 1, 1, 1, 1]
  | .ret => [1, 1, 0, 1, 1, 1, 1, 1, 1, 1, 1, 1, 1, 1, 1, 1, 1, 1, 1, 1, 1, 1, 1, 1, 1, 1, 1, 1, 1, 1, 1, 1, 1, 1, 1, 1, 1, 1, 1, 1, 1, 1, 1, 1, 1, 1, 1]
  | _ => []
noncomputable def spec_l02Flip_LO (v99 : Int) (v100 : Int) (v101 : List Nat) : LOr := fun id e L =>
  match id with
  | 0 => .need (normA 0 spec_l02Flip_l0_kill e L = some (spec_l02Flip_l0_E v99 v100 v101 ((gI (vAt e 4)), (gRF L (cAt L (vAt e 3) 2))))) (.call (spec_l02Flip_l0_g v99 v100 v101 ((gI (vAt e 4)), (gRF L (cAt L (vAt e 3) 2)))) fun x => .leaf (spec_l02Flip_l0_X v99 v100 v101 x))
  | _ => .fail
noncomputable def spec_l02Flip_tab : List (FuncId × DFn × Bool) := [(139, spec_l02Blank_F, true), (59, spec_l02At_F, true)]
theorem spec_l02Flip_hO : OrcOk Try.prog (tabD spec_l02Flip_tab) (tabM spec_l02Flip_tab) := tabD_cons spec_l02Blank_Fok (tabD_cons spec_l02At_Fok (tabD_nil _))
theorem spec_l02Flip_l0_be (v99 : Int) (v100 : Int) (v101 : List Nat) (s : Int × (List Nat)) : bodyT TT (tabD spec_l02Flip_tab) (tabM spec_l02Flip_tab) (spec_l02Flip_LO v99 v100 v101) 0 spec_l02Flip_l0_kill spec_l02Flip_l0_nx (bodyOf Try.f122 0) 0 (spec_l02Flip_l0_E v99 v100 v101 s) = (spec_l02Flip_l0_T v99 v100 v101 s).bind fun y => .leaf (outS (spec_l02Flip_l0_E v99 v100 v101) (spec_l02Flip_l0_X v99 v100 v101) y) := by kernel_rfl
theorem spec_l02Flip_l0_ok (v99 : Int) (v100 : Int) (v101 : List Nat) : LSound Try.prog 0 (spec_l02Flip_LO v99 v100 v101) 0 (bodyOf Try.f122 0) := by
  intro e L out h
  exact lo_ok (E := spec_l02Flip_l0_E v99 v100 v101) (gT := spec_l02Flip_l0_T v99 v100 v101) (X := spec_l02Flip_l0_X v99 v100 v101) (s0 := ((gI (vAt e 4)), (gRF L (cAt L (vAt e 3) 2)))) tok spec_l02Flip_hO mixed (LoopsOk_eq (l := []) (by kernel_rfl) trivial) (spec_l02Flip_l0_be v99 v100 v101) rfl (by intro x; rfl) h
noncomputable def spec_l02Flip_T (v99 : Int) (v100 : Int) (v101 : List Nat) : Tree (Int × Int × (List Nat)) :=
  (.need (some (spec_l02Flip_l0_E v99 v100 v101 ((0 : Int), ([] : List Nat))) = some (spec_l02Flip_l0_E v99 v100 v101 ((0 : Int), ([] : List Nat)))) <|
  (.call (spec_l02Flip_l0_g v99 v100 v101 ((0 : Int), ([] : List Nat))) fun v117 =>
  .leaf ((spec_l02Blank_v v100 v99).1, (spec_l02Blank_v v100 v99).2, v117)))

noncomputable def spec_l02Flip_g (v99 : Int) (v100 : Int) (v101 : List Nat) : Option (Int × Int × (List Nat)) := (spec_l02Flip_T v99 v100 v101).run
def spec_l02Flip_enc (v99 : Int) (v100 : Int) (v101 : List Nat) (y : Int × Int × (List Nat)) : Rs := (.agg [.int .i64 y.1, .int .i64 y.2.1, .own 0 0 ((y.2.2).length)], [.row (.f32 y.2.2) 0])
theorem spec_l02Flip_den (v99 : Int) (v100 : Int) (v101 : List Nat) : (den TT (tabD spec_l02Flip_tab) (tabM spec_l02Flip_tab) (spec_l02Flip_LO v99 v100 v101) (codeOf Try.f122) ([.bptr (BR.root 0) [.int .i64 v99, .int .i64 v100, .bslc (BR.root 1) (.f32 v101)]] ++ List.replicate (Try.f122.ntmps - ([.bptr (BR.root 0) [.int .i64 v99, .int .i64 v100, .bslc (BR.root 1) (.f32 v101)]] : List DV).length) .undef) []).bind (retD TT Try.f122.results.toList 0) = (spec_l02Flip_T v99 v100 v101).bind fun y => .leaf (spec_l02Flip_enc v99 v100 v101 y) := by kernel_rfl
theorem spec_l02Flip_fn (v99 : Int) (v100 : Int) (v101 : List Nat) (F : Fr) (hm : F.ids.length = 0) (h0 : St F [] F.H0) (hA : DVs.Ok F [] [.bptr (BR.root 0) [.int .i64 v99, .int .i64 v100, .bslc (BR.root 1) (.f32 v101)]]) {y : Int × Int × (List Nat)} (hy : spec_l02Flip_g v99 v100 v101 = some y) : ∃ H', FnOk Try.prog 122 (DVs.av F [.bptr (BR.root 0) [.int .i64 v99, .int .i64 v100, .bslc (BR.root 1) (.f32 v101)]]) F.H0 ((spec_l02Flip_enc v99 v100 v101 y).1.av F) H' ∧ St F (spec_l02Flip_enc v99 v100 v101 y).2 H' ∧ (spec_l02Flip_enc v99 v100 v101 y).1.Ok F (spec_l02Flip_enc v99 v100 v101 y).2 :=
  fn_fin tok spec_l02Flip_hO mixed Try.func122 Try.call122 (by kernel_rfl) (LoopsOk_eq (l := [(0, bodyOf Try.f122 0)]) (by kernel_rfl) ⟨spec_l02Flip_l0_ok v99 v100 v101, trivial⟩) (spec_l02Flip_den v99 v100 v101) hy hm h0 hA
noncomputable def spec_l02Flip_F : DFn := fun args L =>
  match args with
  | [a1] =>
    optT (cellsOf L 3 a1) fun cs0 =>
    (match cs0 with
    | [.int .i64 v99, .int .i64 v100, a2] =>
    optT (rowF32 L a2) fun v101 =>
    .call (spec_l02Flip_g v99 v100 v101) fun y => .leaf (.agg [.int .i64 y.1, .int .i64 y.2.1, .own (L.length + 0) 0 ((y.2.2).length)], L ++ [.row (.f32 y.2.2) 0])
    | _ => .fail)
  | _ => .fail
theorem spec_l02Flip_Fok : COk Try.prog 122 spec_l02Flip_F true := by
  intro F L H args r L' hs ha hr
  unfold spec_l02Flip_F at hr
  split at hr
  · rename_i a1
    obtain ⟨cs0, hcp0, hr⟩ := optT_run hr
    split at hr
    · rename_i v99 v100 a2
      obtain ⟨v101, hv101, hr⟩ := optT_run hr
      simp only [Tree.run] at hr
      obtain ⟨y, hy, hr⟩ := Option.bind_eq_some_iff.1 hr
      simp only [Tree.run, Option.some.injEq, Prod.mk.injEq] at hr
      obtain ⟨rfl, rfl⟩ := hr
      exact call_ok1 hs (fun k => (([a1.av F, a2.av F] : List AV)[k]?).getD .top) [a1] [.bptr (BR.root 0) [.int .i64 v99, .int .i64 v100, .bslc (BR.root 1) (.f32 v101)]] (fun F' h0 hi hρ => ⟨by simp [DVs.av, DV.av, BR.av, hρ], spec_l02Flip_fn v99 v100 v101 F' (by rw [hi]; rfl) (st_nil hi) ⟨bptr_ok hi (by rw [h0]; simpa [DVs.av, DV.av, BR.av, hρ] using (cellsOf_ok hs (DVs.okAt ha 0 rfl) hcp0).1) ⟨trivial, trivial, bslc_ok hi (by rw [h0, hρ]; exact rowF32_ok hs (DVs.okAt (cellsOf_ok hs (DVs.okAt ha 0 rfl) hcp0).2 2 rfl) hv101), trivial⟩, trivial⟩ hy⟩) rfl rfl
    · cases hr
  · cases hr
/-! spec.l02Fit -/
noncomputable def spec_l02Fit_LO (v125 : Int) (v126 : Int) (v127 : List Nat) (v128 : Int) (v129 : Int) (v130 : List Nat) : LOr := fun id e L =>
  match id with
  | _ => .fail
noncomputable def spec_l02Fit_tab : List (FuncId × DFn × Bool) := [(61, spec_l02Is_F, true)]
theorem spec_l02Fit_hO : OrcOk Try.prog (tabD spec_l02Fit_tab) (tabM spec_l02Fit_tab) := tabD_cons spec_l02Is_Fok (tabD_nil _)
noncomputable def spec_l02Fit_T (v125 : Int) (v126 : Int) (v127 : List Nat) (v128 : Int) (v129 : Int) (v130 : List Nat) : Tree (Bool) :=
  (.call (spec_l02Is_g v125 v126 v127) fun v131 =>
  (.br v131 (
   (.call (spec_l02Is_g v128 v129 v130) fun v132 =>
   (.br v132 (
    .leaf (decide (v126 = v128))
   ) (
    .leaf false
   )))
  ) (
   .leaf false
  )))

noncomputable def spec_l02Fit_g (v125 : Int) (v126 : Int) (v127 : List Nat) (v128 : Int) (v129 : Int) (v130 : List Nat) : Option (Bool) := (spec_l02Fit_T v125 v126 v127 v128 v129 v130).run
def spec_l02Fit_enc (v125 : Int) (v126 : Int) (v127 : List Nat) (v128 : Int) (v129 : Int) (v130 : List Nat) (y : Bool) : Rs := (.bool y, [])
theorem spec_l02Fit_den (v125 : Int) (v126 : Int) (v127 : List Nat) (v128 : Int) (v129 : Int) (v130 : List Nat) : (den TT (tabD spec_l02Fit_tab) (tabM spec_l02Fit_tab) (spec_l02Fit_LO v125 v126 v127 v128 v129 v130) (codeOf Try.f69) ([.bptr (BR.root 0) [.int .i64 v125, .int .i64 v126, .bslc (BR.root 1) (.f32 v127)], .bptr (BR.root 2) [.int .i64 v128, .int .i64 v129, .bslc (BR.root 3) (.f32 v130)]] ++ List.replicate (Try.f69.ntmps - ([.bptr (BR.root 0) [.int .i64 v125, .int .i64 v126, .bslc (BR.root 1) (.f32 v127)], .bptr (BR.root 2) [.int .i64 v128, .int .i64 v129, .bslc (BR.root 3) (.f32 v130)]] : List DV).length) .undef) []).bind (retD TT Try.f69.results.toList 0) = (spec_l02Fit_T v125 v126 v127 v128 v129 v130).bind fun y => .leaf (spec_l02Fit_enc v125 v126 v127 v128 v129 v130 y) := by kernel_rfl
theorem spec_l02Fit_fn (v125 : Int) (v126 : Int) (v127 : List Nat) (v128 : Int) (v129 : Int) (v130 : List Nat) (F : Fr) (hm : F.ids.length = 0) (h0 : St F [] F.H0) (hA : DVs.Ok F [] [.bptr (BR.root 0) [.int .i64 v125, .int .i64 v126, .bslc (BR.root 1) (.f32 v127)], .bptr (BR.root 2) [.int .i64 v128, .int .i64 v129, .bslc (BR.root 3) (.f32 v130)]]) {y : Bool} (hy : spec_l02Fit_g v125 v126 v127 v128 v129 v130 = some y) : ∃ H', FnOk Try.prog 69 (DVs.av F [.bptr (BR.root 0) [.int .i64 v125, .int .i64 v126, .bslc (BR.root 1) (.f32 v127)], .bptr (BR.root 2) [.int .i64 v128, .int .i64 v129, .bslc (BR.root 3) (.f32 v130)]]) F.H0 ((spec_l02Fit_enc v125 v126 v127 v128 v129 v130 y).1.av F) H' ∧ St F (spec_l02Fit_enc v125 v126 v127 v128 v129 v130 y).2 H' ∧ (spec_l02Fit_enc v125 v126 v127 v128 v129 v130 y).1.Ok F (spec_l02Fit_enc v125 v126 v127 v128 v129 v130 y).2 :=
  fn_fin tok spec_l02Fit_hO mixed Try.func69 Try.call69 (by kernel_rfl) (LoopsOk_eq (l := []) (by kernel_rfl) trivial) (spec_l02Fit_den v125 v126 v127 v128 v129 v130) hy hm h0 hA
noncomputable def spec_l02Fit_F : DFn := fun args L =>
  match args with
  | [a1, a3] =>
    optT (cellsOf L 3 a1) fun cs0 =>
    (match cs0 with
    | [.int .i64 v125, .int .i64 v126, a2] =>
    optT (rowF32 L a2) fun v127 =>
    optT (cellsOf L 3 a3) fun cs2 =>
    (match cs2 with
    | [.int .i64 v128, .int .i64 v129, a4] =>
    optT (rowF32 L a4) fun v130 =>
    .call (spec_l02Fit_g v125 v126 v127 v128 v129 v130) fun y => .leaf (.bool y, L)
    | _ => .fail)
    | _ => .fail)
  | _ => .fail
theorem spec_l02Fit_Fok : COk Try.prog 69 spec_l02Fit_F true := by
  intro F L H args r L' hs ha hr
  unfold spec_l02Fit_F at hr
  split at hr
  · rename_i a1 a3
    obtain ⟨cs0, hcp0, hr⟩ := optT_run hr
    split at hr
    · rename_i v125 v126 a2
      obtain ⟨v127, hv127, hr⟩ := optT_run hr
      obtain ⟨cs2, hcp2, hr⟩ := optT_run hr
      split at hr
      · rename_i v128 v129 a4
        obtain ⟨v130, hv130, hr⟩ := optT_run hr
        simp only [Tree.run] at hr
        obtain ⟨y, hy, hr⟩ := Option.bind_eq_some_iff.1 hr
        simp only [Tree.run, Option.some.injEq, Prod.mk.injEq] at hr
        obtain ⟨rfl, rfl⟩ := hr
        exact call_ok0 hs (fun k => (([a1.av F, a2.av F, a3.av F, a4.av F] : List AV)[k]?).getD .top) [a1, a3] [.bptr (BR.root 0) [.int .i64 v125, .int .i64 v126, .bslc (BR.root 1) (.f32 v127)], .bptr (BR.root 2) [.int .i64 v128, .int .i64 v129, .bslc (BR.root 3) (.f32 v130)]] (fun F' h0 hi hρ => ⟨by simp [DVs.av, DV.av, BR.av, hρ], spec_l02Fit_fn v125 v126 v127 v128 v129 v130 F' (by rw [hi]; rfl) (st_nil hi) ⟨bptr_ok hi (by rw [h0]; simpa [DVs.av, DV.av, BR.av, hρ] using (cellsOf_ok hs (DVs.okAt ha 0 rfl) hcp0).1) ⟨trivial, trivial, bslc_ok hi (by rw [h0, hρ]; exact rowF32_ok hs (DVs.okAt (cellsOf_ok hs (DVs.okAt ha 0 rfl) hcp0).2 2 rfl) hv127), trivial⟩, bptr_ok hi (by rw [h0]; simpa [DVs.av, DV.av, BR.av, hρ] using (cellsOf_ok hs (DVs.okAt ha 1 rfl) hcp2).1) ⟨trivial, trivial, bslc_ok hi (by rw [h0, hρ]; exact rowF32_ok hs (DVs.okAt (cellsOf_ok hs (DVs.okAt ha 1 rfl) hcp2).2 2 rfl) hv130), trivial⟩, trivial⟩ hy⟩) rfl
      · cases hr
    · cases hr
  · cases hr
/-! spec.l02Mul -/
noncomputable def spec_l02Mul_l2_T (v135 : Int) (v136 : List Nat) (v138 : Int) (v139 : List Nat) (v192 : Int) (v195 : List Nat) (s : Nat × Int) : Tree ((Nat × Int) ⊕ (Nat)) :=
  (.br (decide (s.2 < v135)) (
   (.grd (!decide (v138 = 0)) <|
   (.call (spec_l02At_g v135 v136 (IntKind.i64.wrap (Int.tdiv v192 v138)) s.2) fun v196 =>
   (.grd (!decide (v138 = 0)) <|
   (.call (spec_l02At_g v138 v139 s.2 (Int.tmod v192 v138)) fun v197 =>
   .leaf (.inl (fadd .f32 s.1 (fmul .f32 v196 v197), IntKind.i64.wrap (s.2 + (1 : Int))))))))
  ) (
   .leaf (.inr s.1)
  ))

noncomputable def spec_l02Mul_l2_g (v135 : Int) (v136 : List Nat) (v138 : Int) (v139 : List Nat) (v192 : Int) (v195 : List Nat) (s0 : Nat × Int) : Option (Nat) := whileM (fun s => (spec_l02Mul_l2_T v135 v136 v138 v139 v192 v195 s).run) s0
def spec_l02Mul_l2_E (v134 : Int) (v135 : Int) (v136 : List Nat) (v137 : Int) (v138 : Int) (v139 : List Nat) (v192 : Int) (v195 : List Nat) (s : Nat × Int) : Sd := ([.bptr (BR.root 0) [.int .i64 v134, .int .i64 v135, .bslc (BR.root 1) (.f32 v136)], .bptr (BR.root 2) [.int .i64 v137, .int .i64 v138, .bslc (BR.root 3) (.f32 v139)], .top, .top, .ptr 0 (0 : Nat) 0 (3 : Nat), .ptr 1 (0 : Nat) 0 (3 : Nat), .int .i64 v192, .flt .f32 s.1, .int .i64 s.2, .top, .top, .top, .top, .top, .top, .top, .top, .top, .top, .top, .top, .top, .top, .top, .top, .top, .top, .top, .top, .top, .top, .top, .top, .top, .top, .top, .top, .top, .top, .top, .top, .top, .top, .top, .top, .top, .top, .top, .top, .top, .top, .top, .top, .top, .top, .top, .top, .top, .top, .top, .top, .top, .top, .top, .top, .top, .top], [.gen [.int .i64 (0 : Int), .int .i64 (0 : Int), .nilslc] false 0, .gen [.int .i64 ((spec_l02Blank_v v134 v138).1), .int .i64 ((spec_l02Blank_v v134 v138).2), .own 2 0 ((v195).length)] false 0, .row (.f32 v195) 0])
def spec_l02Mul_l2_X (v134 : Int) (v135 : Int) (v136 : List Nat) (v137 : Int) (v138 : Int) (v139 : List Nat) (v192 : Int) (v195 : List Nat) (x : Nat) : Out := (.normal, [.bptr (BR.root 0) [.int .i64 v134, .int .i64 v135, .bslc (BR.root 1) (.f32 v136)], .bptr (BR.root 2) [.int .i64 v137, .int .i64 v138, .bslc (BR.root 3) (.f32 v139)], .top, .top, .ptr 0 (0 : Nat) 0 (3 : Nat), .ptr 1 (0 : Nat) 0 (3 : Nat), .int .i64 v192, .flt .f32 x, .top, .top, .top, .top, .top, .top, .top, .top, .top, .top, .top, .top, .top, .top, .top, .top, .top, .top, .top, .top, .top, .top, .top, .top, .top, .top, .top, .top, .top, .top, .top, .top, .top, .top, .top, .top, .top, .top, .top, .top, .top, .top, .top, .top, .top, .top, .top, .top, .top, .top, .top, .top, .top, .top, .top, .top, .top, .top, .top], [.gen [.int .i64 (0 : Int), .int .i64 (0 : Int), .nilslc] false 0, .gen [.int .i64 ((spec_l02Blank_v v134 v138).1), .int .i64 ((spec_l02Blank_v v134 v138).2), .own 2 0 ((v195).length)] false 0, .row (.f32 v195) 0])
def spec_l02Mul_l2_kill : List Nat := [0, 0, 1, 1, 0, 0, 0, 0, 0, 1, 1, 1, 1, 1, 1, 1, 1, 1, 1, 1, 1, 1, 1, 1, 1, 1, 1, 1, 1, 1, 1, 1, 1, 1, 1, 1, 1, 1, 1, 1, 1, 1, 1, 1, 1, 1, 1, 1, 1, 1, 1, 1, 1, 1, 1, 1, 1, 1, 1, 1, 1, 1, 1, 1, 1, 1, 1]
def spec_l02Mul_l2_nx : Exit → List Nat
  | .exit 0 => [1, 1, 1, 1, 0, 0, 1, 1, 1, 1, 1, 1, 1, 1, 1, 1, 1, 1, 1, 1, 1, 1, 1, 1, 1, 1, 1, 1, 1, 1, 1, 1, 1, 1, 1, 1, 1, 1, 1, 1, 1, 1, 1, 1, 1, 1, 1, 1, 1, 1, 1, 1, 1, 1, 1, 1, 1, 1, 1, 1, 1, 1, 1, 1, 1, 1, 1]
  | .exit 1 => [0, 0, 1, 1, 0, 0, 0, 1, 1, 1, 1, 1, 1, 1, 1, 1, 1, 1, 1, 1, 1, 1, 1, 1, 1, 1, 1, 1, 1, 1, 1, 1, 1, 1, 1, 1, 1, 1, 1, 1, 1, 1, 1, 1, 1, 1, 1, 1, 1, 1, 1, 1, 1, 1, 1, 1, 1, 1, 1, 1, 1, 1, 1, 1, 1, 1, 1]
  | .exit 2 => [0, 0, 1, 1, 0, 0, 0, 0, 1, 1, 1, 1, 1, 1, 1, 1, 1, 1, 1, 1, 1, 1, 1, 1, 1, 1, 1, 1, 1, 1, 1, 1, 1, 1, 1, 1, 1, 1, 1, 1, 1, 1, 1, 1, 1, 1, 1, 1, 1, 1, 1, 1, 1, 1, 1, 1, 1, 1, 1, 1, 1, 1, 1, 1, 1, 1, 1]
  | .ret => [1, 1, 1, 1, 0, 1, 1, 1, 1, 1, 1, 1, 1, 1, 1, 1, 1, 1, 1, 1, 1, 1, 1, 1, 1, 1, 1, 1, 1, 1, 1, 1, 1, 1, 1, 1, 1, 1, 1, 1, 1, 1, 1, 1, 1, 1, 1, 1, 1, 1, 1, 1, 1, 1, 1, 1, 1, 1, 1, 1, 1, 1, 1, 1, 1, 1, 1]
  | _ => []
noncomputable def spec_l02Mul_l0_T (v134 : Int) (v135 : Int) (v136 : List Nat) (v137 : Int) (v138 : Int) (v139 : List Nat) (s : Int × (List Nat)) : Tree ((Int × (List Nat)) ⊕ ((List Nat))) :=
  (.br (decide (s.1 < IntKind.i64.wrap (v134 * v138))) (
   (.need (some (spec_l02Mul_l2_E v134 v135 v136 v137 v138 v139 s.1 s.2 ((0 : Nat), (0 : Int))) = some (spec_l02Mul_l2_E v134 v135 v136 v137 v138 v139 s.1 s.2 ((0 : Nat), (0 : Int)))) <|
   (.call (spec_l02Mul_l2_g v135 v136 v138 v139 s.1 s.2 ((0 : Nat), (0 : Int))) fun v198 =>
   (.grd (fits (s.2 ++ ([v198] : List Nat)).length) <|
   .leaf (.inl (IntKind.i64.wrap (s.1 + (1 : Int)), s.2 ++ ([v198] : List Nat))))))
  ) (
   .leaf (.inr s.2)
  ))

noncomputable def spec_l02Mul_l0_g (v134 : Int) (v135 : Int) (v136 : List Nat) (v137 : Int) (v138 : Int) (v139 : List Nat) (s0 : Int × (List Nat)) : Option ((List Nat)) := whileM (fun s => (spec_l02Mul_l0_T v134 v135 v136 v137 v138 v139 s).run) s0
def spec_l02Mul_l0_E (v134 : Int) (v135 : Int) (v136 : List Nat) (v137 : Int) (v138 : Int) (v139 : List Nat) (s : Int × (List Nat)) : Sd := ([.bptr (BR.root 0) [.int .i64 v134, .int .i64 v135, .bslc (BR.root 1) (.f32 v136)], .bptr (BR.root 2) [.int .i64 v137, .int .i64 v138, .bslc (BR.root 3) (.f32 v139)], .top, .top, .ptr 0 (0 : Nat) 0 (3 : Nat), .ptr 1 (0 : Nat) 0 (3 : Nat), .int .i64 s.1, .top, .top, .top, .top, .top, .top, .top, .top, .top, .top, .top, .top, .top, .top, .top, .top, .top, .top, .top, .top, .top, .top, .top, .top, .top, .top, .top, .top, .top, .top, .top, .top, .top, .top, .top, .top, .top, .top, .top, .top, .top, .top, .top, .top, .top, .top, .top, .top, .top, .top, .top, .top, .top, .top, .top, .top, .top, .top, .top, .top], [.gen [.int .i64 (0 : Int), .int .i64 (0 : Int), .nilslc] false 0, .gen [.int .i64 ((spec_l02Blank_v v134 v138).1), .int .i64 ((spec_l02Blank_v v134 v138).2), .own 2 0 ((s.2).length)] false 0, .row (.f32 s.2) 0])
def spec_l02Mul_l0_X (v134 : Int) (v135 : Int) (v136 : List Nat) (v137 : Int) (v138 : Int) (v139 : List Nat) (x : (List Nat)) : Out := (.normal, [.top, .top, .top, .top, .ptr 0 (0 : Nat) 0 (3 : Nat), .ptr 1 (0 : Nat) 0 (3 : Nat), .top, .top, .top, .top, .top, .top, .top, .top, .top, .top, .top, .top, .top, .top, .top, .top, .top, .top, .top, .top, .top, .top, .top, .top, .top, .top, .top, .top, .top, .top, .top, .top, .top, .top, .top, .top, .top, .top, .top, .top, .top, .top, .top, .top, .top, .top, .top, .top, .top, .top, .top, .top, .top, .top, .top, .top, .top, .top, .top, .top, .top], [.gen [.int .i64 (0 : Int), .int .i64 (0 : Int), .nilslc] false 0, .gen [.int .i64 ((spec_l02Blank_v v134 v138).1), .int .i64 ((spec_l02Blank_v v134 v138).2), .own 2 0 ((x).length)] false 0, .row (.f32 x) 0])
def spec_l02Mul_l0_kill : List Nat := [0, 0, 1, 1, 0, 0, 0, 1, 1, 1, 1, 1, 1, 1, 1, 1, 1, 1, 1, 1, 1, 1, 1, 1, 1, 1, 1, 1, 1, 1, 1, 1, 1, 1, 1, 1, 1, 1, 1, 1, 1, 1, 1, 1, 1, 1, 1, 1, 1, 1, 1, 1, 1, 1, 1, 1, 1, 1, 1, 1, 1, 1, 1, 1, 1, 1, 1]
def spec_l02Mul_l0_nx : Exit → List Nat
  | .exit 0 => [1, 1, 1, 1, 0, 0, 1, 1, 1, 1, 1, 1, 1, 1, 1, 1, 1, 1, 1, 1, 1, 1, 1, 1, 1, 1, 1, 1, 1, 1, 1, 1, 1, 1, 1, 1, 1, 1, 1, 1, 1, 1, 1, 1, 1, 1, 1, 1, 1, 1, 1, 1, 1, 1, 1, 1, 1, 1, 1, 1, 1, 1, 1, 1, 1, 1, 1]
  | .ret => [1, 1, 1, 1, 0, 1, 1, 1, 1, 1, 1, 1, 1, 1, 1, 1, 1, 1, 1, 1, 1, 1, 1, 1, 1, 1, 1, 1, 1, 1, 1, 1, 1, 1, 1, 1, 1, 1, 1, 1, 1, 1, 1, 1, 1, 1, 1, 1, 1, 1, 1, 1, 1, 1, 1, 1, 1, 1, 1, 1, 1, 1, 1, 1, 1, 1, 1]
  | _ => []
noncomputable def spec_l02Mul_LO (v134 : Int) (v135 : Int) (v136 : List Nat) (v137 : Int) (v138 : Int) (v139 : List Nat) : LOr := fun id e L =>
  match id with
  | 2 => .need (normA 0 spec_l02Mul_l2_kill e L = some (spec_l02Mul_l2_E v134 v135 v136 v137 v138 v139 (gI (vAt e 6)) (gRF L (cAt L (vAt e 5) 2)) ((gF (vAt e 7)), (gI (vAt e 8))))) (.call (spec_l02Mul_l2_g v135 v136 v138 v139 (gI (vAt e 6)) (gRF L (cAt L (vAt e 5) 2)) ((gF (vAt e 7)), (gI (vAt e 8)))) fun x => .leaf (spec_l02Mul_l2_X v134 v135 v136 v137 v138 v139 (gI (vAt e 6)) (gRF L (cAt L (vAt e 5) 2)) x))
  | 0 => .need (normA 0 spec_l02Mul_l0_kill e L = some (spec_l02Mul_l0_E v134 v135 v136 v137 v138 v139 ((gI (vAt e 6)), (gRF L (cAt L (vAt e 5) 2))))) (.call (spec_l02Mul_l0_g v134 v135 v136 v137 v138 v139 ((gI (vAt e 6)), (gRF L (cAt L (vAt e 5) 2)))) fun x => .leaf (spec_l02Mul_l0_X v134 v135 v136 v137 v138 v139 x))
  | _ => .fail
noncomputable def spec_l02Mul_tab : List (FuncId × DFn × Bool) := [(139, spec_l02Blank_F, true), (59, spec_l02At_F, true)]
theorem spec_l02Mul_hO : OrcOk Try.prog (tabD spec_l02Mul_tab) (tabM spec_l02Mul_tab) := tabD_cons spec_l02Blank_Fok (tabD_cons spec_l02At_Fok (tabD_nil _))
theorem spec_l02Mul_l2_be (v134 : Int) (v135 : Int) (v136 : List Nat) (v137 : Int) (v138 : Int) (v139 : List Nat) (v192 : Int) (v195 : List Nat) (s : Nat × Int) : bodyT TT (tabD spec_l02Mul_tab) (tabM spec_l02Mul_tab) (spec_l02Mul_LO v134 v135 v136 v137 v138 v139) 0 spec_l02Mul_l2_kill spec_l02Mul_l2_nx (bodyOf Try.f72 2) 2 (spec_l02Mul_l2_E v134 v135 v136 v137 v138 v139 v192 v195 s) = (spec_l02Mul_l2_T v135 v136 v138 v139 v192 v195 s).bind fun y => .leaf (outS (spec_l02Mul_l2_E v134 v135 v136 v137 v138 v139 v192 v195) (spec_l02Mul_l2_X v134 v135 v136 v137 v138 v139 v192 v195) y) := by kernel_rfl
theorem spec_l02Mul_l2_ok (v134 : Int) (v135 : Int) (v136 : List Nat) (v137 : Int) (v138 : Int) (v139 : List Nat) : LSound Try.prog 0 (spec_l02Mul_LO v134 v135 v136 v137 v138 v139) 2 (bodyOf Try.f72 2) := by
  intro e L out h
  exact lo_ok (E := spec_l02Mul_l2_E v134 v135 v136 v137 v138 v139 (gI (vAt e 6)) (gRF L (cAt L (vAt e 5) 2))) (gT := spec_l02Mul_l2_T v135 v136 v138 v139 (gI (vAt e 6)) (gRF L (cAt L (vAt e 5) 2))) (X := spec_l02Mul_l2_X v134 v135 v136 v137 v138 v139 (gI (vAt e 6)) (gRF L (cAt L (vAt e 5) 2))) (s0 := ((gF (vAt e 7)), (gI (vAt e 8)))) tok spec_l02Mul_hO mixed (LoopsOk_eq (l := []) (by kernel_rfl) trivial) (spec_l02Mul_l2_be v134 v135 v136 v137 v138 v139 (gI (vAt e 6)) (gRF L (cAt L (vAt e 5) 2))) rfl (by intro x; rfl) h
theorem spec_l02Mul_l0_be (v134 : Int) (v135 : Int) (v136 : List Nat) (v137 : Int) (v138 : Int) (v139 : List Nat) (s : Int × (List Nat)) : bodyT TT (tabD spec_l02Mul_tab) (tabM spec_l02Mul_tab) (spec_l02Mul_LO v134 v135 v136 v137 v138 v139) 0 spec_l02Mul_l0_kill spec_l02Mul_l0_nx (bodyOf Try.f72 0) 0 (spec_l02Mul_l0_E v134 v135 v136 v137 v138 v139 s) = (spec_l02Mul_l0_T v134 v135 v136 v137 v138 v139 s).bind fun y => .leaf (outS (spec_l02Mul_l0_E v134 v135 v136 v137 v138 v139) (spec_l02Mul_l0_X v134 v135 v136 v137 v138 v139) y) := by kernel_rfl
theorem spec_l02Mul_l0_ok (v134 : Int) (v135 : Int) (v136 : List Nat) (v137 : Int) (v138 : Int) (v139 : List Nat) : LSound Try.prog 0 (spec_l02Mul_LO v134 v135 v136 v137 v138 v139) 0 (bodyOf Try.f72 0) := by
  intro e L out h
  exact lo_ok (E := spec_l02Mul_l0_E v134 v135 v136 v137 v138 v139) (gT := spec_l02Mul_l0_T v134 v135 v136 v137 v138 v139) (X := spec_l02Mul_l0_X v134 v135 v136 v137 v138 v139) (s0 := ((gI (vAt e 6)), (gRF L (cAt L (vAt e 5) 2)))) tok spec_l02Mul_hO mixed (LoopsOk_eq (l := [(2, bodyOf Try.f72 2)]) (by kernel_rfl) ⟨spec_l02Mul_l2_ok v134 v135 v136 v137 v138 v139, trivial⟩) (spec_l02Mul_l0_be v134 v135 v136 v137 v138 v139) rfl (by intro x; rfl) h
noncomputable def spec_l02Mul_T (v134 : Int) (v135 : Int) (v136 : List Nat) (v137 : Int) (v138 : Int) (v139 : List Nat) : Tree (Int × Int × (List Nat)) :=
  (.need (some (spec_l02Mul_l0_E v134 v135 v136 v137 v138 v139 ((0 : Int), ([] : List Nat))) = some (spec_l02Mul_l0_E v134 v135 v136 v137 v138 v139 ((0 : Int), ([] : List Nat)))) <|
  (.call (spec_l02Mul_l0_g v134 v135 v136 v137 v138 v139 ((0 : Int), ([] : List Nat))) fun v199 =>
  .leaf ((spec_l02Blank_v v134 v138).1, (spec_l02Blank_v v134 v138).2, v199)))

noncomputable def spec_l02Mul_g (v134 : Int) (v135 : Int) (v136 : List Nat) (v137 : Int) (v138 : Int) (v139 : List Nat) : Option (Int × Int × (List Nat)) := (spec_l02Mul_T v134 v135 v136 v137 v138 v139).run
def spec_l02Mul_enc (v134 : Int) (v135 : Int) (v136 : List Nat) (v137 : Int) (v138 : Int) (v139 : List Nat) (y : Int × Int × (List Nat)) : Rs := (.agg [.int .i64 y.1, .int .i64 y.2.1, .own 0 0 ((y.2.2).length)], [.row (.f32 y.2.2) 0])
theorem spec_l02Mul_den (v134 : Int) (v135 : Int) (v136 : List Nat) (v137 : Int) (v138 : Int) (v139 : List Nat) : (den TT (tabD spec_l02Mul_tab) (tabM spec_l02Mul_tab) (spec_l02Mul_LO v134 v135 v136 v137 v138 v139) (codeOf Try.f72) ([.bptr (BR.root 0) [.int .i64 v134, .int .i64 v135, .bslc (BR.root 1) (.f32 v136)], .bptr (BR.root 2) [.int .i64 v137, .int .i64 v138, .bslc (BR.root 3) (.f32 v139)]] ++ List.replicate (Try.f72.ntmps - ([.bptr (BR.root 0) [.int .i64 v134, .int .i64 v135, .bslc (BR.root 1) (.f32 v136)], .bptr (BR.root 2) [.int .i64 v137, .int .i64 v138, .bslc (BR.root 3) (.f32 v139)]] : List DV).length) .undef) []).bind (retD TT Try.f72.results.toList 0) = (spec_l02Mul_T v134 v135 v136 v137 v138 v139).bind fun y => .leaf (spec_l02Mul_enc v134 v135 v136 v137 v138 v139 y) := by kernel_rfl
theorem spec_l02Mul_fn (v134 : Int) (v135 : Int) (v136 : List Nat) (v137 : Int) (v138 : Int) (v139 : List Nat) (F : Fr) (hm : F.ids.length = 0) (h0 : St F [] F.H0) (hA : DVs.Ok F [] [.bptr (BR.root 0) [.int .i64 v134, .int .i64 v135, .bslc (BR.root 1) (.f32 v136)], .bptr (BR.root 2) [.int .i64 v137, .int .i64 v138, .bslc (BR.root 3) (.f32 v139)]]) {y : Int × Int × (List Nat)} (hy : spec_l02Mul_g v134 v135 v136 v137 v138 v139 = some y) : ∃ H', FnOk Try.prog 72 (DVs.av F [.bptr (BR.root 0) [.int .i64 v134, .int .i64 v135, .bslc (BR.root 1) (.f32 v136)], .bptr (BR.root 2) [.int .i64 v137, .int .i64 v138, .bslc (BR.root 3) (.f32 v139)]]) F.H0 ((spec_l02Mul_enc v134 v135 v136 v137 v138 v139 y).1.av F) H' ∧ St F (spec_l02Mul_enc v134 v135 v136 v137 v138 v139 y).2 H' ∧ (spec_l02Mul_enc v134 v135 v136 v137 v138 v139 y).1.Ok F (spec_l02Mul_enc v134 v135 v136 v137 v138 v139 y).2 :=
  fn_fin tok spec_l02Mul_hO mixed Try.func72 Try.call72 (by kernel_rfl) (LoopsOk_eq (l := [(0, bodyOf Try.f72 0)]) (by kernel_rfl) ⟨spec_l02Mul_l0_ok v134 v135 v136 v137 v138 v139, trivial⟩) (spec_l02Mul_den v134 v135 v136 v137 v138 v139) hy hm h0 hA
noncomputable def spec_l02Mul_F : DFn := fun args L =>
  match args with
  | [a1, a3] =>
    optT (cellsOf L 3 a1) fun cs0 =>
    (match cs0 with
    | [.int .i64 v134, .int .i64 v135, a2] =>
    optT (rowF32 L a2) fun v136 =>
    optT (cellsOf L 3 a3) fun cs2 =>
    (match cs2 with
    | [.int .i64 v137, .int .i64 v138, a4] =>
    optT (rowF32 L a4) fun v139 =>
    .call (spec_l02Mul_g v134 v135 v136 v137 v138 v139) fun y => .leaf (.agg [.int .i64 y.1, .int .i64 y.2.1, .own (L.length + 0) 0 ((y.2.2).length)], L ++ [.row (.f32 y.2.2) 0])
    | _ => .fail)
    | _ => .fail)
  | _ => .fail
theorem spec_l02Mul_Fok : COk Try.prog 72 spec_l02Mul_F true := by
  intro F L H args r L' hs ha hr
  unfold spec_l02Mul_F at hr
  split at hr
  · rename_i a1 a3
    obtain ⟨cs0, hcp0, hr⟩ := optT_run hr
    split at hr
    · rename_i v134 v135 a2
      obtain ⟨v136, hv136, hr⟩ := optT_run hr
      obtain ⟨cs2, hcp2, hr⟩ := optT_run hr
      split at hr
      · rename_i v137 v138 a4
        obtain ⟨v139, hv139, hr⟩ := optT_run hr
        simp only [Tree.run] at hr
        obtain ⟨y, hy, hr⟩ := Option.bind_eq_some_iff.1 hr
        simp only [Tree.run, Option.some.injEq, Prod.mk.injEq] at hr
        obtain ⟨rfl, rfl⟩ := hr
        exact call_ok1 hs (fun k => (([a1.av F, a2.av F, a3.av F, a4.av F] : List AV)[k]?).getD .top) [a1, a3] [.bptr (BR.root 0) [.int .i64 v134, .int .i64 v135, .bslc (BR.root 1) (.f32 v136)], .bptr (BR.root 2) [.int .i64 v137, .int .i64 v138, .bslc (BR.root 3) (.f32 v139)]] (fun F' h0 hi hρ => ⟨by simp [DVs.av, DV.av, BR.av, hρ], spec_l02Mul_fn v134 v135 v136 v137 v138 v139 F' (by rw [hi]; rfl) (st_nil hi) ⟨bptr_ok hi (by rw [h0]; simpa [DVs.av, DV.av, BR.av, hρ] using (cellsOf_ok hs (DVs.okAt ha 0 rfl) hcp0).1) ⟨trivial, trivial, bslc_ok hi (by rw [h0, hρ]; exact rowF32_ok hs (DVs.okAt (cellsOf_ok hs (DVs.okAt ha 0 rfl) hcp0).2 2 rfl) hv136), trivial⟩, bptr_ok hi (by rw [h0]; simpa [DVs.av, DV.av, BR.av, hρ] using (cellsOf_ok hs (DVs.okAt ha 1 rfl) hcp2).1) ⟨trivial, trivial, bslc_ok hi (by rw [h0, hρ]; exact rowF32_ok hs (DVs.okAt (cellsOf_ok hs (DVs.okAt ha 1 rfl) hcp2).2 2 rfl) hv139), trivial⟩, trivial⟩ hy⟩) rfl rfl
      · cases hr
    · cases hr
  · cases hr
/-! spec.l02Give -/
noncomputable def spec_l02Give_LO (v201 : Int) (v202 : Int) (v203 : List Nat) : LOr := fun id e L =>
  match id with
  | _ => .fail
noncomputable def spec_l02Give_tab : List (FuncId × DFn × Bool) := [(61, spec_l02Is_F, true)]
theorem spec_l02Give_hO : OrcOk Try.prog (tabD spec_l02Give_tab) (tabM spec_l02Give_tab) := tabD_cons spec_l02Is_Fok (tabD_nil _)
noncomputable def spec_l02Give_T (v201 : Int) (v202 : Int) (v203 : List Nat) : Tree ((Unit) ⊕ (Int × Int)) :=
  (.call (spec_l02Is_g v201 v202 v203) fun v204 =>
  (.br (!v204) (
   .leaf (.inl ())
  ) (
   .leaf (.inr (v201, v202))
  )))

noncomputable def spec_l02Give_g (v201 : Int) (v202 : Int) (v203 : List Nat) : Option ((Unit) ⊕ (Int × Int)) := (spec_l02Give_T v201 v202 v203).run
def spec_l02Give_enc (v201 : Int) (v202 : Int) (v203 : List Nat) (y : (Unit) ⊕ (Int × Int)) : Rs := (match y with | .inl y => (.tup [.agg [.int .i64 (0 : Int), .int .i64 (0 : Int), .nilslc], .lit false], []) | .inr y => (.tup [.agg [.int .i64 y.1, .int .i64 y.2, .bslc (BR.root 0) (.f32 v203)], .lit true], []))
theorem spec_l02Give_den (v201 : Int) (v202 : Int) (v203 : List Nat) : (den TT (tabD spec_l02Give_tab) (tabM spec_l02Give_tab) (spec_l02Give_LO v201 v202 v203) (codeOf Try.f71) ([.agg [.int .i64 v201, .int .i64 v202, .bslc (BR.root 0) (.f32 v203)]] ++ List.replicate (Try.f71.ntmps - ([.agg [.int .i64 v201, .int .i64 v202, .bslc (BR.root 0) (.f32 v203)]] : List DV).length) .undef) []).bind (retD TT Try.f71.results.toList 0) = (spec_l02Give_T v201 v202 v203).bind fun y => .leaf (spec_l02Give_enc v201 v202 v203 y) := by kernel_rfl
theorem spec_l02Give_fn (v201 : Int) (v202 : Int) (v203 : List Nat) (F : Fr) (hm : F.ids.length = 0) (h0 : St F [] F.H0) (hA : DVs.Ok F [] [.agg [.int .i64 v201, .int .i64 v202, .bslc (BR.root 0) (.f32 v203)]]) {y : (Unit) ⊕ (Int × Int)} (hy : spec_l02Give_g v201 v202 v203 = some y) : ∃ H', FnOk Try.prog 71 (DVs.av F [.agg [.int .i64 v201, .int .i64 v202, .bslc (BR.root 0) (.f32 v203)]]) F.H0 ((spec_l02Give_enc v201 v202 v203 y).1.av F) H' ∧ St F (spec_l02Give_enc v201 v202 v203 y).2 H' ∧ (spec_l02Give_enc v201 v202 v203 y).1.Ok F (spec_l02Give_enc v201 v202 v203 y).2 :=
  fn_fin tok spec_l02Give_hO mixed Try.func71 Try.call71 (by kernel_rfl) (LoopsOk_eq (l := []) (by kernel_rfl) trivial) (spec_l02Give_den v201 v202 v203) hy hm h0 hA
noncomputable def spec_l02Give_F : DFn := fun args L =>
  match args with
  | [.agg [.int .i64 v201, .int .i64 v202, a1]] =>
    optT (rowF32 L a1) fun v203 =>
    .call (spec_l02Give_g v201 v202 v203) fun y => .sum y (fun y0 => .leaf (.tup [.agg [.int .i64 (0 : Int), .int .i64 (0 : Int), .nilslc], .lit false], L)) (fun z0 => .leaf (.tup [.agg [.int .i64 z0.1, .int .i64 z0.2, a1], .lit true], L))
  | _ => .fail
theorem spec_l02Give_Fok : COk Try.prog 71 spec_l02Give_F true := by
  intro F L H args r L' hs ha hr
  unfold spec_l02Give_F at hr
  split at hr
  · rename_i v201 v202 a1
    obtain ⟨v203, hv203, hr⟩ := optT_run hr
    simp only [Tree.run] at hr
    obtain ⟨y, hy, hr⟩ := Option.bind_eq_some_iff.1 hr
    cases y with
    | inl y =>
      simp only [Tree.run, Option.some.injEq, Prod.mk.injEq] at hr
      obtain ⟨rfl, rfl⟩ := hr
      exact call_ok0 hs (fun k => (([a1.av F] : List AV)[k]?).getD .top) [.agg [.int .i64 v201, .int .i64 v202, a1]] [.agg [.int .i64 v201, .int .i64 v202, .bslc (BR.root 0) (.f32 v203)]] (fun F' h0 hi hρ => ⟨by simp [DVs.av, DV.av, BR.av, hρ], spec_l02Give_fn v201 v202 v203 F' (by rw [hi]; rfl) (st_nil hi) ⟨⟨trivial, trivial, bslc_ok hi (by rw [h0, hρ]; exact rowF32_ok hs (DVs.okAt (DVs.okAt ha 0 rfl) 2 rfl) hv203), trivial⟩, trivial⟩ hy⟩) rfl
    | inr y =>
      simp only [Tree.run, Option.some.injEq, Prod.mk.injEq] at hr
      obtain ⟨rfl, rfl⟩ := hr
      exact call_al0 hs (fun k => (([a1.av F] : List AV)[k]?).getD .top) [.agg [.int .i64 v201, .int .i64 v202, a1]] [.agg [.int .i64 v201, .int .i64 v202, .bslc (BR.root 0) (.f32 v203)]] (fun F' h0 hi hρ => ⟨by simp [DVs.av, DV.av, BR.av, hρ], spec_l02Give_fn v201 v202 v203 F' (by rw [hi]; rfl) (st_nil hi) ⟨⟨trivial, trivial, bslc_ok hi (by rw [h0, hρ]; exact rowF32_ok hs (DVs.okAt (DVs.okAt ha 0 rfl) 2 rfl) hv203), trivial⟩, trivial⟩ hy⟩) (fun F' h0 hi hρ => by simp [spec_l02Give_enc, DVs.av, DV.av, BR.av, hρ]) ⟨⟨trivial, trivial, (DVs.okAt (DVs.okAt ha 0 rfl) 2 rfl), trivial⟩, trivial, trivial⟩
  · cases hr
/-! spec.MulMatrices -/
noncomputable def spec_MulMatrices_LO (v119 : Int) (v120 : Int) (v121 : List Nat) (v122 : Int) (v123 : Int) (v124 : List Nat) : LOr := fun id e L =>
  match id with
  | _ => .fail
noncomputable def spec_MulMatrices_tab : List (FuncId × DFn × Bool) := [(69, spec_l02Fit_F, true), (72, spec_l02Mul_F, true), (71, spec_l02Give_F, true)]
theorem spec_MulMatrices_hO : OrcOk Try.prog (tabD spec_MulMatrices_tab) (tabM spec_MulMatrices_tab) := tabD_cons spec_l02Fit_Fok (tabD_cons spec_l02Mul_Fok (tabD_cons spec_l02Give_Fok (tabD_nil _)))
noncomputable def spec_MulMatrices_T (v119 : Int) (v120 : Int) (v121 : List Nat) (v122 : Int) (v123 : Int) (v124 : List Nat) : Tree ((Unit) ⊕ (Int × Int × (List Nat))) :=
  (.call (spec_l02Fit_g v119 v120 v121 v122 v123 v124) fun v133 =>
  (.br (!v133) (
   .leaf (.inl ())
  ) (
   (.call (spec_l02Mul_g v119 v120 v121 v122 v123 v124) fun v200 =>
   (.call (spec_l02Give_g v200.1 v200.2.1 v200.2.2) fun v205 =>
   (.sum v205 (fun v206 =>
    .leaf (.inl ())
   ) (fun v207 =>
    .leaf (.inr (v207.1, v207.2, v200.2.2))
   ))))
  )))

noncomputable def spec_MulMatrices_g (v119 : Int) (v120 : Int) (v121 : List Nat) (v122 : Int) (v123 : Int) (v124 : List Nat) : Option ((Unit) ⊕ (Int × Int × (List Nat))) := (spec_MulMatrices_T v119 v120 v121 v122 v123 v124).run
def spec_MulMatrices_enc (v119 : Int) (v120 : Int) (v121 : List Nat) (v122 : Int) (v123 : Int) (v124 : List Nat) (y : (Unit) ⊕ (Int × Int × (List Nat))) : Rs := (match y with | .inl y => (.tup [.agg [.int .i64 (0 : Int), .int .i64 (0 : Int), .nilslc], .lit false], []) | .inr y => (.tup [.agg [.int .i64 y.1, .int .i64 y.2.1, .own 0 0 ((y.2.2).length)], .lit true], [.row (.f32 y.2.2) 0]))
theorem spec_MulMatrices_den (v119 : Int) (v120 : Int) (v121 : List Nat) (v122 : Int) (v123 : Int) (v124 : List Nat) : (den TT (tabD spec_MulMatrices_tab) (tabM spec_MulMatrices_tab) (spec_MulMatrices_LO v119 v120 v121 v122 v123 v124) (codeOf Try.f123) ([.agg [.int .i64 v119, .int .i64 v120, .bslc (BR.root 0) (.f32 v121)], .agg [.int .i64 v122, .int .i64 v123, .bslc (BR.root 1) (.f32 v124)]] ++ List.replicate (Try.f123.ntmps - ([.agg [.int .i64 v119, .int .i64 v120, .bslc (BR.root 0) (.f32 v121)], .agg [.int .i64 v122, .int .i64 v123, .bslc (BR.root 1) (.f32 v124)]] : List DV).length) .undef) []).bind (retD TT Try.f123.results.toList 0) = (spec_MulMatrices_T v119 v120 v121 v122 v123 v124).bind fun y => .leaf (spec_MulMatrices_enc v119 v120 v121 v122 v123 v124 y) := by kernel_rfl
theorem spec_MulMatrices_fn (v119 : Int) (v120 : Int) (v121 : List Nat) (v122 : Int) (v123 : Int) (v124 : List Nat) (F : Fr) (hm : F.ids.length = 0) (h0 : St F [] F.H0) (hA : DVs.Ok F [] [.agg [.int .i64 v119, .int .i64 v120, .bslc (BR.root 0) (.f32 v121)], .agg [.int .i64 v122, .int .i64 v123, .bslc (BR.root 1) (.f32 v124)]]) {y : (Unit) ⊕ (Int × Int × (List Nat))} (hy : spec_MulMatrices_g v119 v120 v121 v122 v123 v124 = some y) : ∃ H', FnOk Try.prog 123 (DVs.av F [.agg [.int .i64 v119, .int .i64 v120, .bslc (BR.root 0) (.f32 v121)], .agg [.int .i64 v122, .int .i64 v123, .bslc (BR.root 1) (.f32 v124)]]) F.H0 ((spec_MulMatrices_enc v119 v120 v121 v122 v123 v124 y).1.av F) H' ∧ St F (spec_MulMatrices_enc v119 v120 v121 v122 v123 v124 y).2 H' ∧ (spec_MulMatrices_enc v119 v120 v121 v122 v123 v124 y).1.Ok F (spec_MulMatrices_enc v119 v120 v121 v122 v123 v124 y).2 :=
  fn_fin tok spec_MulMatrices_hO mixed Try.func123 Try.call123 (by kernel_rfl) (LoopsOk_eq (l := []) (by kernel_rfl) trivial) (spec_MulMatrices_den v119 v120 v121 v122 v123 v124) hy hm h0 hA
noncomputable def spec_MulMatrices_F : DFn := fun args L =>
  match args with
  | [.agg [.int .i64 v119, .int .i64 v120, a1], .agg [.int .i64 v122, .int .i64 v123, a2]] =>
    optT (rowF32 L a1) fun v121 =>
    optT (rowF32 L a2) fun v124 =>
    .call (spec_MulMatrices_g v119 v120 v121 v122 v123 v124) fun y => .sum y (fun y0 => .leaf (.tup [.agg [.int .i64 (0 : Int), .int .i64 (0 : Int), .nilslc], .lit false], L)) (fun z0 => .leaf (.tup [.agg [.int .i64 z0.1, .int .i64 z0.2.1, .own (L.length + 0) 0 ((z0.2.2).length)], .lit true], L ++ [.row (.f32 z0.2.2) 0]))
  | _ => .fail
theorem spec_MulMatrices_Fok : COk Try.prog 123 spec_MulMatrices_F true := by
  intro F L H args r L' hs ha hr
  unfold spec_MulMatrices_F at hr
  split at hr
  · rename_i v119 v120 a1 v122 v123 a2
    obtain ⟨v121, hv121, hr⟩ := optT_run hr
    obtain ⟨v124, hv124, hr⟩ := optT_run hr
    simp only [Tree.run] at hr
    obtain ⟨y, hy, hr⟩ := Option.bind_eq_some_iff.1 hr
    cases y with
    | inl y =>
      simp only [Tree.run, Option.some.injEq, Prod.mk.injEq] at hr
      obtain ⟨rfl, rfl⟩ := hr
      exact call_ok0 hs (fun k => (([a1.av F, a2.av F] : List AV)[k]?).getD .top) [.agg [.int .i64 v119, .int .i64 v120, a1], .agg [.int .i64 v122, .int .i64 v123, a2]] [.agg [.int .i64 v119, .int .i64 v120, .bslc (BR.root 0) (.f32 v121)], .agg [.int .i64 v122, .int .i64 v123, .bslc (BR.root 1) (.f32 v124)]] (fun F' h0 hi hρ => ⟨by simp [DVs.av, DV.av, BR.av, hρ], spec_MulMatrices_fn v119 v120 v121 v122 v123 v124 F' (by rw [hi]; rfl) (st_nil hi) ⟨⟨trivial, trivial, bslc_ok hi (by rw [h0, hρ]; exact rowF32_ok hs (DVs.okAt (DVs.okAt ha 0 rfl) 2 rfl) hv121), trivial⟩, ⟨trivial, trivial, bslc_ok hi (by rw [h0, hρ]; exact rowF32_ok hs (DVs.okAt (DVs.okAt ha 1 rfl) 2 rfl) hv124), trivial⟩, trivial⟩ hy⟩) rfl
    | inr y =>
      simp only [Tree.run, Option.some.injEq, Prod.mk.injEq] at hr
      obtain ⟨rfl, rfl⟩ := hr
      exact call_ok1 hs (fun k => (([a1.av F, a2.av F] : List AV)[k]?).getD .top) [.agg [.int .i64 v119, .int .i64 v120, a1], .agg [.int .i64 v122, .int .i64 v123, a2]] [.agg [.int .i64 v119, .int .i64 v120, .bslc (BR.root 0) (.f32 v121)], .agg [.int .i64 v122, .int .i64 v123, .bslc (BR.root 1) (.f32 v124)]] (fun F' h0 hi hρ => ⟨by simp [DVs.av, DV.av, BR.av, hρ], spec_MulMatrices_fn v119 v120 v121 v122 v123 v124 F' (by rw [hi]; rfl) (st_nil hi) ⟨⟨trivial, trivial, bslc_ok hi (by rw [h0, hρ]; exact rowF32_ok hs (DVs.okAt (DVs.okAt ha 0 rfl) 2 rfl) hv121), trivial⟩, ⟨trivial, trivial, bslc_ok hi (by rw [h0, hρ]; exact rowF32_ok hs (DVs.okAt (DVs.okAt ha 1 rfl) 2 rfl) hv124), trivial⟩, trivial⟩ hy⟩) rfl rfl
  · cases hr
/-! spec.WeighMatrices -/
noncomputable def spec_WeighMatrices_l0_T (v216 : List Nat) (v219 : List Nat) (v220 : Nat) (v221 : Nat) (s : Int × (List Nat)) : Tree ((Int × (List Nat)) ⊕ ((List Nat))) :=
  (.br (decide (s.1 < ((v216.length : Nat) : Int))) (
   (.grd (inb s.1 v216.length) <|
   (.grd (inb s.1 v219.length) <|
   (.grd (fits (s.2 ++ ([fadd .f32 (fmul .f32 v220 (nth v216 (Int.toNat s.1))) (fmul .f32 v221 (nth v219 (Int.toNat s.1)))] : List Nat)).length) <|
   .leaf (.inl (IntKind.i64.wrap (s.1 + (1 : Int)), s.2 ++ ([fadd .f32 (fmul .f32 v220 (nth v216 (Int.toNat s.1))) (fmul .f32 v221 (nth v219 (Int.toNat s.1)))] : List Nat))))))
  ) (
   .leaf (.inr s.2)
  ))

noncomputable def spec_WeighMatrices_l0_g (v216 : List Nat) (v219 : List Nat) (v220 : Nat) (v221 : Nat) (s0 : Int × (List Nat)) : Option ((List Nat)) := whileM (fun s => (spec_WeighMatrices_l0_T v216 v219 v220 v221 s).run) s0
def spec_WeighMatrices_l0_E (v214 : Int) (v215 : Int) (v216 : List Nat) (v217 : Int) (v218 : Int) (v219 : List Nat) (v220 : Nat) (v221 : Nat) (s : Int × (List Nat)) : Sd := ([.top, .top, .flt .f32 v220, .flt .f32 v221, .ptr 0 (0 : Nat) 0 (3 : Nat), .ptr 1 (0 : Nat) 0 (3 : Nat), .top, .top, .ptr 2 (0 : Nat) 0 (3 : Nat), .top, .ptr 3 (0 : Nat) 0 (3 : Nat), .int .i64 s.1, .top, .top, .top, .top, .top, .top, .top, .top, .top, .top, .top, .top, .top, .top, .top, .top, .top, .top, .top, .top, .top, .top, .top, .top, .top, .top, .top, .top, .top, .top, .top, .top, .top, .top, .top, .top, .top, .top, .top, .top, .top, .top, .top, .top, .top, .top, .top, .top, .top, .top, .top, .top, .top, .top, .top, .top, .top, .top, .top, .top, .top, .top, .top, .top, .top, .top, .top], [.gen [.int .i64 v214, .int .i64 v215, .bslc (BR.root 0) (.f32 v216)] false 0, .gen [.int .i64 v217, .int .i64 v218, .bslc (BR.root 1) (.f32 v219)] false 0, .gen [.int .i64 (0 : Int), .int .i64 (0 : Int), .nilslc] false 0, .gen [.int .i64 ((spec_l02Blank_v v214 v215).1), .int .i64 ((spec_l02Blank_v v214 v215).2), .own 4 0 ((s.2).length)] false 0, .row (.f32 s.2) 0])
def spec_WeighMatrices_l0_X (v214 : Int) (v215 : Int) (v216 : List Nat) (v217 : Int) (v218 : Int) (v219 : List Nat) (v220 : Nat) (v221 : Nat) (x : (List Nat)) : Out := (.normal, [.top, .top, .top, .top, .top, .top, .top, .top, .ptr 0 (0 : Nat) 0 (3 : Nat), .top, .ptr 1 (0 : Nat) 0 (3 : Nat), .top, .top, .top, .top, .top, .top, .top, .top, .top, .top, .top, .top, .top, .top, .top, .top, .top, .top, .top, .top, .top, .top, .top, .top, .top, .top, .top, .top, .top, .top, .top, .top, .top, .top, .top, .top, .top, .top, .top, .top, .top, .top, .top, .top, .top, .top, .top, .top, .top, .top, .top, .top, .top, .top, .top, .top, .top, .top, .top, .top, .top, .top, .top, .top, .top, .top, .top, .top], [.gen [.int .i64 (0 : Int), .int .i64 (0 : Int), .nilslc] false 0, .gen [.int .i64 ((spec_l02Blank_v v214 v215).1), .int .i64 ((spec_l02Blank_v v214 v215).2), .own 2 0 ((x).length)] false 0, .row (.f32 x) 0])
def spec_WeighMatrices_l0_kill : List Nat := [1, 1, 0, 0, 0, 0, 1, 1, 0, 1, 0, 0, 1, 1, 1, 1, 1, 1, 1, 1, 1, 1, 1, 1, 1, 1, 1, 1, 1, 1, 1, 1, 1, 1, 1, 1, 1, 1, 1, 1, 1, 1, 1, 1, 1, 1, 1, 1, 1, 1, 1, 1, 1, 1, 1, 1, 1, 1, 1, 1, 1, 1, 1, 1, 1, 1, 1, 1, 1, 1, 1, 1, 1, 1, 1, 1, 1, 1, 1]
def spec_WeighMatrices_l0_nx : Exit → List Nat
  | .exit 0 => [1, 1, 1, 1, 1, 1, 1, 1, 0, 1, 0, 1, 1, 1, 1, 1, 1, 1, 1, 1, 1, 1, 1, 1, 1, 1, 1, 1, 1, 1, 1, 1, 1, 1, 1, 1, 1, 1, 1, 1, 1, 1, 1, 1, 1, 1, 1, 1, 1, 1, 1, 1, 1, 1, 1, 1, 1, 1, 1, 1, 1, 1, 1, 1, 1, 1, 1, 1, 1, 1, 1, 1, 1, 1, 1, 1, 1, 1, 1]
  | .ret => [1, 1, 1, 1, 1, 1, 1, 1, 0, 0, 1, 1, 1, 1, 1, 1, 1, 1, 1, 1, 1, 1, 1, 1, 1, 1, 1, 1, 1, 1, 1, 1, 1, 1, 1, 1, 1, 1, 1, 1, 1, 1, 1, 1, 1, 1, 1, 1, 1, 1, 1, 1, 1, 1, 1, 1, 1, 1, 1, 1, 1, 1, 1, 1, 1, 1, 1, 1, 1, 1, 1, 1, 1, 1, 1, 1, 1, 1, 1]
  | _ => []
noncomputable def spec_WeighMatrices_LO (v214 : Int) (v215 : Int) (v216 : List Nat) (v217 : Int) (v218 : Int) (v219 : List Nat) (v220 : Nat) (v221 : Nat) : LOr := fun id e L =>
  match id with
  | 0 => .need (normA 0 spec_WeighMatrices_l0_kill e L = some (spec_WeighMatrices_l0_E v214 v215 v216 v217 v218 v219 v220 v221 ((gI (vAt e 11)), (gRF L (cAt L (vAt e 10) 2))))) (.call (spec_WeighMatrices_l0_g v216 v219 v220 v221 ((gI (vAt e 11)), (gRF L (cAt L (vAt e 10) 2)))) fun x => .leaf (spec_WeighMatrices_l0_X v214 v215 v216 v217 v218 v219 v220 v221 x))
  | _ => .fail
noncomputable def spec_WeighMatrices_tab : List (FuncId × DFn × Bool) := [(61, spec_l02Is_F, true), (60, spec_l01Finite_F, true), (139, spec_l02Blank_F, true), (71, spec_l02Give_F, true)]
theorem spec_WeighMatrices_hO : OrcOk Try.prog (tabD spec_WeighMatrices_tab) (tabM spec_WeighMatrices_tab) := tabD_cons spec_l02Is_Fok (tabD_cons spec_l01Finite_Fok (tabD_cons spec_l02Blank_Fok (tabD_cons spec_l02Give_Fok (tabD_nil _))))
theorem spec_WeighMatrices_l0_be (v214 : Int) (v215 : Int) (v216 : List Nat) (v217 : Int) (v218 : Int) (v219 : List Nat) (v220 : Nat) (v221 : Nat) (s : Int × (List Nat)) : bodyT TT (tabD spec_WeighMatrices_tab) (tabM spec_WeighMatrices_tab) (spec_WeighMatrices_LO v214 v215 v216 v217 v218 v219 v220 v221) 0 spec_WeighMatrices_l0_kill spec_WeighMatrices_l0_nx (bodyOf Try.f124 0) 0 (spec_WeighMatrices_l0_E v214 v215 v216 v217 v218 v219 v220 v221 s) = (spec_WeighMatrices_l0_T v216 v219 v220 v221 s).bind fun y => .leaf (outS (spec_WeighMatrices_l0_E v214 v215 v216 v217 v218 v219 v220 v221) (spec_WeighMatrices_l0_X v214 v215 v216 v217 v218 v219 v220 v221) y) := by kernel_rfl
theorem spec_WeighMatrices_l0_ok (v214 : Int) (v215 : Int) (v216 : List Nat) (v217 : Int) (v218 : Int) (v219 : List Nat) (v220 : Nat) (v221 : Nat) : LSound Try.prog 0 (spec_WeighMatrices_LO v214 v215 v216 v217 v218 v219 v220 v221) 0 (bodyOf Try.f124 0) := by
  intro e L out h
  exact lo_ok (E := spec_WeighMatrices_l0_E v214 v215 v216 v217 v218 v219 v220 v221) (gT := spec_WeighMatrices_l0_T v216 v219 v220 v221) (X := spec_WeighMatrices_l0_X v214 v215 v216 v217 v218 v219 v220 v221) (s0 := ((gI (vAt e 11)), (gRF L (cAt L (vAt e 10) 2)))) tok spec_WeighMatrices_hO mixed (LoopsOk_eq (l := []) (by kernel_rfl) trivial) (spec_WeighMatrices_l0_be v214 v215 v216 v217 v218 v219 v220 v221) rfl (by intro x; rfl) h
noncomputable def spec_WeighMatrices_T (v214 : Int) (v215 : Int) (v216 : List Nat) (v217 : Int) (v218 : Int) (v219 : List Nat) (v220 : Nat) (v221 : Nat) : Tree ((Unit) ⊕ (Int × Int × (List Nat))) :=
  (.call (spec_l02Is_g v214 v215 v216) fun v222 =>
  (.br (!v222) (
   .leaf (.inl ())
  ) (
   (.call (spec_l02Is_g v217 v218 v219) fun v223 =>
   (.br (!v223) (
    .leaf (.inl ())
   ) (
    (.br (!decide (v214 = v217)) (
     .leaf (.inl ())
    ) (
     (.br (!decide (v215 = v218)) (
      .leaf (.inl ())
     ) (
      (.br (!(spec_l01Finite_v v220)) (
       .leaf (.inl ())
      ) (
       (.br (!(spec_l01Finite_v v221)) (
        .leaf (.inl ())
       ) (
        (.need (some (spec_WeighMatrices_l0_E v214 v215 v216 v217 v218 v219 v220 v221 ((0 : Int), ([] : List Nat))) = some (spec_WeighMatrices_l0_E v214 v215 v216 v217 v218 v219 v220 v221 ((0 : Int), ([] : List Nat)))) <|
        (.call (spec_WeighMatrices_l0_g v216 v219 v220 v221 ((0 : Int), ([] : List Nat))) fun v229 =>
        (.call (spec_l02Give_g ((spec_l02Blank_v v214 v215).1) ((spec_l02Blank_v v214 v215).2) v229) fun v230 =>
        (.sum v230 (fun v231 =>
         .leaf (.inl ())
        ) (fun v232 =>
         .leaf (.inr (v232.1, v232.2, v229))
        )))))
       ))
      ))
     ))
    ))
   )))
  )))

noncomputable def spec_WeighMatrices_g (v214 : Int) (v215 : Int) (v216 : List Nat) (v217 : Int) (v218 : Int) (v219 : List Nat) (v220 : Nat) (v221 : Nat) : Option ((Unit) ⊕ (Int × Int × (List Nat))) := (spec_WeighMatrices_T v214 v215 v216 v217 v218 v219 v220 v221).run
def spec_WeighMatrices_enc (v214 : Int) (v215 : Int) (v216 : List Nat) (v217 : Int) (v218 : Int) (v219 : List Nat) (v220 : Nat) (v221 : Nat) (y : (Unit) ⊕ (Int × Int × (List Nat))) : Rs := (match y with | .inl y => (.tup [.agg [.int .i64 (0 : Int), .int .i64 (0 : Int), .nilslc], .lit false], []) | .inr y => (.tup [.agg [.int .i64 y.1, .int .i64 y.2.1, .own 0 0 ((y.2.2).length)], .lit true], [.row (.f32 y.2.2) 0]))
theorem spec_WeighMatrices_den (v214 : Int) (v215 : Int) (v216 : List Nat) (v217 : Int) (v218 : Int) (v219 : List Nat) (v220 : Nat) (v221 : Nat) : (den TT (tabD spec_WeighMatrices_tab) (tabM spec_WeighMatrices_tab) (spec_WeighMatrices_LO v214 v215 v216 v217 v218 v219 v220 v221) (codeOf Try.f124) ([.agg [.int .i64 v214, .int .i64 v215, .bslc (BR.root 0) (.f32 v216)], .agg [.int .i64 v217, .int .i64 v218, .bslc (BR.root 1) (.f32 v219)], .flt .f32 v220, .flt .f32 v221] ++ List.replicate (Try.f124.ntmps - ([.agg [.int .i64 v214, .int .i64 v215, .bslc (BR.root 0) (.f32 v216)], .agg [.int .i64 v217, .int .i64 v218, .bslc (BR.root 1) (.f32 v219)], .flt .f32 v220, .flt .f32 v221] : List DV).length) .undef) []).bind (retD TT Try.f124.results.toList 0) = (spec_WeighMatrices_T v214 v215 v216 v217 v218 v219 v220 v221).bind fun y => .leaf (spec_WeighMatrices_enc v214 v215 v216 v217 v218 v219 v220 v221 y) := by kernel_rfl
theorem spec_WeighMatrices_fn (v214 : Int) (v215 : Int) (v216 : List Nat) (v217 : Int) (v218 : Int) (v219 : List Nat) (v220 : Nat) (v221 : Nat) (F : Fr) (hm : F.ids.length = 0) (h0 : St F [] F.H0) (hA : DVs.Ok F [] [.agg [.int .i64 v214, .int .i64 v215, .bslc (BR.root 0) (.f32 v216)], .agg [.int .i64 v217, .int .i64 v218, .bslc (BR.root 1) (.f32 v219)], .flt .f32 v220, .flt .f32 v221]) {y : (Unit) ⊕ (Int × Int × (List Nat))} (hy : spec_WeighMatrices_g v214 v215 v216 v217 v218 v219 v220 v221 = some y) : ∃ H', FnOk Try.prog 124 (DVs.av F [.agg [.int .i64 v214, .int .i64 v215, .bslc (BR.root 0) (.f32 v216)], .agg [.int .i64 v217, .int .i64 v218, .bslc (BR.root 1) (.f32 v219)], .flt .f32 v220, .flt .f32 v221]) F.H0 ((spec_WeighMatrices_enc v214 v215 v216 v217 v218 v219 v220 v221 y).1.av F) H' ∧ St F (spec_WeighMatrices_enc v214 v215 v216 v217 v218 v219 v220 v221 y).2 H' ∧ (spec_WeighMatrices_enc v214 v215 v216 v217 v218 v219 v220 v221 y).1.Ok F (spec_WeighMatrices_enc v214 v215 v216 v217 v218 v219 v220 v221 y).2 :=
  fn_fin tok spec_WeighMatrices_hO mixed Try.func124 Try.call124 (by kernel_rfl) (LoopsOk_eq (l := [(0, bodyOf Try.f124 0)]) (by kernel_rfl) ⟨spec_WeighMatrices_l0_ok v214 v215 v216 v217 v218 v219 v220 v221, trivial⟩) (spec_WeighMatrices_den v214 v215 v216 v217 v218 v219 v220 v221) hy hm h0 hA
noncomputable def spec_WeighMatrices_F : DFn := fun args L =>
  match args with
  | [.agg [.int .i64 v214, .int .i64 v215, a1], .agg [.int .i64 v217, .int .i64 v218, a2], .flt .f32 v220, .flt .f32 v221] =>
    optT (rowF32 L a1) fun v216 =>
    optT (rowF32 L a2) fun v219 =>
    .call (spec_WeighMatrices_g v214 v215 v216 v217 v218 v219 v220 v221) fun y => .sum y (fun y0 => .leaf (.tup [.agg [.int .i64 (0 : Int), .int .i64 (0 : Int), .nilslc], .lit false], L)) (fun z0 => .leaf (.tup [.agg [.int .i64 z0.1, .int .i64 z0.2.1, .own (L.length + 0) 0 ((z0.2.2).length)], .lit true], L ++ [.row (.f32 z0.2.2) 0]))
  | _ => .fail
theorem spec_WeighMatrices_Fok : COk Try.prog 124 spec_WeighMatrices_F true := by
  intro F L H args r L' hs ha hr
  unfold spec_WeighMatrices_F at hr
  split at hr
  · rename_i v214 v215 a1 v217 v218 a2 v220 v221
    obtain ⟨v216, hv216, hr⟩ := optT_run hr
    obtain ⟨v219, hv219, hr⟩ := optT_run hr
    simp only [Tree.run] at hr
    obtain ⟨y, hy, hr⟩ := Option.bind_eq_some_iff.1 hr
    cases y with
    | inl y =>
      simp only [Tree.run, Option.some.injEq, Prod.mk.injEq] at hr
      obtain ⟨rfl, rfl⟩ := hr
      exact call_ok0 hs (fun k => (([a1.av F, a2.av F] : List AV)[k]?).getD .top) [.agg [.int .i64 v214, .int .i64 v215, a1], .agg [.int .i64 v217, .int .i64 v218, a2], .flt .f32 v220, .flt .f32 v221] [.agg [.int .i64 v214, .int .i64 v215, .bslc (BR.root 0) (.f32 v216)], .agg [.int .i64 v217, .int .i64 v218, .bslc (BR.root 1) (.f32 v219)], .flt .f32 v220, .flt .f32 v221] (fun F' h0 hi hρ => ⟨by simp [DVs.av, DV.av, BR.av, hρ], spec_WeighMatrices_fn v214 v215 v216 v217 v218 v219 v220 v221 F' (by rw [hi]; rfl) (st_nil hi) ⟨⟨trivial, trivial, bslc_ok hi (by rw [h0, hρ]; exact rowF32_ok hs (DVs.okAt (DVs.okAt ha 0 rfl) 2 rfl) hv216), trivial⟩, ⟨trivial, trivial, bslc_ok hi (by rw [h0, hρ]; exact rowF32_ok hs (DVs.okAt (DVs.okAt ha 1 rfl) 2 rfl) hv219), trivial⟩, trivial, trivial, trivial⟩ hy⟩) rfl
    | inr y =>
      simp only [Tree.run, Option.some.injEq, Prod.mk.injEq] at hr
      obtain ⟨rfl, rfl⟩ := hr
      exact call_ok1 hs (fun k => (([a1.av F, a2.av F] : List AV)[k]?).getD .top) [.agg [.int .i64 v214, .int .i64 v215, a1], .agg [.int .i64 v217, .int .i64 v218, a2], .flt .f32 v220, .flt .f32 v221] [.agg [.int .i64 v214, .int .i64 v215, .bslc (BR.root 0) (.f32 v216)], .agg [.int .i64 v217, .int .i64 v218, .bslc (BR.root 1) (.f32 v219)], .flt .f32 v220, .flt .f32 v221] (fun F' h0 hi hρ => ⟨by simp [DVs.av, DV.av, BR.av, hρ], spec_WeighMatrices_fn v214 v215 v216 v217 v218 v219 v220 v221 F' (by rw [hi]; rfl) (st_nil hi) ⟨⟨trivial, trivial, bslc_ok hi (by rw [h0, hρ]; exact rowF32_ok hs (DVs.okAt (DVs.okAt ha 0 rfl) 2 rfl) hv216), trivial⟩, ⟨trivial, trivial, bslc_ok hi (by rw [h0, hρ]; exact rowF32_ok hs (DVs.okAt (DVs.okAt ha 1 rfl) 2 rfl) hv219), trivial⟩, trivial, trivial, trivial⟩ hy⟩) rfl rfl
  · cases hr
/-! spec.PolarPart -/
noncomputable def spec_PolarPart_l0_T (v89 : Nat) (v91 : Int) (v92 : Int) (s : Int × (List Nat)) : Tree ((Int × (List Nat)) ⊕ ((List Nat))) :=
  (.br (decide (s.1 < (((s.2).length : Nat) : Int))) (
   (.grd (inb s.1 ((s.2).length)) <|
   (.grd (inb s.1 ((s.2).length)) <|
   .leaf (.inl (IntKind.i64.wrap (s.1 + (1 : Int)), List.set s.2 (Int.toNat s.1) (fdiv .f32 (nth s.2 (Int.toNat s.1)) v89)))))
  ) (
   .leaf (.inr s.2)
  ))

noncomputable def spec_PolarPart_l0_g (v89 : Nat) (v91 : Int) (v92 : Int) (s0 : Int × (List Nat)) : Option ((List Nat)) := whileM (fun s => (spec_PolarPart_l0_T v89 v91 v92 s).run) s0
def spec_PolarPart_l0_E (v23 : Int) (v24 : Int) (v25 : List Nat) (v26 : Int) (v89 : Nat) (v91 : Int) (v92 : Int) (s : Int × (List Nat)) : Sd := ([.top, .int .i64 v26, .top, .top, .ptr 0 (0 : Nat) 0 (3 : Nat), .top, .flt .f32 v89, .top, .ptr 1 (0 : Nat) 0 (3 : Nat), .int .i64 s.1, .top, .top, .top, .top, .top, .top, .top, .top, .top, .top, .top, .top, .top, .top, .top, .top, .top, .top, .top, .top, .top, .top, .top, .top, .top, .top, .top, .top, .top, .top, .top, .top, .top, .top, .top, .top, .top, .top, .top, .top, .top, .top, .top, .top, .top, .top, .top, .top, .top, .top, .top, .top, .top, .top, .top, .top, .top, .top, .top, .top, .top, .top, .top, .top, .top, .top, .top, .top, .top, .top, .top, .top, .top, .top, .top, .top, .top, .top, .top, .top, .top, .top, .top, .top, .top, .top, .top, .top, .top], [.gen [.int .i64 (0 : Int), .int .i64 (0 : Int), .nilslc] false 0, .gen [.int .i64 v91, .int .i64 v92, .own 2 0 ((s.2).length)] false 0, .row (.f32 s.2) 0])
def spec_PolarPart_l0_X (v23 : Int) (v24 : Int) (v25 : List Nat) (v26 : Int) (v89 : Nat) (v91 : Int) (v92 : Int) (x : (List Nat)) : Out := (.normal, [.top, .int .i64 v26, .top, .top, .ptr 0 (0 : Nat) 0 (3 : Nat), .top, .top, .top, .ptr 1 (0 : Nat) 0 (3 : Nat), .top, .top, .top, .top, .top, .top, .top, .top, .top, .top, .top, .top, .top, .top, .top, .top, .top, .top, .top, .top, .top, .top, .top, .top, .top, .top, .top, .top, .top, .top, .top, .top, .top, .top, .top, .top, .top, .top, .top, .top, .top, .top, .top, .top, .top, .top, .top, .top, .top, .top, .top, .top, .top, .top, .top, .top, .top, .top, .top, .top, .top, .top, .top, .top, .top, .top, .top, .top, .top, .top, .top, .top, .top, .top, .top, .top, .top, .top, .top, .top, .top, .top, .top, .top, .top, .top, .top, .top, .top, .top], [.gen [.int .i64 (0 : Int), .int .i64 (0 : Int), .nilslc] false 0, .gen [.int .i64 v91, .int .i64 v92, .own 2 0 ((x).length)] false 0, .row (.f32 x) 0])
def spec_PolarPart_l0_kill : List Nat := [1, 0, 1, 1, 0, 1, 0, 1, 0, 0, 1, 1, 1, 1, 1, 1, 1, 1, 1, 1, 1, 1, 1, 1, 1, 1, 1, 1, 1, 1, 1, 1, 1, 1, 1, 1, 1, 1, 1, 1, 1, 1, 1, 1, 1, 1, 1, 1, 1, 1, 1, 1, 1, 1, 1, 1, 1, 1, 1, 1, 1, 1, 1, 1, 1, 1, 1, 1, 1, 1, 1, 1, 1, 1, 1, 1, 1, 1, 1, 1, 1, 1, 1, 1, 1, 1, 1, 1, 1, 1, 1, 1, 1, 1, 1, 1, 1, 1, 1]
def spec_PolarPart_l0_nx : Exit → List Nat
  | .exit 0 => [1, 0, 1, 1, 0, 1, 1, 1, 0, 1, 1, 1, 1, 1, 1, 1, 1, 1, 1, 1, 1, 1, 1, 1, 1, 1, 1, 1, 1, 1, 1, 1, 1, 1, 1, 1, 1, 1, 1, 1, 1, 1, 1, 1, 1, 1, 1, 1, 1, 1, 1, 1, 1, 1, 1, 1, 1, 1, 1, 1, 1, 1, 1, 1, 1, 1, 1, 1, 1, 1, 1, 1, 1, 1, 1, 1, 1, 1, 1, 1, 1, 1, 1, 1, 1, 1, 1, 1, 1, 1, 1, 1, 1, 1, 1, 1, 1, 1, 1]
  | .ret => [1, 1, 1, 1, 0, 0, 1, 1, 1, 1, 1, 1, 1, 1, 1, 1, 1, 1, 1, 1, 1, 1, 1, 1, 1, 1, 1, 1, 1, 1, 1, 1, 1, 1, 1, 1, 1, 1, 1, 1, 1, 1, 1, 1, 1, 1, 1, 1, 1, 1, 1, 1, 1, 1, 1, 1, 1, 1, 1, 1, 1, 1, 1, 1, 1, 1, 1, 1, 1, 1, 1, 1, 1, 1, 1, 1, 1, 1, 1, 1, 1, 1, 1, 1, 1, 1, 1, 1, 1, 1, 1, 1, 1, 1, 1, 1, 1, 1, 1]
  | _ => []
noncomputable def spec_PolarPart_l2_T (v26 : Int) (s : Int × Int × Int × (List Nat)) : Tree ((Int × Int × Int × (List Nat)) ⊕ ((Unit) ⊕ (Int × Int × (List Nat)))) :=
  (.br (decide (s.1 < v26)) (
   (.call (spec_l02Flip_g s.2.1 s.2.2.1 s.2.2.2) fun v278 =>
   (.call (spec_MulMatrices_g v278.1 v278.2.1 v278.2.2 s.2.1 s.2.2.1 s.2.2.2) fun v279 =>
   (.sum v279 (fun v280 =>
    (.call (spec_MulMatrices_g s.2.1 s.2.2.1 s.2.2.2 (0 : Int) (0 : Int) ([] : List Nat)) fun v282 =>
    (.sum v282 (fun v283 =>
     (.call (spec_WeighMatrices_g s.2.1 s.2.2.1 s.2.2.2 (0 : Int) (0 : Int) ([] : List Nat) (1069547520 : Nat) (3204448256 : Nat)) fun v285 =>
     (.sum v285 (fun v286 =>
      .leaf (.inr (.inl ()))
     ) (fun v287 =>
      .leaf (.inr (.inl ()))
     )))
    ) (fun v284 =>
     (.call (spec_WeighMatrices_g s.2.1 s.2.2.1 s.2.2.2 v284.1 v284.2.1 v284.2.2 (1069547520 : Nat) (3204448256 : Nat)) fun v288 =>
     (.sum v288 (fun v289 =>
      .leaf (.inr (.inl ()))
     ) (fun v290 =>
      .leaf (.inr (.inl ()))
     )))
    )))
   ) (fun v281 =>
    (.call (spec_MulMatrices_g s.2.1 s.2.2.1 s.2.2.2 v281.1 v281.2.1 v281.2.2) fun v291 =>
    (.sum v291 (fun v292 =>
     (.call (spec_WeighMatrices_g s.2.1 s.2.2.1 s.2.2.2 (0 : Int) (0 : Int) ([] : List Nat) (1069547520 : Nat) (3204448256 : Nat)) fun v294 =>
     (.sum v294 (fun v295 =>
      .leaf (.inr (.inl ()))
     ) (fun v296 =>
      .leaf (.inr (.inl ()))
     )))
    ) (fun v293 =>
     (.call (spec_WeighMatrices_g s.2.1 s.2.2.1 s.2.2.2 v293.1 v293.2.1 v293.2.2 (1069547520 : Nat) (3204448256 : Nat)) fun v297 =>
     (.sum v297 (fun v298 =>
      .leaf (.inr (.inl ()))
     ) (fun v299 =>
      .leaf (.inl (IntKind.i64.wrap (s.1 + (1 : Int)), v299.1, v299.2.1, v299.2.2))
     )))
    )))
   ))))
  ) (
   .leaf (.inr (.inr (s.2.1, s.2.2.1, s.2.2.2)))
  ))

noncomputable def spec_PolarPart_l2_g (v26 : Int) (s0 : Int × Int × Int × (List Nat)) : Option ((Unit) ⊕ (Int × Int × (List Nat))) := whileM (fun s => (spec_PolarPart_l2_T v26 s).run) s0
def spec_PolarPart_l2_E (v23 : Int) (v24 : Int) (v25 : List Nat) (v26 : Int) (s : Int × Int × Int × (List Nat)) : Sd := ([.top, .int .i64 v26, .top, .top, .ptr 0 (0 : Nat) 0 (3 : Nat), .top, .top, .top, .ptr 1 (0 : Nat) 0 (3 : Nat), .top, .int .i64 s.1, .top, .top, .top, .top, .top, .top, .top, .top, .top, .top, .top, .top, .top, .top, .top, .top, .top, .top, .top, .top, .top, .top, .top, .top, .top, .top, .top, .top, .top, .top, .top, .top, .top, .top, .top, .top, .top, .top, .top, .top, .top, .top, .top, .top, .top, .top, .top, .top, .top, .top, .top, .top, .top, .top, .top, .top, .top, .top, .top, .top, .top, .top, .top, .top, .top, .top, .top, .top, .top, .top, .top, .top, .top, .top, .top, .top, .top, .top, .top, .top, .top, .top, .top, .top, .top, .top, .top, .top], [.gen [.int .i64 (0 : Int), .int .i64 (0 : Int), .nilslc] false 0, .gen [.int .i64 s.2.1, .int .i64 s.2.2.1, .own 2 0 ((s.2.2.2).length)] false 0, .row (.f32 s.2.2.2) 0])
def spec_PolarPart_l2_X (v23 : Int) (v24 : Int) (v25 : List Nat) (v26 : Int) (x : (Unit) ⊕ (Int × Int × (List Nat))) : Out := (match x with | .inl x => (.ret, [.top, .top, .top, .top, .ptr 0 (0 : Nat) 0 (3 : Nat), .lit false, .top, .top, .top, .top, .top, .top, .top, .top, .top, .top, .top, .top, .top, .top, .top, .top, .top, .top, .top, .top, .top, .top, .top, .top, .top, .top, .top, .top, .top, .top, .top, .top, .top, .top, .top, .top, .top, .top, .top, .top, .top, .top, .top, .top, .top, .top, .top, .top, .top, .top, .top, .top, .top, .top, .top, .top, .top, .top, .top, .top, .top, .top, .top, .top, .top, .top, .top, .top, .top, .top, .top, .top, .top, .top, .top, .top, .top, .top, .top, .top, .top, .top, .top, .top, .top, .top, .top, .top, .top, .top, .top, .top, .top], [.gen [.int .i64 (0 : Int), .int .i64 (0 : Int), .nilslc] false 0]) | .inr x => (.normal, [.top, .top, .top, .top, .ptr 0 (0 : Nat) 0 (3 : Nat), .top, .top, .top, .ptr 1 (0 : Nat) 0 (3 : Nat), .top, .top, .top, .top, .top, .top, .top, .top, .top, .top, .top, .top, .top, .top, .top, .top, .top, .top, .top, .top, .top, .top, .top, .top, .top, .top, .top, .top, .top, .top, .top, .top, .top, .top, .top, .top, .top, .top, .top, .top, .top, .top, .top, .top, .top, .top, .top, .top, .top, .top, .top, .top, .top, .top, .top, .top, .top, .top, .top, .top, .top, .top, .top, .top, .top, .top, .top, .top, .top, .top, .top, .top, .top, .top, .top, .top, .top, .top, .top, .top, .top, .top, .top, .top, .top, .top, .top, .top, .top, .top], [.gen [.int .i64 (0 : Int), .int .i64 (0 : Int), .nilslc] false 0, .gen [.int .i64 x.1, .int .i64 x.2.1, .own 2 0 ((x.2.2).length)] false 0, .row (.f32 x.2.2) 0]))
def spec_PolarPart_l2_kill : List Nat := [1, 0, 1, 1, 0, 1, 1, 1, 0, 1, 0, 1, 1, 1, 1, 1, 1, 1, 1, 1, 1, 1, 1, 1, 1, 1, 1, 1, 1, 1, 1, 1, 1, 1, 1, 1, 1, 1, 1, 1, 1, 1, 1, 1, 1, 1, 1, 1, 1, 1, 1, 1, 1, 1, 1, 1, 1, 1, 1, 1, 1, 1, 1, 1, 1, 1, 1, 1, 1, 1, 1, 1, 1, 1, 1, 1, 1, 1, 1, 1, 1, 1, 1, 1, 1, 1, 1, 1, 1, 1, 1, 1, 1, 1, 1, 1, 1, 1, 1]
def spec_PolarPart_l2_nx : Exit → List Nat
  | .exit 2 => [1, 1, 1, 1, 0, 1, 1, 1, 0, 1, 1, 1, 1, 1, 1, 1, 1, 1, 1, 1, 1, 1, 1, 1, 1, 1, 1, 1, 1, 1, 1, 1, 1, 1, 1, 1, 1, 1, 1, 1, 1, 1, 1, 1, 1, 1, 1, 1, 1, 1, 1, 1, 1, 1, 1, 1, 1, 1, 1, 1, 1, 1, 1, 1, 1, 1, 1, 1, 1, 1, 1, 1, 1, 1, 1, 1, 1, 1, 1, 1, 1, 1, 1, 1, 1, 1, 1, 1, 1, 1, 1, 1, 1, 1, 1, 1, 1, 1, 1]
  | .ret => [1, 1, 1, 1, 0, 0, 1, 1, 1, 1, 1, 1, 1, 1, 1, 1, 1, 1, 1, 1, 1, 1, 1, 1, 1, 1, 1, 1, 1, 1, 1, 1, 1, 1, 1, 1, 1, 1, 1, 1, 1, 1, 1, 1, 1, 1, 1, 1, 1, 1, 1, 1, 1, 1, 1, 1, 1, 1, 1, 1, 1, 1, 1, 1, 1, 1, 1, 1, 1, 1, 1, 1, 1, 1, 1, 1, 1, 1, 1, 1, 1, 1, 1, 1, 1, 1, 1, 1, 1, 1, 1, 1, 1, 1, 1, 1, 1, 1, 1]
  | _ => []
noncomputable def spec_PolarPart_LO (v23 : Int) (v24 : Int) (v25 : List Nat) (v26 : Int) : LOr := fun id e L =>
  match id with
  | 0 => .need (normA 0 spec_PolarPart_l0_kill e L = some (spec_PolarPart_l0_E v23 v24 v25 v26 (gF (vAt e 6)) (gI (cAt L (vAt e 8) 0)) (gI (cAt L (vAt e 8) 1)) ((gI (vAt e 9)), (gRF L (cAt L (vAt e 8) 2))))) (.call (spec_PolarPart_l0_g (gF (vAt e 6)) (gI (cAt L (vAt e 8) 0)) (gI (cAt L (vAt e 8) 1)) ((gI (vAt e 9)), (gRF L (cAt L (vAt e 8) 2)))) fun x => .leaf (spec_PolarPart_l0_X v23 v24 v25 v26 (gF (vAt e 6)) (gI (cAt L (vAt e 8) 0)) (gI (cAt L (vAt e 8) 1)) x))
  | 2 => .need (normA 0 spec_PolarPart_l2_kill e L = some (spec_PolarPart_l2_E v23 v24 v25 v26 ((gI (vAt e 10)), (gI (cAt L (vAt e 8) 0)), (gI (cAt L (vAt e 8) 1)), (gRF L (cAt L (vAt e 8) 2))))) (.call (spec_PolarPart_l2_g v26 ((gI (vAt e 10)), (gI (cAt L (vAt e 8) 0)), (gI (cAt L (vAt e 8) 1)), (gRF L (cAt L (vAt e 8) 2)))) fun x => .sum x (fun b0 => .leaf (spec_PolarPart_l2_X v23 v24 v25 v26 (.inl b0))) (fun c0 => .leaf (spec_PolarPart_l2_X v23 v24 v25 v26 (.inr c0))))
  | _ => .fail
noncomputable def spec_PolarPart_tab : List (FuncId × DFn × Bool) := [(120, spec_WholeNorm_F, true), (57, spec_l02Square_F, true), (121, spec_l04Rounds_F, true), (101, spec_l02Own_F, true), (122, spec_l02Flip_F, true), (123, spec_MulMatrices_F, true), (124, spec_WeighMatrices_F, true), (71, spec_l02Give_F, true)]
theorem spec_PolarPart_hO : OrcOk Try.prog (tabD spec_PolarPart_tab) (tabM spec_PolarPart_tab) := tabD_cons spec_WholeNorm_Fok (tabD_cons spec_l02Square_Fok (tabD_cons spec_l04Rounds_Fok (tabD_cons spec_l02Own_Fok (tabD_cons spec_l02Flip_Fok (tabD_cons spec_MulMatrices_Fok (tabD_cons spec_WeighMatrices_Fok (tabD_cons spec_l02Give_Fok (tabD_nil _))))))))
theorem spec_PolarPart_l0_be (v23 : Int) (v24 : Int) (v25 : List Nat) (v26 : Int) (v89 : Nat) (v91 : Int) (v92 : Int) (s : Int × (List Nat)) : bodyT TT (tabD spec_PolarPart_tab) (tabM spec_PolarPart_tab) (spec_PolarPart_LO v23 v24 v25 v26) 0 spec_PolarPart_l0_kill spec_PolarPart_l0_nx (bodyOf Try.f52 0) 0 (spec_PolarPart_l0_E v23 v24 v25 v26 v89 v91 v92 s) = (spec_PolarPart_l0_T v89 v91 v92 s).bind fun y => .leaf (outS (spec_PolarPart_l0_E v23 v24 v25 v26 v89 v91 v92) (spec_PolarPart_l0_X v23 v24 v25 v26 v89 v91 v92) y) := by kernel_rfl
theorem spec_PolarPart_l0_ok (v23 : Int) (v24 : Int) (v25 : List Nat) (v26 : Int) : LSound Try.prog 0 (spec_PolarPart_LO v23 v24 v25 v26) 0 (bodyOf Try.f52 0) := by
  intro e L out h
  exact lo_ok (E := spec_PolarPart_l0_E v23 v24 v25 v26 (gF (vAt e 6)) (gI (cAt L (vAt e 8) 0)) (gI (cAt L (vAt e 8) 1))) (gT := spec_PolarPart_l0_T (gF (vAt e 6)) (gI (cAt L (vAt e 8) 0)) (gI (cAt L (vAt e 8) 1))) (X := spec_PolarPart_l0_X v23 v24 v25 v26 (gF (vAt e 6)) (gI (cAt L (vAt e 8) 0)) (gI (cAt L (vAt e 8) 1))) (s0 := ((gI (vAt e 9)), (gRF L (cAt L (vAt e 8) 2)))) tok spec_PolarPart_hO mixed (LoopsOk_eq (l := []) (by kernel_rfl) trivial) (spec_PolarPart_l0_be v23 v24 v25 v26 (gF (vAt e 6)) (gI (cAt L (vAt e 8) 0)) (gI (cAt L (vAt e 8) 1))) rfl (by intro x; rfl) h
theorem spec_PolarPart_l2_be (v23 : Int) (v24 : Int) (v25 : List Nat) (v26 : Int) (s : Int × Int × Int × (List Nat)) : bodyT TT (tabD spec_PolarPart_tab) (tabM spec_PolarPart_tab) (spec_PolarPart_LO v23 v24 v25 v26) 0 spec_PolarPart_l2_kill spec_PolarPart_l2_nx (bodyOf Try.f52 2) 2 (spec_PolarPart_l2_E v23 v24 v25 v26 s) = (spec_PolarPart_l2_T v26 s).bind fun y => .leaf (outS (spec_PolarPart_l2_E v23 v24 v25 v26) (spec_PolarPart_l2_X v23 v24 v25 v26) y) := by kernel_rfl
theorem spec_PolarPart_l2_ok (v23 : Int) (v24 : Int) (v25 : List Nat) (v26 : Int) : LSound Try.prog 0 (spec_PolarPart_LO v23 v24 v25 v26) 2 (bodyOf Try.f52 2) := by
  intro e L out h
  exact lo_ok (E := spec_PolarPart_l2_E v23 v24 v25 v26) (gT := spec_PolarPart_l2_T v26) (X := spec_PolarPart_l2_X v23 v24 v25 v26) (s0 := ((gI (vAt e 10)), (gI (cAt L (vAt e 8) 0)), (gI (cAt L (vAt e 8) 1)), (gRF L (cAt L (vAt e 8) 2)))) tok spec_PolarPart_hO mixed (LoopsOk_eq (l := []) (by kernel_rfl) trivial) (spec_PolarPart_l2_be v23 v24 v25 v26) rfl (by intro x; (cases x with | inl b => rfl | inr x => exact rfl)) h
noncomputable def spec_PolarPart_T (v23 : Int) (v24 : Int) (v25 : List Nat) (v26 : Int) : Tree ((Unit) ⊕ (Int × Int × (List Nat))) :=
  (.call (spec_WholeNorm_g v23 v24 v25) fun v67 =>
  (.sum v67 (fun v68 =>
   .leaf (.inl ())
  ) (fun v69 =>
   (.call (spec_l02Square_g v23 v24 v25) fun v74 =>
   (.br (!v74) (
    .leaf (.inl ())
   ) (
    (.br (!(spec_l04Rounds_v v26)) (
     .leaf (.inl ())
    ) (
     (.br (!(fgrt .f32 v69 (0 : Nat))) (
      .leaf (.inl ())
     ) (
      (.call (spec_l02Own_g v23 v24 v25) fun v79 =>
      (.need (some (spec_PolarPart_l0_E v23 v24 v25 v26 v69 v79.1 v79.2 ((0 : Int), ([] : List Nat) ++ v25)) = some (spec_PolarPart_l0_E v23 v24 v25 v26 v69 v79.1 v79.2 ((0 : Int), ([] : List Nat) ++ v25))) <|
      (.call (spec_PolarPart_l0_g v69 v79.1 v79.2 ((0 : Int), ([] : List Nat) ++ v25)) fun v94 =>
      (.need (some (spec_PolarPart_l2_E v23 v24 v25 v26 ((0 : Int), v79.1, v79.2, v94)) = some (spec_PolarPart_l2_E v23 v24 v25 v26 ((0 : Int), v79.1, v79.2, v94))) <|
      (.call (spec_PolarPart_l2_g v26 ((0 : Int), v79.1, v79.2, v94)) fun v300 =>
      (.sum v300 (fun v301 =>
       .leaf (.inl ())
      ) (fun v302 =>
       (.call (spec_l02Give_g v302.1 v302.2.1 v302.2.2) fun v303 =>
       (.sum v303 (fun v304 =>
        .leaf (.inl ())
       ) (fun v305 =>
        .leaf (.inr (v305.1, v305.2, v302.2.2))
       )))
      )))))))
     ))
    ))
   )))
  )))

noncomputable def spec_PolarPart_g (v23 : Int) (v24 : Int) (v25 : List Nat) (v26 : Int) : Option ((Unit) ⊕ (Int × Int × (List Nat))) := (spec_PolarPart_T v23 v24 v25 v26).run
def spec_PolarPart_enc (v23 : Int) (v24 : Int) (v25 : List Nat) (v26 : Int) (y : (Unit) ⊕ (Int × Int × (List Nat))) : Rs := (match y with | .inl y => (.tup [.agg [.int .i64 (0 : Int), .int .i64 (0 : Int), .nilslc], .lit false], []) | .inr y => (.tup [.agg [.int .i64 y.1, .int .i64 y.2.1, .own 0 0 ((y.2.2).length)], .lit true], [.row (.f32 y.2.2) 0]))
theorem spec_PolarPart_den (v23 : Int) (v24 : Int) (v25 : List Nat) (v26 : Int) : (den TT (tabD spec_PolarPart_tab) (tabM spec_PolarPart_tab) (spec_PolarPart_LO v23 v24 v25 v26) (codeOf Try.f52) ([.agg [.int .i64 v23, .int .i64 v24, .bslc (BR.root 0) (.f32 v25)], .int .i64 v26] ++ List.replicate (Try.f52.ntmps - ([.agg [.int .i64 v23, .int .i64 v24, .bslc (BR.root 0) (.f32 v25)], .int .i64 v26] : List DV).length) .undef) []).bind (retD TT Try.f52.results.toList 0) = (spec_PolarPart_T v23 v24 v25 v26).bind fun y => .leaf (spec_PolarPart_enc v23 v24 v25 v26 y) := by kernel_rfl
theorem spec_PolarPart_fn (v23 : Int) (v24 : Int) (v25 : List Nat) (v26 : Int) (F : Fr) (hm : F.ids.length = 0) (h0 : St F [] F.H0) (hA : DVs.Ok F [] [.agg [.int .i64 v23, .int .i64 v24, .bslc (BR.root 0) (.f32 v25)], .int .i64 v26]) {y : (Unit) ⊕ (Int × Int × (List Nat))} (hy : spec_PolarPart_g v23 v24 v25 v26 = some y) : ∃ H', FnOk Try.prog 52 (DVs.av F [.agg [.int .i64 v23, .int .i64 v24, .bslc (BR.root 0) (.f32 v25)], .int .i64 v26]) F.H0 ((spec_PolarPart_enc v23 v24 v25 v26 y).1.av F) H' ∧ St F (spec_PolarPart_enc v23 v24 v25 v26 y).2 H' ∧ (spec_PolarPart_enc v23 v24 v25 v26 y).1.Ok F (spec_PolarPart_enc v23 v24 v25 v26 y).2 :=
  fn_fin tok spec_PolarPart_hO mixed Try.func52 Try.call52 (by kernel_rfl) (LoopsOk_eq (l := [(0, bodyOf Try.f52 0), (2, bodyOf Try.f52 2)]) (by kernel_rfl) ⟨spec_PolarPart_l0_ok v23 v24 v25 v26, spec_PolarPart_l2_ok v23 v24 v25 v26, trivial⟩) (spec_PolarPart_den v23 v24 v25 v26) hy hm h0 hA
noncomputable def spec_PolarPart_F : DFn := fun args L =>
  match args with
  | [.agg [.int .i64 v23, .int .i64 v24, a1], .int .i64 v26] =>
    optT (rowF32 L a1) fun v25 =>
    .call (spec_PolarPart_g v23 v24 v25 v26) fun y => .sum y (fun y0 => .leaf (.tup [.agg [.int .i64 (0 : Int), .int .i64 (0 : Int), .nilslc], .lit false], L)) (fun z0 => .leaf (.tup [.agg [.int .i64 z0.1, .int .i64 z0.2.1, .own (L.length + 0) 0 ((z0.2.2).length)], .lit true], L ++ [.row (.f32 z0.2.2) 0]))
  | _ => .fail
theorem spec_PolarPart_Fok : COk Try.prog 52 spec_PolarPart_F true := by
  intro F L H args r L' hs ha hr
  unfold spec_PolarPart_F at hr
  split at hr
  · rename_i v23 v24 a1 v26
    obtain ⟨v25, hv25, hr⟩ := optT_run hr
    simp only [Tree.run] at hr
    obtain ⟨y, hy, hr⟩ := Option.bind_eq_some_iff.1 hr
    cases y with
    | inl y =>
      simp only [Tree.run, Option.some.injEq, Prod.mk.injEq] at hr
      obtain ⟨rfl, rfl⟩ := hr
      exact call_ok0 hs (fun k => (([a1.av F] : List AV)[k]?).getD .top) [.agg [.int .i64 v23, .int .i64 v24, a1], .int .i64 v26] [.agg [.int .i64 v23, .int .i64 v24, .bslc (BR.root 0) (.f32 v25)], .int .i64 v26] (fun F' h0 hi hρ => ⟨by simp [DVs.av, DV.av, BR.av, hρ], spec_PolarPart_fn v23 v24 v25 v26 F' (by rw [hi]; rfl) (st_nil hi) ⟨⟨trivial, trivial, bslc_ok hi (by rw [h0, hρ]; exact rowF32_ok hs (DVs.okAt (DVs.okAt ha 0 rfl) 2 rfl) hv25), trivial⟩, trivial, trivial⟩ hy⟩) rfl
    | inr y =>
      simp only [Tree.run, Option.some.injEq, Prod.mk.injEq] at hr
      obtain ⟨rfl, rfl⟩ := hr
      exact call_ok1 hs (fun k => (([a1.av F] : List AV)[k]?).getD .top) [.agg [.int .i64 v23, .int .i64 v24, a1], .int .i64 v26] [.agg [.int .i64 v23, .int .i64 v24, .bslc (BR.root 0) (.f32 v25)], .int .i64 v26] (fun F' h0 hi hρ => ⟨by simp [DVs.av, DV.av, BR.av, hρ], spec_PolarPart_fn v23 v24 v25 v26 F' (by rw [hi]; rfl) (st_nil hi) ⟨⟨trivial, trivial, bslc_ok hi (by rw [h0, hρ]; exact rowF32_ok hs (DVs.okAt (DVs.okAt ha 0 rfl) 2 rfl) hv25), trivial⟩, trivial, trivial⟩ hy⟩) rfl rfl
  · cases hr
/-! impl.inRange -/
noncomputable def impl_inRange_LO (v321 : Int) (v322 : Int) (v323 : Int) : LOr := fun id e L =>
  match id with
  | _ => .fail
noncomputable def impl_inRange_tab : List (FuncId × DFn × Bool) := []
theorem impl_inRange_hO : OrcOk Try.prog (tabD impl_inRange_tab) (tabM impl_inRange_tab) := tabD_nil _
noncomputable def impl_inRange_T (v321 : Int) (v322 : Int) (v323 : Int) : Tree (Bool) :=
  (.br (decide (v322 ≤ v321)) (
   .leaf (decide (v321 ≤ v323))
  ) (
   .leaf false
  ))

noncomputable def impl_inRange_g (v321 : Int) (v322 : Int) (v323 : Int) : Option (Bool) := (impl_inRange_T v321 v322 v323).run
def impl_inRange_enc (v321 : Int) (v322 : Int) (v323 : Int) (y : Bool) : Rs := (.bool y, [])
theorem impl_inRange_den (v321 : Int) (v322 : Int) (v323 : Int) : (den TT (tabD impl_inRange_tab) (tabM impl_inRange_tab) (impl_inRange_LO v321 v322 v323) (codeOf Try.f73) ([.int .i64 v321, .int .i64 v322, .int .i64 v323] ++ List.replicate (Try.f73.ntmps - ([.int .i64 v321, .int .i64 v322, .int .i64 v323] : List DV).length) .undef) []).bind (retD TT Try.f73.results.toList 0) = (impl_inRange_T v321 v322 v323).bind fun y => .leaf (impl_inRange_enc v321 v322 v323 y) := by kernel_rfl
theorem impl_inRange_fn (v321 : Int) (v322 : Int) (v323 : Int) (F : Fr) (hm : F.ids.length = 0) (h0 : St F [] F.H0) (hA : DVs.Ok F [] [.int .i64 v321, .int .i64 v322, .int .i64 v323]) {y : Bool} (hy : impl_inRange_g v321 v322 v323 = some y) : ∃ H', FnOk Try.prog 73 (DVs.av F [.int .i64 v321, .int .i64 v322, .int .i64 v323]) F.H0 ((impl_inRange_enc v321 v322 v323 y).1.av F) H' ∧ St F (impl_inRange_enc v321 v322 v323 y).2 H' ∧ (impl_inRange_enc v321 v322 v323 y).1.Ok F (impl_inRange_enc v321 v322 v323 y).2 :=
  fn_fin tok impl_inRange_hO mixed Try.func73 Try.call73 (by kernel_rfl) (LoopsOk_eq (l := []) (by kernel_rfl) trivial) (impl_inRange_den v321 v322 v323) hy hm h0 hA
def impl_inRange_v (v321 : Int) (v322 : Int) (v323 : Int) : Bool :=
  if (decide (v322 ≤ v321)) = true then (
   decide (v321 ≤ v323)
  ) else (
   false
  )
theorem impl_inRange_tot (v321 : Int) (v322 : Int) (v323 : Int) : impl_inRange_g v321 v322 v323 = some (impl_inRange_v v321 v322 v323) := by
  unfold impl_inRange_g impl_inRange_T impl_inRange_v
  simp only [Tree.run]
  repeat' (first | rfl | split)
noncomputable def impl_inRange_F : DFn := fun args L =>
  match args with
  | [.int .i64 v321, .int .i64 v322, .int .i64 v323] =>
    .leaf (.bool (impl_inRange_v v321 v322 v323), L)
  | _ => .fail
theorem impl_inRange_Fok : COk Try.prog 73 impl_inRange_F true := by
  intro F L H args r L' hs ha hr
  unfold impl_inRange_F at hr
  split at hr
  · rename_i v321 v322 v323
    have hy := impl_inRange_tot v321 v322 v323
    generalize impl_inRange_v v321 v322 v323 = y at hy hr
    simp only [Tree.run, Option.some.injEq, Prod.mk.injEq] at hr
    obtain ⟨rfl, rfl⟩ := hr
    exact call_ok0 hs (fun k => (([] : List AV)[k]?).getD .top) [.int .i64 v321, .int .i64 v322, .int .i64 v323] [.int .i64 v321, .int .i64 v322, .int .i64 v323] (fun F' h0 hi hρ => ⟨by simp [DVs.av, DV.av, BR.av, hρ], impl_inRange_fn v321 v322 v323 F' (by rw [hi]; rfl) (st_nil hi) ⟨trivial, trivial, trivial, trivial⟩ hy⟩) rfl
  · cases hr
/-! impl.isSide -/
noncomputable def impl_isSide_LO (v320 : Int) : LOr := fun id e L =>
  match id with
  | _ => .fail
noncomputable def impl_isSide_tab : List (FuncId × DFn × Bool) := [(73, impl_inRange_F, true)]
theorem impl_isSide_hO : OrcOk Try.prog (tabD impl_isSide_tab) (tabM impl_isSide_tab) := tabD_cons impl_inRange_Fok (tabD_nil _)
noncomputable def impl_isSide_T (v320 : Int) : Tree (Bool) :=
  .leaf (impl_inRange_v v320 (1 : Int) (12 : Int))

noncomputable def impl_isSide_g (v320 : Int) : Option (Bool) := (impl_isSide_T v320).run
def impl_isSide_enc (v320 : Int) (y : Bool) : Rs := (.bool y, [])
theorem impl_isSide_den (v320 : Int) : (den TT (tabD impl_isSide_tab) (tabM impl_isSide_tab) (impl_isSide_LO v320) (codeOf Try.f77) ([.int .i64 v320] ++ List.replicate (Try.f77.ntmps - ([.int .i64 v320] : List DV).length) .undef) []).bind (retD TT Try.f77.results.toList 0) = (impl_isSide_T v320).bind fun y => .leaf (impl_isSide_enc v320 y) := by kernel_rfl
theorem impl_isSide_fn (v320 : Int) (F : Fr) (hm : F.ids.length = 0) (h0 : St F [] F.H0) (hA : DVs.Ok F [] [.int .i64 v320]) {y : Bool} (hy : impl_isSide_g v320 = some y) : ∃ H', FnOk Try.prog 77 (DVs.av F [.int .i64 v320]) F.H0 ((impl_isSide_enc v320 y).1.av F) H' ∧ St F (impl_isSide_enc v320 y).2 H' ∧ (impl_isSide_enc v320 y).1.Ok F (impl_isSide_enc v320 y).2 :=
  fn_fin tok impl_isSide_hO mixed Try.func77 Try.call77 (by kernel_rfl) (LoopsOk_eq (l := []) (by kernel_rfl) trivial) (impl_isSide_den v320) hy hm h0 hA
def impl_isSide_v (v320 : Int) : Bool :=
  (impl_inRange_v v320 (1 : Int) (12 : Int))
theorem impl_isSide_tot (v320 : Int) : impl_isSide_g v320 = some (impl_isSide_v v320) := by
  unfold impl_isSide_g impl_isSide_T impl_isSide_v
  simp only [Tree.run]
  repeat' (first | rfl | split)
noncomputable def impl_isSide_F : DFn := fun args L =>
  match args with
  | [.int .i64 v320] =>
    .leaf (.bool (impl_isSide_v v320), L)
  | _ => .fail
theorem impl_isSide_Fok : COk Try.prog 77 impl_isSide_F true := by
  intro F L H args r L' hs ha hr
  unfold impl_isSide_F at hr
  split at hr
  · rename_i v320
    have hy := impl_isSide_tot v320
    generalize impl_isSide_v v320 = y at hy hr
    simp only [Tree.run, Option.some.injEq, Prod.mk.injEq] at hr
    obtain ⟨rfl, rfl⟩ := hr
    exact call_ok0 hs (fun k => (([] : List AV)[k]?).getD .top) [.int .i64 v320] [.int .i64 v320] (fun F' h0 hi hρ => ⟨by simp [DVs.av, DV.av, BR.av, hρ], impl_isSide_fn v320 F' (by rw [hi]; rfl) (st_nil hi) ⟨trivial, trivial⟩ hy⟩) rfl
  · cases hr
/-! impl.length[float32] -/
noncomputable def impl_lengthF_LO (v324 : List Nat) : LOr := fun id e L =>
  match id with
  | _ => .fail
noncomputable def impl_lengthF_tab : List (FuncId × DFn × Bool) := []
theorem impl_lengthF_hO : OrcOk Try.prog (tabD impl_lengthF_tab) (tabM impl_lengthF_tab) := tabD_nil _
noncomputable def impl_lengthF_T (v324 : List Nat) : Tree (Int) :=
  .leaf ((v324.length : Nat) : Int)

noncomputable def impl_lengthF_g (v324 : List Nat) : Option (Int) := (impl_lengthF_T v324).run
def impl_lengthF_enc (v324 : List Nat) (y : Int) : Rs := (.int .i64 y, [])
theorem impl_lengthF_den (v324 : List Nat) : (den TT (tabD impl_lengthF_tab) (tabM impl_lengthF_tab) (impl_lengthF_LO v324) (codeOf Try.f112) ([.bslc (BR.root 0) (.f32 v324)] ++ List.replicate (Try.f112.ntmps - ([.bslc (BR.root 0) (.f32 v324)] : List DV).length) .undef) []).bind (retD TT Try.f112.results.toList 0) = (impl_lengthF_T v324).bind fun y => .leaf (impl_lengthF_enc v324 y) := by kernel_rfl
theorem impl_lengthF_fn (v324 : List Nat) (F : Fr) (hm : F.ids.length = 0) (h0 : St F [] F.H0) (hA : DVs.Ok F [] [.bslc (BR.root 0) (.f32 v324)]) {y : Int} (hy : impl_lengthF_g v324 = some y) : ∃ H', FnOk Try.prog 112 (DVs.av F [.bslc (BR.root 0) (.f32 v324)]) F.H0 ((impl_lengthF_enc v324 y).1.av F) H' ∧ St F (impl_lengthF_enc v324 y).2 H' ∧ (impl_lengthF_enc v324 y).1.Ok F (impl_lengthF_enc v324 y).2 :=
  fn_fin tok impl_lengthF_hO mixed Try.func112 Try.call112 (by kernel_rfl) (LoopsOk_eq (l := []) (by kernel_rfl) trivial) (impl_lengthF_den v324) hy hm h0 hA
def impl_lengthF_v (v324 : List Nat) : Int :=
  ((v324.length : Nat) : Int)
theorem impl_lengthF_tot (v324 : List Nat) : impl_lengthF_g v324 = some (impl_lengthF_v v324) := by
  unfold impl_lengthF_g impl_lengthF_T impl_lengthF_v
  simp only [Tree.run]
  repeat' (first | rfl | split)
noncomputable def impl_lengthF_F : DFn := fun args L =>
  match args with
  | [a1] =>
    optT (rowF32 L a1) fun v324 =>
    .leaf (.int .i64 (impl_lengthF_v v324), L)
  | _ => .fail
theorem impl_lengthF_Fok : COk Try.prog 112 impl_lengthF_F true := by
  intro F L H args r L' hs ha hr
  unfold impl_lengthF_F at hr
  split at hr
  · rename_i a1
    obtain ⟨v324, hv324, hr⟩ := optT_run hr
    have hy := impl_lengthF_tot v324
    generalize impl_lengthF_v v324 = y at hy hr
    simp only [Tree.run, Option.some.injEq, Prod.mk.injEq] at hr
    obtain ⟨rfl, rfl⟩ := hr
    exact call_ok0 hs (fun k => (([a1.av F] : List AV)[k]?).getD .top) [a1] [.bslc (BR.root 0) (.f32 v324)] (fun F' h0 hi hρ => ⟨by simp [DVs.av, DV.av, BR.av, hρ], impl_lengthF_fn v324 F' (by rw [hi]; rfl) (st_nil hi) ⟨bslc_ok hi (by rw [h0, hρ]; exact rowF32_ok hs (DVs.okAt ha 0 rfl) hv324), trivial⟩ hy⟩) rfl
  · cases hr
/-! math.IsNaN -/
noncomputable def math_IsNaN_LO (v332 : Nat) : LOr := fun id e L =>
  match id with
  | _ => .fail
noncomputable def math_IsNaN_tab : List (FuncId × DFn × Bool) := []
theorem math_IsNaN_hO : OrcOk Try.prog (tabD math_IsNaN_tab) (tabM math_IsNaN_tab) := tabD_nil _
noncomputable def math_IsNaN_T (v332 : Nat) : Tree (Bool) :=
  .leaf (!feq .f64 v332 v332)

noncomputable def math_IsNaN_g (v332 : Nat) : Option (Bool) := (math_IsNaN_T v332).run
def math_IsNaN_enc (v332 : Nat) (y : Bool) : Rs := (.bool y, [])
theorem math_IsNaN_den (v332 : Nat) : (den TT (tabD math_IsNaN_tab) (tabM math_IsNaN_tab) (math_IsNaN_LO v332) (codeOf Try.f172) ([.flt .f64 v332] ++ List.replicate (Try.f172.ntmps - ([.flt .f64 v332] : List DV).length) .undef) []).bind (retD TT Try.f172.results.toList 0) = (math_IsNaN_T v332).bind fun y => .leaf (math_IsNaN_enc v332 y) := by kernel_rfl
theorem math_IsNaN_fn (v332 : Nat) (F : Fr) (hm : F.ids.length = 0) (h0 : St F [] F.H0) (hA : DVs.Ok F [] [.flt .f64 v332]) {y : Bool} (hy : math_IsNaN_g v332 = some y) : ∃ H', FnOk Try.prog 172 (DVs.av F [.flt .f64 v332]) F.H0 ((math_IsNaN_enc v332 y).1.av F) H' ∧ St F (math_IsNaN_enc v332 y).2 H' ∧ (math_IsNaN_enc v332 y).1.Ok F (math_IsNaN_enc v332 y).2 :=
  fn_fin tok math_IsNaN_hO mixed Try.func172 Try.call172 (by kernel_rfl) (LoopsOk_eq (l := []) (by kernel_rfl) trivial) (math_IsNaN_den v332) hy hm h0 hA
def math_IsNaN_v (v332 : Nat) : Bool :=
  !feq .f64 v332 v332
theorem math_IsNaN_tot (v332 : Nat) : math_IsNaN_g v332 = some (math_IsNaN_v v332) := by
  unfold math_IsNaN_g math_IsNaN_T math_IsNaN_v
  simp only [Tree.run]
  repeat' (first | rfl | split)
noncomputable def math_IsNaN_F : DFn := fun args L =>
  match args with
  | [.flt .f64 v332] =>
    .leaf (.bool (math_IsNaN_v v332), L)
  | _ => .fail
theorem math_IsNaN_Fok : COk Try.prog 172 math_IsNaN_F true := by
  intro F L H args r L' hs ha hr
  unfold math_IsNaN_F at hr
  split at hr
  · rename_i v332
    have hy := math_IsNaN_tot v332
    generalize math_IsNaN_v v332 = y at hy hr
    simp only [Tree.run, Option.some.injEq, Prod.mk.injEq] at hr
    obtain ⟨rfl, rfl⟩ := hr
    exact call_ok0 hs (fun k => (([] : List AV)[k]?).getD .top) [.flt .f64 v332] [.flt .f64 v332] (fun F' h0 hi hρ => ⟨by simp [DVs.av, DV.av, BR.av, hρ], math_IsNaN_fn v332 F' (by rw [hi]; rfl) (st_nil hi) ⟨trivial, trivial⟩ hy⟩) rfl
  · cases hr
/-! math.IsInf -/
noncomputable def math_IsInf_LO (v333 : Nat) (v334 : Int) : LOr := fun id e L =>
  match id with
  | _ => .fail
noncomputable def math_IsInf_tab : List (FuncId × DFn × Bool) := [(97, Abs_F, true)]
theorem math_IsInf_hO : OrcOk Try.prog (tabD math_IsInf_tab) (tabM math_IsInf_tab) := tabD_cons Abs_Fok (tabD_nil _)
noncomputable def math_IsInf_T (v333 : Nat) (v334 : Int) : Tree (Bool) :=
  (.br (decide (v334 = (0 : Int))) (
   .leaf (fgrt .f64 (fabs v333) (9218868437227405311 : Nat))
  ) (
   (.br (decide (v334 < (0 : Int))) (
    .leaf (fgrt .f64 (fneg .f64 v333) (9218868437227405311 : Nat))
   ) (
    .leaf (fgrt .f64 v333 (9218868437227405311 : Nat))
   ))
  ))

noncomputable def math_IsInf_g (v333 : Nat) (v334 : Int) : Option (Bool) := (math_IsInf_T v333 v334).run
def math_IsInf_enc (v333 : Nat) (v334 : Int) (y : Bool) : Rs := (.bool y, [])
theorem math_IsInf_den (v333 : Nat) (v334 : Int) : (den TT (tabD math_IsInf_tab) (tabM math_IsInf_tab) (math_IsInf_LO v333 v334) (codeOf Try.f173) ([.flt .f64 v333, .int .i64 v334] ++ List.replicate (Try.f173.ntmps - ([.flt .f64 v333, .int .i64 v334] : List DV).length) .undef) []).bind (retD TT Try.f173.results.toList 0) = (math_IsInf_T v333 v334).bind fun y => .leaf (math_IsInf_enc v333 v334 y) := by kernel_rfl
theorem math_IsInf_fn (v333 : Nat) (v334 : Int) (F : Fr) (hm : F.ids.length = 0) (h0 : St F [] F.H0) (hA : DVs.Ok F [] [.flt .f64 v333, .int .i64 v334]) {y : Bool} (hy : math_IsInf_g v333 v334 = some y) : ∃ H', FnOk Try.prog 173 (DVs.av F [.flt .f64 v333, .int .i64 v334]) F.H0 ((math_IsInf_enc v333 v334 y).1.av F) H' ∧ St F (math_IsInf_enc v333 v334 y).2 H' ∧ (math_IsInf_enc v333 v334 y).1.Ok F (math_IsInf_enc v333 v334 y).2 :=
  fn_fin tok math_IsInf_hO mixed Try.func173 Try.call173 (by kernel_rfl) (LoopsOk_eq (l := []) (by kernel_rfl) trivial) (math_IsInf_den v333 v334) hy hm h0 hA
def math_IsInf_v (v333 : Nat) (v334 : Int) : Bool :=
  if (decide (v334 = (0 : Int))) = true then (
   fgrt .f64 (fabs v333) (9218868437227405311 : Nat)
  ) else (
   if (decide (v334 < (0 : Int))) = true then (
    fgrt .f64 (fneg .f64 v333) (9218868437227405311 : Nat)
   ) else (
    fgrt .f64 v333 (9218868437227405311 : Nat)
   )
  )
theorem math_IsInf_tot (v333 : Nat) (v334 : Int) : math_IsInf_g v333 v334 = some (math_IsInf_v v333 v334) := by
  unfold math_IsInf_g math_IsInf_T math_IsInf_v
  simp only [Tree.run]
  repeat' (first | rfl | split)
noncomputable def math_IsInf_F : DFn := fun args L =>
  match args with
  | [.flt .f64 v333, .int .i64 v334] =>
    .leaf (.bool (math_IsInf_v v333 v334), L)
  | _ => .fail
theorem math_IsInf_Fok : COk Try.prog 173 math_IsInf_F true := by
  intro F L H args r L' hs ha hr
  unfold math_IsInf_F at hr
  split at hr
  · rename_i v333 v334
    have hy := math_IsInf_tot v333 v334
    generalize math_IsInf_v v333 v334 = y at hy hr
    simp only [Tree.run, Option.some.injEq, Prod.mk.injEq] at hr
    obtain ⟨rfl, rfl⟩ := hr
    exact call_ok0 hs (fun k => (([] : List AV)[k]?).getD .top) [.flt .f64 v333, .int .i64 v334] [.flt .f64 v333, .int .i64 v334] (fun F' h0 hi hρ => ⟨by simp [DVs.av, DV.av, BR.av, hρ], math_IsInf_fn v333 v334 F' (by rw [hi]; rfl) (st_nil hi) ⟨trivial, trivial, trivial⟩ hy⟩) rfl
  · cases hr
/-! impl.isFinite64 -/
noncomputable def impl_isFinite64_LO (v331 : Nat) : LOr := fun id e L =>
  match id with
  | _ => .fail
noncomputable def impl_isFinite64_tab : List (FuncId × DFn × Bool) := [(172, math_IsNaN_F, true), (173, math_IsInf_F, true)]
theorem impl_isFinite64_hO : OrcOk Try.prog (tabD impl_isFinite64_tab) (tabM impl_isFinite64_tab) := tabD_cons math_IsNaN_Fok (tabD_cons math_IsInf_Fok (tabD_nil _))
noncomputable def impl_isFinite64_T (v331 : Nat) : Tree (Bool) :=
  (.br (!(math_IsNaN_v v331)) (
   .leaf (!(math_IsInf_v v331 (0 : Int)))
  ) (
   .leaf false
  ))

noncomputable def impl_isFinite64_g (v331 : Nat) : Option (Bool) := (impl_isFinite64_T v331).run
def impl_isFinite64_enc (v331 : Nat) (y : Bool) : Rs := (.bool y, [])
theorem impl_isFinite64_den (v331 : Nat) : (den TT (tabD impl_isFinite64_tab) (tabM impl_isFinite64_tab) (impl_isFinite64_LO v331) (codeOf Try.f149) ([.flt .f64 v331] ++ List.replicate (Try.f149.ntmps - ([.flt .f64 v331] : List DV).length) .undef) []).bind (retD TT Try.f149.results.toList 0) = (impl_isFinite64_T v331).bind fun y => .leaf (impl_isFinite64_enc v331 y) := by kernel_rfl
theorem impl_isFinite64_fn (v331 : Nat) (F : Fr) (hm : F.ids.length = 0) (h0 : St F [] F.H0) (hA : DVs.Ok F [] [.flt .f64 v331]) {y : Bool} (hy : impl_isFinite64_g v331 = some y) : ∃ H', FnOk Try.prog 149 (DVs.av F [.flt .f64 v331]) F.H0 ((impl_isFinite64_enc v331 y).1.av F) H' ∧ St F (impl_isFinite64_enc v331 y).2 H' ∧ (impl_isFinite64_enc v331 y).1.Ok F (impl_isFinite64_enc v331 y).2 :=
  fn_fin tok impl_isFinite64_hO mixed Try.func149 Try.call149 (by kernel_rfl) (LoopsOk_eq (l := []) (by kernel_rfl) trivial) (impl_isFinite64_den v331) hy hm h0 hA
def impl_isFinite64_v (v331 : Nat) : Bool :=
  if (!(math_IsNaN_v v331)) = true then (
   !(math_IsInf_v v331 (0 : Int))
  ) else (
   false
  )
theorem impl_isFinite64_tot (v331 : Nat) : impl_isFinite64_g v331 = some (impl_isFinite64_v v331) := by
  unfold impl_isFinite64_g impl_isFinite64_T impl_isFinite64_v
  simp only [Tree.run]
  repeat' (first | rfl | split)
noncomputable def impl_isFinite64_F : DFn := fun args L =>
  match args with
  | [.flt .f64 v331] =>
    .leaf (.bool (impl_isFinite64_v v331), L)
  | _ => .fail
theorem impl_isFinite64_Fok : COk Try.prog 149 impl_isFinite64_F true := by
  intro F L H args r L' hs ha hr
  unfold impl_isFinite64_F at hr
  split at hr
  · rename_i v331
    have hy := impl_isFinite64_tot v331
    generalize impl_isFinite64_v v331 = y at hy hr
    simp only [Tree.run, Option.some.injEq, Prod.mk.injEq] at hr
    obtain ⟨rfl, rfl⟩ := hr
    exact call_ok0 hs (fun k => (([] : List AV)[k]?).getD .top) [.flt .f64 v331] [.flt .f64 v331] (fun F' h0 hi hρ => ⟨by simp [DVs.av, DV.av, BR.av, hρ], impl_isFinite64_fn v331 F' (by rw [hi]; rfl) (st_nil hi) ⟨trivial, trivial⟩ hy⟩) rfl
  · cases hr
/-! impl.IsFinite -/
noncomputable def impl_IsFinite_LO (v330 : Nat) : LOr := fun id e L =>
  match id with
  | _ => .fail
noncomputable def impl_IsFinite_tab : List (FuncId × DFn × Bool) := [(149, impl_isFinite64_F, true)]
theorem impl_IsFinite_hO : OrcOk Try.prog (tabD impl_IsFinite_tab) (tabM impl_IsFinite_tab) := tabD_cons impl_isFinite64_Fok (tabD_nil _)
noncomputable def impl_IsFinite_T (v330 : Nat) : Tree (Bool) :=
  .leaf (impl_isFinite64_v (wid v330))

noncomputable def impl_IsFinite_g (v330 : Nat) : Option (Bool) := (impl_IsFinite_T v330).run
def impl_IsFinite_enc (v330 : Nat) (y : Bool) : Rs := (.bool y, [])
theorem impl_IsFinite_den (v330 : Nat) : (den TT (tabD impl_IsFinite_tab) (tabM impl_IsFinite_tab) (impl_IsFinite_LO v330) (codeOf Try.f96) ([.flt .f32 v330] ++ List.replicate (Try.f96.ntmps - ([.flt .f32 v330] : List DV).length) .undef) []).bind (retD TT Try.f96.results.toList 0) = (impl_IsFinite_T v330).bind fun y => .leaf (impl_IsFinite_enc v330 y) := by kernel_rfl
theorem impl_IsFinite_fn (v330 : Nat) (F : Fr) (hm : F.ids.length = 0) (h0 : St F [] F.H0) (hA : DVs.Ok F [] [.flt .f32 v330]) {y : Bool} (hy : impl_IsFinite_g v330 = some y) : ∃ H', FnOk Try.prog 96 (DVs.av F [.flt .f32 v330]) F.H0 ((impl_IsFinite_enc v330 y).1.av F) H' ∧ St F (impl_IsFinite_enc v330 y).2 H' ∧ (impl_IsFinite_enc v330 y).1.Ok F (impl_IsFinite_enc v330 y).2 :=
  fn_fin tok impl_IsFinite_hO mixed Try.func96 Try.call96 (by kernel_rfl) (LoopsOk_eq (l := []) (by kernel_rfl) trivial) (impl_IsFinite_den v330) hy hm h0 hA
def impl_IsFinite_v (v330 : Nat) : Bool :=
  (impl_isFinite64_v (wid v330))
theorem impl_IsFinite_tot (v330 : Nat) : impl_IsFinite_g v330 = some (impl_IsFinite_v v330) := by
  unfold impl_IsFinite_g impl_IsFinite_T impl_IsFinite_v
  simp only [Tree.run]
  repeat' (first | rfl | split)
noncomputable def impl_IsFinite_F : DFn := fun args L =>
  match args with
  | [.flt .f32 v330] =>
    .leaf (.bool (impl_IsFinite_v v330), L)
  | _ => .fail
theorem impl_IsFinite_Fok : COk Try.prog 96 impl_IsFinite_F true := by
  intro F L H args r L' hs ha hr
  unfold impl_IsFinite_F at hr
  split at hr
  · rename_i v330
    have hy := impl_IsFinite_tot v330
    generalize impl_IsFinite_v v330 = y at hy hr
    simp only [Tree.run, Option.some.injEq, Prod.mk.injEq] at hr
    obtain ⟨rfl, rfl⟩ := hr
    exact call_ok0 hs (fun k => (([] : List AV)[k]?).getD .top) [.flt .f32 v330] [.flt .f32 v330] (fun F' h0 hi hρ => ⟨by simp [DVs.av, DV.av, BR.av, hρ], impl_IsFinite_fn v330 F' (by rw [hi]; rfl) (st_nil hi) ⟨trivial, trivial⟩ hy⟩) rfl
  · cases hr
/-! impl.areFinite$1 -/
noncomputable def impl_areFinite_1_LO (v329 : Nat) : LOr := fun id e L =>
  match id with
  | _ => .fail
noncomputable def impl_areFinite_1_tab : List (FuncId × DFn × Bool) := [(96, impl_IsFinite_F, true)]
theorem impl_areFinite_1_hO : OrcOk Try.prog (tabD impl_areFinite_1_tab) (tabM impl_areFinite_1_tab) := tabD_cons impl_IsFinite_Fok (tabD_nil _)
noncomputable def impl_areFinite_1_T (v329 : Nat) : Tree (Bool) :=
  .leaf (!(impl_IsFinite_v v329))

noncomputable def impl_areFinite_1_g (v329 : Nat) : Option (Bool) := (impl_areFinite_1_T v329).run
def impl_areFinite_1_enc (v329 : Nat) (y : Bool) : Rs := (.bool y, [])
theorem impl_areFinite_1_den (v329 : Nat) : (den TT (tabD impl_areFinite_1_tab) (tabM impl_areFinite_1_tab) (impl_areFinite_1_LO v329) (codeOf Try.f138) ([.flt .f32 v329] ++ List.replicate (Try.f138.ntmps - ([.flt .f32 v329] : List DV).length) .undef) []).bind (retD TT Try.f138.results.toList 0) = (impl_areFinite_1_T v329).bind fun y => .leaf (impl_areFinite_1_enc v329 y) := by kernel_rfl
theorem impl_areFinite_1_fn (v329 : Nat) (F : Fr) (hm : F.ids.length = 0) (h0 : St F [] F.H0) (hA : DVs.Ok F [] [.flt .f32 v329]) {y : Bool} (hy : impl_areFinite_1_g v329 = some y) : ∃ H', FnOk Try.prog 138 (DVs.av F [.flt .f32 v329]) F.H0 ((impl_areFinite_1_enc v329 y).1.av F) H' ∧ St F (impl_areFinite_1_enc v329 y).2 H' ∧ (impl_areFinite_1_enc v329 y).1.Ok F (impl_areFinite_1_enc v329 y).2 :=
  fn_fin tok impl_areFinite_1_hO mixed Try.func138 Try.call138 (by kernel_rfl) (LoopsOk_eq (l := []) (by kernel_rfl) trivial) (impl_areFinite_1_den v329) hy hm h0 hA
def impl_areFinite_1_v (v329 : Nat) : Bool :=
  !(impl_IsFinite_v v329)
theorem impl_areFinite_1_tot (v329 : Nat) : impl_areFinite_1_g v329 = some (impl_areFinite_1_v v329) := by
  unfold impl_areFinite_1_g impl_areFinite_1_T impl_areFinite_1_v
  simp only [Tree.run]
  repeat' (first | rfl | split)
noncomputable def impl_areFinite_1_F : DFn := fun args L =>
  match args with
  | [.flt .f32 v329] =>
    .leaf (.bool (impl_areFinite_1_v v329), L)
  | _ => .fail
theorem impl_areFinite_1_Fok : COk Try.prog 138 impl_areFinite_1_F true := by
  intro F L H args r L' hs ha hr
  unfold impl_areFinite_1_F at hr
  split at hr
  · rename_i v329
    have hy := impl_areFinite_1_tot v329
    generalize impl_areFinite_1_v v329 = y at hy hr
    simp only [Tree.run, Option.some.injEq, Prod.mk.injEq] at hr
    obtain ⟨rfl, rfl⟩ := hr
    exact call_ok0 hs (fun k => (([] : List AV)[k]?).getD .top) [.flt .f32 v329] [.flt .f32 v329] (fun F' h0 hi hρ => ⟨by simp [DVs.av, DV.av, BR.av, hρ], impl_areFinite_1_fn v329 F' (by rw [hi]; rfl) (st_nil hi) ⟨trivial, trivial⟩ hy⟩) rfl
  · cases hr
/-! slices.IndexFunc[list of float32,float32] -/
noncomputable def slices_IndexFuncF_l0_T (v327 : List Nat) (s : Int) : Tree ((Int) ⊕ ((Int) ⊕ (Unit))) :=
  (.br (decide (s < ((v327.length : Nat) : Int))) (
   (.grd (inb s v327.length) <|
   (.br (impl_areFinite_1_v (nth v327 (Int.toNat s))) (
    .leaf (.inr (.inl s))
   ) (
    .leaf (.inl (IntKind.i64.wrap (s + (1 : Int))))
   )))
  ) (
   .leaf (.inr (.inr ()))
  ))

noncomputable def slices_IndexFuncF_l0_g (v327 : List Nat) (s0 : Int) : Option ((Int) ⊕ (Unit)) := whileM (fun s => (slices_IndexFuncF_l0_T v327 s).run) s0
def slices_IndexFuncF_l0_E (v327 : List Nat) (s : Int) : Sd := ([.bslc (BR.root 0) (.f32 v327), .fn 138 [], .top, .top, .top, .top, .top, .int .i64 ((v327.length : Nat) : Int), .int .i64 s, .top, .top, .top, .top, .top, .top, .top, .top, .top, .top], [])
def slices_IndexFuncF_l0_X (v327 : List Nat) (x : (Int) ⊕ (Unit)) : Out := (match x with | .inl x => (.ret, [.top, .top, .top, .top, .int .i64 x, .top, .top, .top, .top, .top, .top, .top, .top, .top, .top, .top, .top, .top, .top], []) | .inr x => (.normal, [.top, .top, .top, .top, .top, .top, .top, .top, .top, .top, .top, .top, .top, .top, .top, .top, .top, .top, .top], []))
def slices_IndexFuncF_l0_kill : List Nat := [0, 0, 1, 1, 1, 1, 1, 0, 0, 1, 1, 1, 1, 1, 1, 1, 1, 1, 1]
def slices_IndexFuncF_l0_nx : Exit → List Nat
  | .exit 0 => [1, 1, 1, 1, 1, 1, 1, 1, 1, 1, 1, 1, 1, 1, 1, 1, 1, 1, 1]
  | .ret => [1, 1, 1, 1, 0, 1, 1, 1, 1, 1, 1, 1, 1, 1, 1, 1, 1, 1, 1]
  | _ => []
noncomputable def slices_IndexFuncF_LO (v327 : List Nat) : LOr := fun id e L =>
  match id with
  | 0 => .need (normA 0 slices_IndexFuncF_l0_kill e L = some (slices_IndexFuncF_l0_E v327 (gI (vAt e 8)))) (.call (slices_IndexFuncF_l0_g v327 (gI (vAt e 8))) fun x => .sum x (fun b0 => .leaf (slices_IndexFuncF_l0_X v327 (.inl b0))) (fun c0 => .leaf (slices_IndexFuncF_l0_X v327 (.inr c0))))
  | _ => .fail
noncomputable def slices_IndexFuncF_tab : List (FuncId × DFn × Bool) := [(138, impl_areFinite_1_F, true)]
theorem slices_IndexFuncF_hO : OrcOk Try.prog (tabD slices_IndexFuncF_tab) (tabM slices_IndexFuncF_tab) := tabD_cons impl_areFinite_1_Fok (tabD_nil _)
theorem slices_IndexFuncF_l0_be (v327 : List Nat) (s : Int) : bodyT TT (tabD slices_IndexFuncF_tab) (tabM slices_IndexFuncF_tab) (slices_IndexFuncF_LO v327) 0 slices_IndexFuncF_l0_kill slices_IndexFuncF_l0_nx (bodyOf Try.f168 0) 0 (slices_IndexFuncF_l0_E v327 s) = (slices_IndexFuncF_l0_T v327 s).bind fun y => .leaf (outS (slices_IndexFuncF_l0_E v327) (slices_IndexFuncF_l0_X v327) y) := by kernel_rfl
theorem slices_IndexFuncF_l0_ok (v327 : List Nat) : LSound Try.prog 0 (slices_IndexFuncF_LO v327) 0 (bodyOf Try.f168 0) := by
  intro e L out h
  exact lo_ok (E := slices_IndexFuncF_l0_E v327) (gT := slices_IndexFuncF_l0_T v327) (X := slices_IndexFuncF_l0_X v327) (s0 := (gI (vAt e 8))) tok slices_IndexFuncF_hO mixed (LoopsOk_eq (l := []) (by kernel_rfl) trivial) (slices_IndexFuncF_l0_be v327) rfl (by intro x; (cases x with | inl b => rfl | inr x => exact rfl)) h
noncomputable def slices_IndexFuncF_T (v327 : List Nat) : Tree (Int) :=
  (.need (some (slices_IndexFuncF_l0_E v327 (0 : Int)) = some (slices_IndexFuncF_l0_E v327 (0 : Int))) <|
  (.call (slices_IndexFuncF_l0_g v327 (0 : Int)) fun v337 =>
  (.sum v337 (fun v338 =>
   .leaf v338
  ) (fun v339 =>
   .leaf (-1 : Int)
  ))))

noncomputable def slices_IndexFuncF_g (v327 : List Nat) : Option (Int) := (slices_IndexFuncF_T v327).run
def slices_IndexFuncF_enc (v327 : List Nat) (y : Int) : Rs := (.int .i64 y, [])
theorem slices_IndexFuncF_den (v327 : List Nat) : (den TT (tabD slices_IndexFuncF_tab) (tabM slices_IndexFuncF_tab) (slices_IndexFuncF_LO v327) (codeOf Try.f168) ([.bslc (BR.root 0) (.f32 v327), .fn 138 []] ++ List.replicate (Try.f168.ntmps - ([.bslc (BR.root 0) (.f32 v327), .fn 138 []] : List DV).length) .undef) []).bind (retD TT Try.f168.results.toList 0) = (slices_IndexFuncF_T v327).bind fun y => .leaf (slices_IndexFuncF_enc v327 y) := by kernel_rfl
theorem slices_IndexFuncF_fn (v327 : List Nat) (F : Fr) (hm : F.ids.length = 0) (h0 : St F [] F.H0) (hA : DVs.Ok F [] [.bslc (BR.root 0) (.f32 v327), .fn 138 []]) {y : Int} (hy : slices_IndexFuncF_g v327 = some y) : ∃ H', FnOk Try.prog 168 (DVs.av F [.bslc (BR.root 0) (.f32 v327), .fn 138 []]) F.H0 ((slices_IndexFuncF_enc v327 y).1.av F) H' ∧ St F (slices_IndexFuncF_enc v327 y).2 H' ∧ (slices_IndexFuncF_enc v327 y).1.Ok F (slices_IndexFuncF_enc v327 y).2 :=
  fn_fin tok slices_IndexFuncF_hO mixed Try.func168 Try.call168 (by kernel_rfl) (LoopsOk_eq (l := [(0, bodyOf Try.f168 0)]) (by kernel_rfl) ⟨slices_IndexFuncF_l0_ok v327, trivial⟩) (slices_IndexFuncF_den v327) hy hm h0 hA
noncomputable def slices_IndexFuncF_F : DFn := fun args L =>
  match args with
  | [a1, .fn 138 []] =>
    optT (rowF32 L a1) fun v327 =>
    .call (slices_IndexFuncF_g v327) fun y => .leaf (.int .i64 y, L)
  | _ => .fail
theorem slices_IndexFuncF_Fok : COk Try.prog 168 slices_IndexFuncF_F true := by
  intro F L H args r L' hs ha hr
  unfold slices_IndexFuncF_F at hr
  split at hr
  · rename_i a1
    obtain ⟨v327, hv327, hr⟩ := optT_run hr
    simp only [Tree.run] at hr
    obtain ⟨y, hy, hr⟩ := Option.bind_eq_some_iff.1 hr
    simp only [Tree.run, Option.some.injEq, Prod.mk.injEq] at hr
    obtain ⟨rfl, rfl⟩ := hr
    exact call_ok0 hs (fun k => (([a1.av F] : List AV)[k]?).getD .top) [a1, .fn 138 []] [.bslc (BR.root 0) (.f32 v327), .fn 138 []] (fun F' h0 hi hρ => ⟨by simp [DVs.av, DV.av, BR.av, hρ], slices_IndexFuncF_fn v327 F' (by rw [hi]; rfl) (st_nil hi) ⟨bslc_ok hi (by rw [h0, hρ]; exact rowF32_ok hs (DVs.okAt ha 0 rfl) hv327), trivial, trivial⟩ hy⟩) rfl
  · cases hr
/-! slices.ContainsFunc[list of float32,float32] -/
noncomputable def slices_ContainsFuncF_LO (v326 : List Nat) : LOr := fun id e L =>
  match id with
  | _ => .fail
noncomputable def slices_ContainsFuncF_tab : List (FuncId × DFn × Bool) := [(168, slices_IndexFuncF_F, true)]
theorem slices_ContainsFuncF_hO : OrcOk Try.prog (tabD slices_ContainsFuncF_tab) (tabM slices_ContainsFuncF_tab) := tabD_cons slices_IndexFuncF_Fok (tabD_nil _)
noncomputable def slices_ContainsFuncF_T (v326 : List Nat) : Tree (Bool) :=
  (.call (slices_IndexFuncF_g v326) fun v340 =>
  .leaf (decide ((0 : Int) ≤ v340)))

noncomputable def slices_ContainsFuncF_g (v326 : List Nat) : Option (Bool) := (slices_ContainsFuncF_T v326).run
def slices_ContainsFuncF_enc (v326 : List Nat) (y : Bool) : Rs := (.bool y, [])
theorem slices_ContainsFuncF_den (v326 : List Nat) : (den TT (tabD slices_ContainsFuncF_tab) (tabM slices_ContainsFuncF_tab) (slices_ContainsFuncF_LO v326) (codeOf Try.f137) ([.bslc (BR.root 0) (.f32 v326), .fn 138 []] ++ List.replicate (Try.f137.ntmps - ([.bslc (BR.root 0) (.f32 v326), .fn 138 []] : List DV).length) .undef) []).bind (retD TT Try.f137.results.toList 0) = (slices_ContainsFuncF_T v326).bind fun y => .leaf (slices_ContainsFuncF_enc v326 y) := by kernel_rfl
theorem slices_ContainsFuncF_fn (v326 : List Nat) (F : Fr) (hm : F.ids.length = 0) (h0 : St F [] F.H0) (hA : DVs.Ok F [] [.bslc (BR.root 0) (.f32 v326), .fn 138 []]) {y : Bool} (hy : slices_ContainsFuncF_g v326 = some y) : ∃ H', FnOk Try.prog 137 (DVs.av F [.bslc (BR.root 0) (.f32 v326), .fn 138 []]) F.H0 ((slices_ContainsFuncF_enc v326 y).1.av F) H' ∧ St F (slices_ContainsFuncF_enc v326 y).2 H' ∧ (slices_ContainsFuncF_enc v326 y).1.Ok F (slices_ContainsFuncF_enc v326 y).2 :=
  fn_fin tok slices_ContainsFuncF_hO mixed Try.func137 Try.call137 (by kernel_rfl) (LoopsOk_eq (l := []) (by kernel_rfl) trivial) (slices_ContainsFuncF_den v326) hy hm h0 hA
noncomputable def slices_ContainsFuncF_F : DFn := fun args L =>
  match args with
  | [a1, .fn 138 []] =>
    optT (rowF32 L a1) fun v326 =>
    .call (slices_ContainsFuncF_g v326) fun y => .leaf (.bool y, L)
  | _ => .fail
theorem slices_ContainsFuncF_Fok : COk Try.prog 137 slices_ContainsFuncF_F true := by
  intro F L H args r L' hs ha hr
  unfold slices_ContainsFuncF_F at hr
  split at hr
  · rename_i a1
    obtain ⟨v326, hv326, hr⟩ := optT_run hr
    simp only [Tree.run] at hr
    obtain ⟨y, hy, hr⟩ := Option.bind_eq_some_iff.1 hr
    simp only [Tree.run, Option.some.injEq, Prod.mk.injEq] at hr
    obtain ⟨rfl, rfl⟩ := hr
    exact call_ok0 hs (fun k => (([a1.av F] : List AV)[k]?).getD .top) [a1, .fn 138 []] [.bslc (BR.root 0) (.f32 v326), .fn 138 []] (fun F' h0 hi hρ => ⟨by simp [DVs.av, DV.av, BR.av, hρ], slices_ContainsFuncF_fn v326 F' (by rw [hi]; rfl) (st_nil hi) ⟨bslc_ok hi (by rw [h0, hρ]; exact rowF32_ok hs (DVs.okAt ha 0 rfl) hv326), trivial, trivial⟩ hy⟩) rfl
  · cases hr
/-! impl.areFinite -/
noncomputable def impl_areFinite_LO (v325 : List Nat) : LOr := fun id e L =>
  match id with
  | _ => .fail
noncomputable def impl_areFinite_tab : List (FuncId × DFn × Bool) := [(137, slices_ContainsFuncF_F, true)]
theorem impl_areFinite_hO : OrcOk Try.prog (tabD impl_areFinite_tab) (tabM impl_areFinite_tab) := tabD_cons slices_ContainsFuncF_Fok (tabD_nil _)
noncomputable def impl_areFinite_T (v325 : List Nat) : Tree (Bool) :=
  (.call (slices_ContainsFuncF_g v325) fun v341 =>
  .leaf (!v341))

noncomputable def impl_areFinite_g (v325 : List Nat) : Option (Bool) := (impl_areFinite_T v325).run
def impl_areFinite_enc (v325 : List Nat) (y : Bool) : Rs := (.bool y, [])
theorem impl_areFinite_den (v325 : List Nat) : (den TT (tabD impl_areFinite_tab) (tabM impl_areFinite_tab) (impl_areFinite_LO v325) (codeOf Try.f68) ([.bslc (BR.root 0) (.f32 v325)] ++ List.replicate (Try.f68.ntmps - ([.bslc (BR.root 0) (.f32 v325)] : List DV).length) .undef) []).bind (retD TT Try.f68.results.toList 0) = (impl_areFinite_T v325).bind fun y => .leaf (impl_areFinite_enc v325 y) := by kernel_rfl
theorem impl_areFinite_fn (v325 : List Nat) (F : Fr) (hm : F.ids.length = 0) (h0 : St F [] F.H0) (hA : DVs.Ok F [] [.bslc (BR.root 0) (.f32 v325)]) {y : Bool} (hy : impl_areFinite_g v325 = some y) : ∃ H', FnOk Try.prog 68 (DVs.av F [.bslc (BR.root 0) (.f32 v325)]) F.H0 ((impl_areFinite_enc v325 y).1.av F) H' ∧ St F (impl_areFinite_enc v325 y).2 H' ∧ (impl_areFinite_enc v325 y).1.Ok F (impl_areFinite_enc v325 y).2 :=
  fn_fin tok impl_areFinite_hO mixed Try.func68 Try.call68 (by kernel_rfl) (LoopsOk_eq (l := []) (by kernel_rfl) trivial) (impl_areFinite_den v325) hy hm h0 hA
noncomputable def impl_areFinite_F : DFn := fun args L =>
  match args with
  | [a1] =>
    optT (rowF32 L a1) fun v325 =>
    .call (impl_areFinite_g v325) fun y => .leaf (.bool y, L)
  | _ => .fail
theorem impl_areFinite_Fok : COk Try.prog 68 impl_areFinite_F true := by
  intro F L H args r L' hs ha hr
  unfold impl_areFinite_F at hr
  split at hr
  · rename_i a1
    obtain ⟨v325, hv325, hr⟩ := optT_run hr
    simp only [Tree.run] at hr
    obtain ⟨y, hy, hr⟩ := Option.bind_eq_some_iff.1 hr
    simp only [Tree.run, Option.some.injEq, Prod.mk.injEq] at hr
    obtain ⟨rfl, rfl⟩ := hr
    exact call_ok0 hs (fun k => (([a1.av F] : List AV)[k]?).getD .top) [a1] [.bslc (BR.root 0) (.f32 v325)] (fun F' h0 hi hρ => ⟨by simp [DVs.av, DV.av, BR.av, hρ], impl_areFinite_fn v325 F' (by rw [hi]; rfl) (st_nil hi) ⟨bslc_ok hi (by rw [h0, hρ]; exact rowF32_ok hs (DVs.okAt ha 0 rfl) hv325), trivial⟩ hy⟩) rfl
  · cases hr
/-! impl.ValidMatrix -/
noncomputable def impl_ValidMatrix_LO (v317 : Int) (v318 : Int) (v319 : List Nat) : LOr := fun id e L =>
  match id with
  | _ => .fail
noncomputable def impl_ValidMatrix_tab : List (FuncId × DFn × Bool) := [(77, impl_isSide_F, true), (112, impl_lengthF_F, true), (68, impl_areFinite_F, true)]
theorem impl_ValidMatrix_hO : OrcOk Try.prog (tabD impl_ValidMatrix_tab) (tabM impl_ValidMatrix_tab) := tabD_cons impl_isSide_Fok (tabD_cons impl_lengthF_Fok (tabD_cons impl_areFinite_Fok (tabD_nil _)))
noncomputable def impl_ValidMatrix_T (v317 : Int) (v318 : Int) (v319 : List Nat) : Tree (Bool) :=
  (.br (impl_isSide_v v317) (
   (.br (impl_isSide_v v318) (
    (.br (decide ((impl_lengthF_v v319) = IntKind.i64.wrap (v317 * v318))) (
     (.call (impl_areFinite_g v319) fun v342 =>
     .leaf v342)
    ) (
     .leaf false
    ))
   ) (
    .leaf false
   ))
  ) (
   .leaf false
  ))

noncomputable def impl_ValidMatrix_g (v317 : Int) (v318 : Int) (v319 : List Nat) : Option (Bool) := (impl_ValidMatrix_T v317 v318 v319).run
def impl_ValidMatrix_enc (v317 : Int) (v318 : Int) (v319 : List Nat) (y : Bool) : Rs := (.bool y, [])
theorem impl_ValidMatrix_den (v317 : Int) (v318 : Int) (v319 : List Nat) : (den TT (tabD impl_ValidMatrix_tab) (tabM impl_ValidMatrix_tab) (impl_ValidMatrix_LO v317 v318 v319) (codeOf Try.f67) ([.agg [.int .i64 v317, .int .i64 v318, .bslc (BR.root 0) (.f32 v319)]] ++ List.replicate (Try.f67.ntmps - ([.agg [.int .i64 v317, .int .i64 v318, .bslc (BR.root 0) (.f32 v319)]] : List DV).length) .undef) []).bind (retD TT Try.f67.results.toList 0) = (impl_ValidMatrix_T v317 v318 v319).bind fun y => .leaf (impl_ValidMatrix_enc v317 v318 v319 y) := by kernel_rfl
theorem impl_ValidMatrix_fn (v317 : Int) (v318 : Int) (v319 : List Nat) (F : Fr) (hm : F.ids.length = 0) (h0 : St F [] F.H0) (hA : DVs.Ok F [] [.agg [.int .i64 v317, .int .i64 v318, .bslc (BR.root 0) (.f32 v319)]]) {y : Bool} (hy : impl_ValidMatrix_g v317 v318 v319 = some y) : ∃ H', FnOk Try.prog 67 (DVs.av F [.agg [.int .i64 v317, .int .i64 v318, .bslc (BR.root 0) (.f32 v319)]]) F.H0 ((impl_ValidMatrix_enc v317 v318 v319 y).1.av F) H' ∧ St F (impl_ValidMatrix_enc v317 v318 v319 y).2 H' ∧ (impl_ValidMatrix_enc v317 v318 v319 y).1.Ok F (impl_ValidMatrix_enc v317 v318 v319 y).2 :=
  fn_fin tok impl_ValidMatrix_hO mixed Try.func67 Try.call67 (by kernel_rfl) (LoopsOk_eq (l := []) (by kernel_rfl) trivial) (impl_ValidMatrix_den v317 v318 v319) hy hm h0 hA
noncomputable def impl_ValidMatrix_F : DFn := fun args L =>
  match args with
  | [.agg [.int .i64 v317, .int .i64 v318, a1]] =>
    optT (rowF32 L a1) fun v319 =>
    .call (impl_ValidMatrix_g v317 v318 v319) fun y => .leaf (.bool y, L)
  | _ => .fail
theorem impl_ValidMatrix_Fok : COk Try.prog 67 impl_ValidMatrix_F true := by
  intro F L H args r L' hs ha hr
  unfold impl_ValidMatrix_F at hr
  split at hr
  · rename_i v317 v318 a1
    obtain ⟨v319, hv319, hr⟩ := optT_run hr
    simp only [Tree.run] at hr
    obtain ⟨y, hy, hr⟩ := Option.bind_eq_some_iff.1 hr
    simp only [Tree.run, Option.some.injEq, Prod.mk.injEq] at hr
    obtain ⟨rfl, rfl⟩ := hr
    exact call_ok0 hs (fun k => (([a1.av F] : List AV)[k]?).getD .top) [.agg [.int .i64 v317, .int .i64 v318, a1]] [.agg [.int .i64 v317, .int .i64 v318, .bslc (BR.root 0) (.f32 v319)]] (fun F' h0 hi hρ => ⟨by simp [DVs.av, DV.av, BR.av, hρ], impl_ValidMatrix_fn v317 v318 v319 F' (by rw [hi]; rfl) (st_nil hi) ⟨⟨trivial, trivial, bslc_ok hi (by rw [h0, hρ]; exact rowF32_ok hs (DVs.okAt (DVs.okAt ha 0 rfl) 2 rfl) hv319), trivial⟩, trivial⟩ hy⟩) rfl
  · cases hr
/-! impl.isSquare -/
noncomputable def impl_isSquare_LO (v314 : Int) (v315 : Int) (v316 : List Nat) : LOr := fun id e L =>
  match id with
  | _ => .fail
noncomputable def impl_isSquare_tab : List (FuncId × DFn × Bool) := [(67, impl_ValidMatrix_F, true)]
theorem impl_isSquare_hO : OrcOk Try.prog (tabD impl_isSquare_tab) (tabM impl_isSquare_tab) := tabD_cons impl_ValidMatrix_Fok (tabD_nil _)
noncomputable def impl_isSquare_T (v314 : Int) (v315 : Int) (v316 : List Nat) : Tree (Bool) :=
  (.call (impl_ValidMatrix_g v314 v315 v316) fun v343 =>
  (.br v343 (
   .leaf (decide (v314 = v315))
  ) (
   .leaf false
  )))

noncomputable def impl_isSquare_g (v314 : Int) (v315 : Int) (v316 : List Nat) : Option (Bool) := (impl_isSquare_T v314 v315 v316).run
def impl_isSquare_enc (v314 : Int) (v315 : Int) (v316 : List Nat) (y : Bool) : Rs := (.bool y, [])
theorem impl_isSquare_den (v314 : Int) (v315 : Int) (v316 : List Nat) : (den TT (tabD impl_isSquare_tab) (tabM impl_isSquare_tab) (impl_isSquare_LO v314 v315 v316) (codeOf Try.f62) ([.agg [.int .i64 v314, .int .i64 v315, .bslc (BR.root 0) (.f32 v316)]] ++ List.replicate (Try.f62.ntmps - ([.agg [.int .i64 v314, .int .i64 v315, .bslc (BR.root 0) (.f32 v316)]] : List DV).length) .undef) []).bind (retD TT Try.f62.results.toList 0) = (impl_isSquare_T v314 v315 v316).bind fun y => .leaf (impl_isSquare_enc v314 v315 v316 y) := by kernel_rfl
theorem impl_isSquare_fn (v314 : Int) (v315 : Int) (v316 : List Nat) (F : Fr) (hm : F.ids.length = 0) (h0 : St F [] F.H0) (hA : DVs.Ok F [] [.agg [.int .i64 v314, .int .i64 v315, .bslc (BR.root 0) (.f32 v316)]]) {y : Bool} (hy : impl_isSquare_g v314 v315 v316 = some y) : ∃ H', FnOk Try.prog 62 (DVs.av F [.agg [.int .i64 v314, .int .i64 v315, .bslc (BR.root 0) (.f32 v316)]]) F.H0 ((impl_isSquare_enc v314 v315 v316 y).1.av F) H' ∧ St F (impl_isSquare_enc v314 v315 v316 y).2 H' ∧ (impl_isSquare_enc v314 v315 v316 y).1.Ok F (impl_isSquare_enc v314 v315 v316 y).2 :=
  fn_fin tok impl_isSquare_hO mixed Try.func62 Try.call62 (by kernel_rfl) (LoopsOk_eq (l := []) (by kernel_rfl) trivial) (impl_isSquare_den v314 v315 v316) hy hm h0 hA
noncomputable def impl_isSquare_F : DFn := fun args L =>
  match args with
  | [.agg [.int .i64 v314, .int .i64 v315, a1]] =>
    optT (rowF32 L a1) fun v316 =>
    .call (impl_isSquare_g v314 v315 v316) fun y => .leaf (.bool y, L)
  | _ => .fail
theorem impl_isSquare_Fok : COk Try.prog 62 impl_isSquare_F true := by
  intro F L H args r L' hs ha hr
  unfold impl_isSquare_F at hr
  split at hr
  · rename_i v314 v315 a1
    obtain ⟨v316, hv316, hr⟩ := optT_run hr
    simp only [Tree.run] at hr
    obtain ⟨y, hy, hr⟩ := Option.bind_eq_some_iff.1 hr
    simp only [Tree.run, Option.some.injEq, Prod.mk.injEq] at hr
    obtain ⟨rfl, rfl⟩ := hr
    exact call_ok0 hs (fun k => (([a1.av F] : List AV)[k]?).getD .top) [.agg [.int .i64 v314, .int .i64 v315, a1]] [.agg [.int .i64 v314, .int .i64 v315, .bslc (BR.root 0) (.f32 v316)]] (fun F' h0 hi hρ => ⟨by simp [DVs.av, DV.av, BR.av, hρ], impl_isSquare_fn v314 v315 v316 F' (by rw [hi]; rfl) (st_nil hi) ⟨⟨trivial, trivial, bslc_ok hi (by rw [h0, hρ]; exact rowF32_ok hs (DVs.okAt (DVs.okAt ha 0 rfl) 2 rfl) hv316), trivial⟩, trivial⟩ hy⟩) rfl
  · cases hr
/-! impl.isRounds -/
noncomputable def impl_isRounds_LO (v345 : Int) : LOr := fun id e L =>
  match id with
  | _ => .fail
noncomputable def impl_isRounds_tab : List (FuncId × DFn × Bool) := [(73, impl_inRange_F, true)]
theorem impl_isRounds_hO : OrcOk Try.prog (tabD impl_isRounds_tab) (tabM impl_isRounds_tab) := tabD_cons impl_inRange_Fok (tabD_nil _)
noncomputable def impl_isRounds_T (v345 : Int) : Tree (Bool) :=
  .leaf (impl_inRange_v v345 (0 : Int) (64 : Int))

noncomputable def impl_isRounds_g (v345 : Int) : Option (Bool) := (impl_isRounds_T v345).run
def impl_isRounds_enc (v345 : Int) (y : Bool) : Rs := (.bool y, [])
theorem impl_isRounds_den (v345 : Int) : (den TT (tabD impl_isRounds_tab) (tabM impl_isRounds_tab) (impl_isRounds_LO v345) (codeOf Try.f125) ([.int .i64 v345] ++ List.replicate (Try.f125.ntmps - ([.int .i64 v345] : List DV).length) .undef) []).bind (retD TT Try.f125.results.toList 0) = (impl_isRounds_T v345).bind fun y => .leaf (impl_isRounds_enc v345 y) := by kernel_rfl
theorem impl_isRounds_fn (v345 : Int) (F : Fr) (hm : F.ids.length = 0) (h0 : St F [] F.H0) (hA : DVs.Ok F [] [.int .i64 v345]) {y : Bool} (hy : impl_isRounds_g v345 = some y) : ∃ H', FnOk Try.prog 125 (DVs.av F [.int .i64 v345]) F.H0 ((impl_isRounds_enc v345 y).1.av F) H' ∧ St F (impl_isRounds_enc v345 y).2 H' ∧ (impl_isRounds_enc v345 y).1.Ok F (impl_isRounds_enc v345 y).2 :=
  fn_fin tok impl_isRounds_hO mixed Try.func125 Try.call125 (by kernel_rfl) (LoopsOk_eq (l := []) (by kernel_rfl) trivial) (impl_isRounds_den v345) hy hm h0 hA
def impl_isRounds_v (v345 : Int) : Bool :=
  (impl_inRange_v v345 (0 : Int) (64 : Int))
theorem impl_isRounds_tot (v345 : Int) : impl_isRounds_g v345 = some (impl_isRounds_v v345) := by
  unfold impl_isRounds_g impl_isRounds_T impl_isRounds_v
  simp only [Tree.run]
  repeat' (first | rfl | split)
noncomputable def impl_isRounds_F : DFn := fun args L =>
  match args with
  | [.int .i64 v345] =>
    .leaf (.bool (impl_isRounds_v v345), L)
  | _ => .fail
theorem impl_isRounds_Fok : COk Try.prog 125 impl_isRounds_F true := by
  intro F L H args r L' hs ha hr
  unfold impl_isRounds_F at hr
  split at hr
  · rename_i v345
    have hy := impl_isRounds_tot v345
    generalize impl_isRounds_v v345 = y at hy hr
    simp only [Tree.run, Option.some.injEq, Prod.mk.injEq] at hr
    obtain ⟨rfl, rfl⟩ := hr
    exact call_ok0 hs (fun k => (([] : List AV)[k]?).getD .top) [.int .i64 v345] [.int .i64 v345] (fun F' h0 hi hρ => ⟨by simp [DVs.av, DV.av, BR.av, hρ], impl_isRounds_fn v345 F' (by rw [hi]; rfl) (st_nil hi) ⟨trivial, trivial⟩ hy⟩) rfl
  · cases hr
/-! impl.mul -/
noncomputable def impl_mul_LO (v355 : Nat) (v356 : Nat) : LOr := fun id e L =>
  match id with
  | _ => .fail
noncomputable def impl_mul_tab : List (FuncId × DFn × Bool) := []
theorem impl_mul_hO : OrcOk Try.prog (tabD impl_mul_tab) (tabM impl_mul_tab) := tabD_nil _
noncomputable def impl_mul_T (v355 : Nat) (v356 : Nat) : Tree (Nat) :=
  .leaf (fmul .f32 v355 v356)

noncomputable def impl_mul_g (v355 : Nat) (v356 : Nat) : Option (Nat) := (impl_mul_T v355 v356).run
def impl_mul_enc (v355 : Nat) (v356 : Nat) (y : Nat) : Rs := (.flt .f32 y, [])
theorem impl_mul_den (v355 : Nat) (v356 : Nat) : (den TT (tabD impl_mul_tab) (tabM impl_mul_tab) (impl_mul_LO v355 v356) (codeOf Try.f65) ([.flt .f32 v355, .flt .f32 v356] ++ List.replicate (Try.f65.ntmps - ([.flt .f32 v355, .flt .f32 v356] : List DV).length) .undef) []).bind (retD TT Try.f65.results.toList 0) = (impl_mul_T v355 v356).bind fun y => .leaf (impl_mul_enc v355 v356 y) := by kernel_rfl
theorem impl_mul_fn (v355 : Nat) (v356 : Nat) (F : Fr) (hm : F.ids.length = 0) (h0 : St F [] F.H0) (hA : DVs.Ok F [] [.flt .f32 v355, .flt .f32 v356]) {y : Nat} (hy : impl_mul_g v355 v356 = some y) : ∃ H', FnOk Try.prog 65 (DVs.av F [.flt .f32 v355, .flt .f32 v356]) F.H0 ((impl_mul_enc v355 v356 y).1.av F) H' ∧ St F (impl_mul_enc v355 v356 y).2 H' ∧ (impl_mul_enc v355 v356 y).1.Ok F (impl_mul_enc v355 v356 y).2 :=
  fn_fin tok impl_mul_hO mixed Try.func65 Try.call65 (by kernel_rfl) (LoopsOk_eq (l := []) (by kernel_rfl) trivial) (impl_mul_den v355 v356) hy hm h0 hA
def impl_mul_v (v355 : Nat) (v356 : Nat) : Nat :=
  fmul .f32 v355 v356
theorem impl_mul_tot (v355 : Nat) (v356 : Nat) : impl_mul_g v355 v356 = some (impl_mul_v v355 v356) := by
  unfold impl_mul_g impl_mul_T impl_mul_v
  simp only [Tree.run]
  repeat' (first | rfl | split)
noncomputable def impl_mul_F : DFn := fun args L =>
  match args with
  | [.flt .f32 v355, .flt .f32 v356] =>
    .leaf (.flt .f32 (impl_mul_v v355 v356), L)
  | _ => .fail
theorem impl_mul_Fok : COk Try.prog 65 impl_mul_F true := by
  intro F L H args r L' hs ha hr
  unfold impl_mul_F at hr
  split at hr
  · rename_i v355 v356
    have hy := impl_mul_tot v355 v356
    generalize impl_mul_v v355 v356 = y at hy hr
    simp only [Tree.run, Option.some.injEq, Prod.mk.injEq] at hr
    obtain ⟨rfl, rfl⟩ := hr
    exact call_ok0 hs (fun k => (([] : List AV)[k]?).getD .top) [.flt .f32 v355, .flt .f32 v356] [.flt .f32 v355, .flt .f32 v356] (fun F' h0 hi hρ => ⟨by simp [DVs.av, DV.av, BR.av, hρ], impl_mul_fn v355 v356 F' (by rw [hi]; rfl) (st_nil hi) ⟨trivial, trivial, trivial⟩ hy⟩) rfl
  · cases hr
/-! impl.dot -/
noncomputable def impl_dot_l0_T (v351 : List Nat) (v352 : List Nat) (s : Nat × Int) : Tree ((Nat × Int) ⊕ (Nat)) :=
  (.br (decide (s.2 < ((v351.length : Nat) : Int))) (
   (.grd (inb s.2 v351.length) <|
   (.grd (inb s.2 v352.length) <|
   .leaf (.inl (fadd .f32 s.1 (impl_mul_v (nth v351 (Int.toNat s.2)) (nth v352 (Int.toNat s.2))), IntKind.i64.wrap (s.2 + (1 : Int))))))
  ) (
   .leaf (.inr s.1)
  ))

noncomputable def impl_dot_l0_g (v351 : List Nat) (v352 : List Nat) (s0 : Nat × Int) : Option (Nat) := whileM (fun s => (impl_dot_l0_T v351 v352 s).run) s0
def impl_dot_l0_E (v351 : List Nat) (v352 : List Nat) (s : Nat × Int) : Sd := ([.top, .bslc (BR.root 1) (.f32 v352), .top, .top, .top, .flt .f32 s.1, .top, .top, .bslc (BR.root 0) (.f32 v351), .int .i64 ((v351.length : Nat) : Int), .int .i64 s.2, .top, .top, .top, .top, .top, .top, .top, .top, .top, .top, .top, .top, .top, .top], [])
def impl_dot_l0_X (v351 : List Nat) (v352 : List Nat) (x : Nat) : Out := (.normal, [.top, .top, .top, .top, .top, .flt .f32 x, .top, .top, .top, .top, .top, .top, .top, .top, .top, .top, .top, .top, .top, .top, .top, .top, .top, .top, .top], [])
def impl_dot_l0_kill : List Nat := [1, 0, 1, 1, 1, 0, 1, 1, 0, 0, 0, 1, 1, 1, 1, 1, 1, 1, 1, 1, 1, 1, 1, 1, 1]
def impl_dot_l0_nx : Exit → List Nat
  | .exit 0 => [1, 1, 1, 1, 1, 0, 1, 1, 1, 1, 1, 1, 1, 1, 1, 1, 1, 1, 1, 1, 1, 1, 1, 1, 1]
  | .ret => [1, 1, 1, 1, 0, 1, 1, 1, 1, 1, 1, 1, 1, 1, 1, 1, 1, 1, 1, 1, 1, 1, 1, 1, 1]
  | _ => []
noncomputable def impl_dot_LO (v351 : List Nat) (v352 : List Nat) : LOr := fun id e L =>
  match id with
  | 0 => .need (normA 0 impl_dot_l0_kill e L = some (impl_dot_l0_E v351 v352 ((gF (vAt e 5)), (gI (vAt e 10))))) (.call (impl_dot_l0_g v351 v352 ((gF (vAt e 5)), (gI (vAt e 10)))) fun x => .leaf (impl_dot_l0_X v351 v352 x))
  | _ => .fail
noncomputable def impl_dot_tab : List (FuncId × DFn × Bool) := [(65, impl_mul_F, true)]
theorem impl_dot_hO : OrcOk Try.prog (tabD impl_dot_tab) (tabM impl_dot_tab) := tabD_cons impl_mul_Fok (tabD_nil _)
theorem impl_dot_l0_be (v351 : List Nat) (v352 : List Nat) (s : Nat × Int) : bodyT TT (tabD impl_dot_tab) (tabM impl_dot_tab) (impl_dot_LO v351 v352) 0 impl_dot_l0_kill impl_dot_l0_nx (bodyOf Try.f82 0) 0 (impl_dot_l0_E v351 v352 s) = (impl_dot_l0_T v351 v352 s).bind fun y => .leaf (outS (impl_dot_l0_E v351 v352) (impl_dot_l0_X v351 v352) y) := by kernel_rfl
theorem impl_dot_l0_ok (v351 : List Nat) (v352 : List Nat) : LSound Try.prog 0 (impl_dot_LO v351 v352) 0 (bodyOf Try.f82 0) := by
  intro e L out h
  exact lo_ok (E := impl_dot_l0_E v351 v352) (gT := impl_dot_l0_T v351 v352) (X := impl_dot_l0_X v351 v352) (s0 := ((gF (vAt e 5)), (gI (vAt e 10)))) tok impl_dot_hO mixed (LoopsOk_eq (l := []) (by kernel_rfl) trivial) (impl_dot_l0_be v351 v352) rfl (by intro x; rfl) h
noncomputable def impl_dot_T (v351 : List Nat) (v352 : List Nat) : Tree (Nat) :=
  (.need (some (impl_dot_l0_E v351 v352 ((0 : Nat), (0 : Int))) = some (impl_dot_l0_E v351 v352 ((0 : Nat), (0 : Int)))) <|
  (.call (impl_dot_l0_g v351 v352 ((0 : Nat), (0 : Int))) fun v361 =>
  .leaf v361))

noncomputable def impl_dot_g (v351 : List Nat) (v352 : List Nat) : Option (Nat) := (impl_dot_T v351 v352).run
def impl_dot_enc (v351 : List Nat) (v352 : List Nat) (y : Nat) : Rs := (.flt .f32 y, [])
theorem impl_dot_den (v351 : List Nat) (v352 : List Nat) : (den TT (tabD impl_dot_tab) (tabM impl_dot_tab) (impl_dot_LO v351 v352) (codeOf Try.f82) ([.bslc (BR.root 0) (.f32 v351), .bslc (BR.root 1) (.f32 v352)] ++ List.replicate (Try.f82.ntmps - ([.bslc (BR.root 0) (.f32 v351), .bslc (BR.root 1) (.f32 v352)] : List DV).length) .undef) []).bind (retD TT Try.f82.results.toList 0) = (impl_dot_T v351 v352).bind fun y => .leaf (impl_dot_enc v351 v352 y) := by kernel_rfl
theorem impl_dot_fn (v351 : List Nat) (v352 : List Nat) (F : Fr) (hm : F.ids.length = 0) (h0 : St F [] F.H0) (hA : DVs.Ok F [] [.bslc (BR.root 0) (.f32 v351), .bslc (BR.root 1) (.f32 v352)]) {y : Nat} (hy : impl_dot_g v351 v352 = some y) : ∃ H', FnOk Try.prog 82 (DVs.av F [.bslc (BR.root 0) (.f32 v351), .bslc (BR.root 1) (.f32 v352)]) F.H0 ((impl_dot_enc v351 v352 y).1.av F) H' ∧ St F (impl_dot_enc v351 v352 y).2 H' ∧ (impl_dot_enc v351 v352 y).1.Ok F (impl_dot_enc v351 v352 y).2 :=
  fn_fin tok impl_dot_hO mixed Try.func82 Try.call82 (by kernel_rfl) (LoopsOk_eq (l := [(0, bodyOf Try.f82 0)]) (by kernel_rfl) ⟨impl_dot_l0_ok v351 v352, trivial⟩) (impl_dot_den v351 v352) hy hm h0 hA
noncomputable def impl_dot_F : DFn := fun args L =>
  match args with
  | [a1, a2] =>
    optT (rowF32 L a1) fun v351 =>
    optT (rowF32 L a2) fun v352 =>
    .call (impl_dot_g v351 v352) fun y => .leaf (.flt .f32 y, L)
  | _ => .fail
theorem impl_dot_Fok : COk Try.prog 82 impl_dot_F true := by
  intro F L H args r L' hs ha hr
  unfold impl_dot_F at hr
  split at hr
  · rename_i a1 a2
    obtain ⟨v351, hv351, hr⟩ := optT_run hr
    obtain ⟨v352, hv352, hr⟩ := optT_run hr
    simp only [Tree.run] at hr
    obtain ⟨y, hy, hr⟩ := Option.bind_eq_some_iff.1 hr
    simp only [Tree.run, Option.some.injEq, Prod.mk.injEq] at hr
    obtain ⟨rfl, rfl⟩ := hr
    exact call_ok0 hs (fun k => (([a1.av F, a2.av F] : List AV)[k]?).getD .top) [a1, a2] [.bslc (BR.root 0) (.f32 v351), .bslc (BR.root 1) (.f32 v352)] (fun F' h0 hi hρ => ⟨by simp [DVs.av, DV.av, BR.av, hρ], impl_dot_fn v351 v352 F' (by rw [hi]; rfl) (st_nil hi) ⟨bslc_ok hi (by rw [h0, hρ]; exact rowF32_ok hs (DVs.okAt ha 0 rfl) hv351), bslc_ok hi (by rw [h0, hρ]; exact rowF32_ok hs (DVs.okAt ha 1 rfl) hv352), trivial⟩ hy⟩) rfl
  · cases hr
/-! impl.RootNumber -/
noncomputable def impl_RootNumber_LO (v363 : Nat) : LOr := fun id e L =>
  match id with
  | _ => .fail
noncomputable def impl_RootNumber_tab : List (FuncId × DFn × Bool) := [(157, math_Sqrt_F, true)]
theorem impl_RootNumber_hO : OrcOk Try.prog (tabD impl_RootNumber_tab) (tabM impl_RootNumber_tab) := tabD_cons math_Sqrt_Fok (tabD_nil _)
noncomputable def impl_RootNumber_T (v363 : Nat) : Tree (Nat) :=
  (.call (fconv .f64 (math_Sqrt_v (wid v363)) .f32) fun v364 =>
  .leaf v364)

noncomputable def impl_RootNumber_g (v363 : Nat) : Option (Nat) := (impl_RootNumber_T v363).run
def impl_RootNumber_enc (v363 : Nat) (y : Nat) : Rs := (.flt .f32 y, [])
theorem impl_RootNumber_den (v363 : Nat) : (den TT (tabD impl_RootNumber_tab) (tabM impl_RootNumber_tab) (impl_RootNumber_LO v363) (codeOf Try.f114) ([.flt .f32 v363] ++ List.replicate (Try.f114.ntmps - ([.flt .f32 v363] : List DV).length) .undef) []).bind (retD TT Try.f114.results.toList 0) = (impl_RootNumber_T v363).bind fun y => .leaf (impl_RootNumber_enc v363 y) := by kernel_rfl
theorem impl_RootNumber_fn (v363 : Nat) (F : Fr) (hm : F.ids.length = 0) (h0 : St F [] F.H0) (hA : DVs.Ok F [] [.flt .f32 v363]) {y : Nat} (hy : impl_RootNumber_g v363 = some y) : ∃ H', FnOk Try.prog 114 (DVs.av F [.flt .f32 v363]) F.H0 ((impl_RootNumber_enc v363 y).1.av F) H' ∧ St F (impl_RootNumber_enc v363 y).2 H' ∧ (impl_RootNumber_enc v363 y).1.Ok F (impl_RootNumber_enc v363 y).2 :=
  fn_fin tok impl_RootNumber_hO mixed Try.func114 Try.call114 (by kernel_rfl) (LoopsOk_eq (l := []) (by kernel_rfl) trivial) (impl_RootNumber_den v363) hy hm h0 hA
noncomputable def impl_RootNumber_F : DFn := fun args L =>
  match args with
  | [.flt .f32 v363] =>
    .call (impl_RootNumber_g v363) fun y => .leaf (.flt .f32 y, L)
  | _ => .fail
theorem impl_RootNumber_Fok : COk Try.prog 114 impl_RootNumber_F true := by
  intro F L H args r L' hs ha hr
  unfold impl_RootNumber_F at hr
  split at hr
  · rename_i v363
    simp only [Tree.run] at hr
    obtain ⟨y, hy, hr⟩ := Option.bind_eq_some_iff.1 hr
    simp only [Tree.run, Option.some.injEq, Prod.mk.injEq] at hr
    obtain ⟨rfl, rfl⟩ := hr
    exact call_ok0 hs (fun k => (([] : List AV)[k]?).getD .top) [.flt .f32 v363] [.flt .f32 v363] (fun F' h0 hi hρ => ⟨by simp [DVs.av, DV.av, BR.av, hρ], impl_RootNumber_fn v363 F' (by rw [hi]; rfl) (st_nil hi) ⟨trivial, trivial⟩ hy⟩) rfl
  · cases hr
end Go.Proofs.Ytooakheodgndaaa.AM
