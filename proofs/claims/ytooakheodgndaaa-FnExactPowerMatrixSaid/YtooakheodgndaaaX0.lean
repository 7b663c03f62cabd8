/- Functions: what they come to. -/
import Derived.Test.YtooakheodgndaaaBase
set_option maxRecDepth 100000
set_option maxHeartbeats 4000000
set_option linter.unusedSimpArgs false
set_option linter.unusedVariables false
namespace Go.Proofs.Ytooakheodgndaaa.AM
open Go.Proofs
/-! laws.szFloat32S -/
noncomputable def laws_szFloat32S_LO (v9 : List Nat) (v10 : Int) : LOr := fun id e L =>
  match id with
  | _ => .fail
noncomputable def laws_szFloat32S_tab : List (FuncId × DFn × Bool) := []
theorem laws_szFloat32S_hO : OrcOk Try.prog (tabD laws_szFloat32S_tab) (tabM laws_szFloat32S_tab) := tabD_nil _
noncomputable def laws_szFloat32S_T (v9 : List Nat) (v10 : Int) : Tree (Int) :=
  (.br (decide (IntKind.i64.wrap (v10 - ((v9.length : Nat) : Int)) < (0 : Int))) (
   .leaf (-1 : Int)
  ) (
   .leaf (IntKind.i64.wrap (v10 - ((v9.length : Nat) : Int)))
  ))

noncomputable def laws_szFloat32S_g (v9 : List Nat) (v10 : Int) : Option (Int) := (laws_szFloat32S_T v9 v10).run
def laws_szFloat32S_enc (v9 : List Nat) (v10 : Int) (y : Int) : Rs := (.int .i64 y, [])
theorem laws_szFloat32S_den (v9 : List Nat) (v10 : Int) : (den TT (tabD laws_szFloat32S_tab) (tabM laws_szFloat32S_tab) (laws_szFloat32S_LO v9 v10) (codeOf Try.f56) ([.bslc (BR.root 0) (.f32 v9), .int .i64 v10] ++ List.replicate (Try.f56.ntmps - ([.bslc (BR.root 0) (.f32 v9), .int .i64 v10] : List DV).length) .undef) []).bind (retD TT Try.f56.results.toList 0) = (laws_szFloat32S_T v9 v10).bind fun y => .leaf (laws_szFloat32S_enc v9 v10 y) := by kernel_rfl
theorem laws_szFloat32S_fn (v9 : List Nat) (v10 : Int) (F : Fr) (hm : F.ids.length = 0) (h0 : St F [] F.H0) (hA : DVs.Ok F [] [.bslc (BR.root 0) (.f32 v9), .int .i64 v10]) {y : Int} (hy : laws_szFloat32S_g v9 v10 = some y) : ∃ H', FnOk Try.prog 56 (DVs.av F [.bslc (BR.root 0) (.f32 v9), .int .i64 v10]) F.H0 ((laws_szFloat32S_enc v9 v10 y).1.av F) H' ∧ St F (laws_szFloat32S_enc v9 v10 y).2 H' ∧ (laws_szFloat32S_enc v9 v10 y).1.Ok F (laws_szFloat32S_enc v9 v10 y).2 :=
  fn_fin tok laws_szFloat32S_hO mixed Try.func56 Try.call56 (by kernel_rfl) (LoopsOk_eq (l := []) (by kernel_rfl) trivial) (laws_szFloat32S_den v9 v10) hy hm h0 hA
def laws_szFloat32S_v (v9 : List Nat) (v10 : Int) : Int :=
  if (decide (IntKind.i64.wrap (v10 - ((v9.length : Nat) : Int)) < (0 : Int))) = true then (
   (-1 : Int)
  ) else (
   IntKind.i64.wrap (v10 - ((v9.length : Nat) : Int))
  )
theorem laws_szFloat32S_tot (v9 : List Nat) (v10 : Int) : laws_szFloat32S_g v9 v10 = some (laws_szFloat32S_v v9 v10) := by
  unfold laws_szFloat32S_g laws_szFloat32S_T laws_szFloat32S_v
  simp only [Tree.run]
  repeat' (first | rfl | split)
noncomputable def laws_szFloat32S_F : DFn := fun args L =>
  match args with
  | [a1, .int .i64 v10] =>
    optT (rowF32 L a1) fun v9 =>
    .leaf (.int .i64 (laws_szFloat32S_v v9 v10), L)
  | _ => .fail
theorem laws_szFloat32S_Fok : COk Try.prog 56 laws_szFloat32S_F true := by
  intro F L H args r L' hs ha hr
  unfold laws_szFloat32S_F at hr
  split at hr
  · rename_i a1 v10
    obtain ⟨v9, hv9, hr⟩ := optT_run hr
    have hy := laws_szFloat32S_tot v9 v10
    generalize laws_szFloat32S_v v9 v10 = y at hy hr
    simp only [Tree.run, Option.some.injEq, Prod.mk.injEq] at hr
    obtain ⟨rfl, rfl⟩ := hr
    exact call_ok0 hs (fun k => (([a1.av F] : List AV)[k]?).getD .top) [a1, .int .i64 v10] [.bslc (BR.root 0) (.f32 v9), .int .i64 v10] (fun F' h0 hi hρ => ⟨by simp [DVs.av, DV.av, BR.av, hρ], laws_szFloat32S_fn v9 v10 F' (by rw [hi]; rfl) (st_nil hi) ⟨bslc_ok hi (by rw [h0, hρ]; exact rowF32_ok hs (DVs.okAt ha 0 rfl) hv9), trivial, trivial⟩ hy⟩) rfl
  · cases hr
/-! laws.szMatrix -/
noncomputable def laws_szMatrix_LO (v5 : Int) (v6 : Int) (v7 : List Nat) (v8 : Int) : LOr := fun id e L =>
  match id with
  | _ => .fail
noncomputable def laws_szMatrix_tab : List (FuncId × DFn × Bool) := [(56, laws_szFloat32S_F, true)]
theorem laws_szMatrix_hO : OrcOk Try.prog (tabD laws_szMatrix_tab) (tabM laws_szMatrix_tab) := tabD_cons laws_szFloat32S_Fok (tabD_nil _)
noncomputable def laws_szMatrix_T (v7 : List Nat) (v8 : Int) : Tree (Int) :=
  (.br (decide ((laws_szFloat32S_v v7 v8) < (0 : Int))) (
   .leaf (-1 : Int)
  ) (
   .leaf (laws_szFloat32S_v v7 v8)
  ))

noncomputable def laws_szMatrix_g (v7 : List Nat) (v8 : Int) : Option (Int) := (laws_szMatrix_T v7 v8).run
def laws_szMatrix_enc (v5 : Int) (v6 : Int) (v7 : List Nat) (v8 : Int) (y : Int) : Rs := (.int .i64 y, [])
theorem laws_szMatrix_den (v5 : Int) (v6 : Int) (v7 : List Nat) (v8 : Int) : (den TT (tabD laws_szMatrix_tab) (tabM laws_szMatrix_tab) (laws_szMatrix_LO v5 v6 v7 v8) (codeOf Try.f15) ([.agg [.int .i64 v5, .int .i64 v6, .bslc (BR.root 0) (.f32 v7)], .int .i64 v8] ++ List.replicate (Try.f15.ntmps - ([.agg [.int .i64 v5, .int .i64 v6, .bslc (BR.root 0) (.f32 v7)], .int .i64 v8] : List DV).length) .undef) []).bind (retD TT Try.f15.results.toList 0) = (laws_szMatrix_T v7 v8).bind fun y => .leaf (laws_szMatrix_enc v5 v6 v7 v8 y) := by kernel_rfl
theorem laws_szMatrix_fn (v5 : Int) (v6 : Int) (v7 : List Nat) (v8 : Int) (F : Fr) (hm : F.ids.length = 0) (h0 : St F [] F.H0) (hA : DVs.Ok F [] [.agg [.int .i64 v5, .int .i64 v6, .bslc (BR.root 0) (.f32 v7)], .int .i64 v8]) {y : Int} (hy : laws_szMatrix_g v7 v8 = some y) : ∃ H', FnOk Try.prog 15 (DVs.av F [.agg [.int .i64 v5, .int .i64 v6, .bslc (BR.root 0) (.f32 v7)], .int .i64 v8]) F.H0 ((laws_szMatrix_enc v5 v6 v7 v8 y).1.av F) H' ∧ St F (laws_szMatrix_enc v5 v6 v7 v8 y).2 H' ∧ (laws_szMatrix_enc v5 v6 v7 v8 y).1.Ok F (laws_szMatrix_enc v5 v6 v7 v8 y).2 :=
  fn_fin tok laws_szMatrix_hO mixed Try.func15 Try.call15 (by kernel_rfl) (LoopsOk_eq (l := []) (by kernel_rfl) trivial) (laws_szMatrix_den v5 v6 v7 v8) hy hm h0 hA
def laws_szMatrix_v (v7 : List Nat) (v8 : Int) : Int :=
  if (decide ((laws_szFloat32S_v v7 v8) < (0 : Int))) = true then (
   (-1 : Int)
  ) else (
   (laws_szFloat32S_v v7 v8)
  )
theorem laws_szMatrix_tot (v7 : List Nat) (v8 : Int) : laws_szMatrix_g v7 v8 = some (laws_szMatrix_v v7 v8) := by
  unfold laws_szMatrix_g laws_szMatrix_T laws_szMatrix_v
  simp only [Tree.run]
  repeat' (first | rfl | split)
noncomputable def laws_szMatrix_F : DFn := fun args L =>
  match args with
  | [.agg [.int .i64 v5, .int .i64 v6, a1], .int .i64 v8] =>
    optT (rowF32 L a1) fun v7 =>
    .leaf (.int .i64 (laws_szMatrix_v v7 v8), L)
  | _ => .fail
theorem laws_szMatrix_Fok : COk Try.prog 15 laws_szMatrix_F true := by
  intro F L H args r L' hs ha hr
  unfold laws_szMatrix_F at hr
  split at hr
  · rename_i v5 v6 a1 v8
    obtain ⟨v7, hv7, hr⟩ := optT_run hr
    have hy := laws_szMatrix_tot v7 v8
    generalize laws_szMatrix_v v7 v8 = y at hy hr
    simp only [Tree.run, Option.some.injEq, Prod.mk.injEq] at hr
    obtain ⟨rfl, rfl⟩ := hr
    exact call_ok0 hs (fun k => (([a1.av F] : List AV)[k]?).getD .top) [.agg [.int .i64 v5, .int .i64 v6, a1], .int .i64 v8] [.agg [.int .i64 v5, .int .i64 v6, .bslc (BR.root 0) (.f32 v7)], .int .i64 v8] (fun F' h0 hi hρ => ⟨by simp [DVs.av, DV.av, BR.av, hρ], laws_szMatrix_fn v5 v6 v7 v8 F' (by rw [hi]; rfl) (st_nil hi) ⟨⟨trivial, trivial, bslc_ok hi (by rw [h0, hρ]; exact rowF32_ok hs (DVs.okAt (DVs.okAt ha 0 rfl) 2 rfl) hv7), trivial⟩, trivial, trivial⟩ hy⟩) rfl
  · cases hr
/-! laws.toFloat32S -/
noncomputable def laws_toFloat32S_l0_T (v14 : List Nat) (s : Int × (List Nat)) : Tree ((Int × (List Nat)) ⊕ ((List Nat))) :=
  (.br (decide (s.1 < ((v14.length : Nat) : Int))) (
   (.grd (inb s.1 v14.length) <|
   (.grd (inb s.1 ((s.2).length)) <|
   .leaf (.inl (IntKind.i64.wrap (s.1 + (1 : Int)), List.set s.2 (Int.toNat s.1) (nth v14 (Int.toNat s.1))))))
  ) (
   .leaf (.inr s.2)
  ))

noncomputable def laws_toFloat32S_l0_g (v14 : List Nat) (s0 : Int × (List Nat)) : Option ((List Nat)) := whileM (fun s => (laws_toFloat32S_l0_T v14 s).run) s0
def laws_toFloat32S_l0_E (v14 : List Nat) (s : Int × (List Nat)) : Sd := ([.bslc (BR.root 0) (.f32 v14), .top, .top, .own 0 0 ((s.2).length), .int .i64 s.1, .top, .top, .top, .top, .top, .top, .top, .top, .top, .top, .top, .top, .top, .top, .top, .top, .top], [.row (.f32 s.2) 0])
def laws_toFloat32S_l0_X (v14 : List Nat) (x : (List Nat)) : Out := (.normal, [.top, .top, .top, .own 0 0 ((x).length), .top, .top, .top, .top, .top, .top, .top, .top, .top, .top, .top, .top, .top, .top, .top, .top, .top, .top], [.row (.f32 x) 0])
def laws_toFloat32S_l0_kill : List Nat := [0, 1, 1, 0, 0, 1, 1, 1, 1, 1, 1, 1, 1, 1, 1, 1, 1, 1, 1, 1, 1, 1]
def laws_toFloat32S_l0_nx : Exit → List Nat
  | .exit 0 => [1, 1, 1, 0, 1, 1, 1, 1, 1, 1, 1, 1, 1, 1, 1, 1, 1, 1, 1, 1, 1, 1]
  | .ret => [1, 1, 0, 1, 1, 1, 1, 1, 1, 1, 1, 1, 1, 1, 1, 1, 1, 1, 1, 1, 1, 1]
  | _ => []
noncomputable def laws_toFloat32S_LO (v14 : List Nat) : LOr := fun id e L =>
  match id with
  | 0 => .need (normA 0 laws_toFloat32S_l0_kill e L = some (laws_toFloat32S_l0_E v14 ((gI (vAt e 4)), (gRF L (vAt e 3))))) (.call (laws_toFloat32S_l0_g v14 ((gI (vAt e 4)), (gRF L (vAt e 3)))) fun x => .leaf (laws_toFloat32S_l0_X v14 x))
  | _ => .fail
noncomputable def laws_toFloat32S_tab : List (FuncId × DFn × Bool) := []
theorem laws_toFloat32S_hO : OrcOk Try.prog (tabD laws_toFloat32S_tab) (tabM laws_toFloat32S_tab) := tabD_nil _
theorem laws_toFloat32S_l0_be (v14 : List Nat) (s : Int × (List Nat)) : bodyT TT (tabD laws_toFloat32S_tab) (tabM laws_toFloat32S_tab) (laws_toFloat32S_LO v14) 0 laws_toFloat32S_l0_kill laws_toFloat32S_l0_nx (bodyOf Try.f33 0) 0 (laws_toFloat32S_l0_E v14 s) = (laws_toFloat32S_l0_T v14 s).bind fun y => .leaf (outS (laws_toFloat32S_l0_E v14) (laws_toFloat32S_l0_X v14) y) := by kernel_rfl
theorem laws_toFloat32S_l0_ok (v14 : List Nat) : LSound Try.prog 0 (laws_toFloat32S_LO v14) 0 (bodyOf Try.f33 0) := by
  intro e L out h
  exact lo_ok (E := laws_toFloat32S_l0_E v14) (gT := laws_toFloat32S_l0_T v14) (X := laws_toFloat32S_l0_X v14) (s0 := ((gI (vAt e 4)), (gRF L (vAt e 3)))) tok laws_toFloat32S_hO mixed (LoopsOk_eq (l := []) (by kernel_rfl) trivial) (laws_toFloat32S_l0_be v14) rfl (by intro x; rfl) h
noncomputable def laws_toFloat32S_T (v14 : List Nat) : Tree ((List Nat)) :=
  (.need (((v14.length : Nat) : Int) = ((v14.length : Nat) : Int)) <|
  (.grd (inb ((v14.length : Nat) : Int) (maxN + 1)) <|
  (.need (some (laws_toFloat32S_l0_E v14 ((0 : Int), List.replicate (Int.toNat ((v14.length : Nat) : Int)) (0 : Nat))) = some (laws_toFloat32S_l0_E v14 ((0 : Int), List.replicate (Int.toNat ((v14.length : Nat) : Int)) (0 : Nat)))) <|
  (.call (laws_toFloat32S_l0_g v14 ((0 : Int), List.replicate (Int.toNat ((v14.length : Nat) : Int)) (0 : Nat))) fun v20 =>
  .leaf v20))))

noncomputable def laws_toFloat32S_g (v14 : List Nat) : Option ((List Nat)) := (laws_toFloat32S_T v14).run
def laws_toFloat32S_enc (v14 : List Nat) (y : (List Nat)) : Rs := (.own 0 0 ((y).length), [.row (.f32 y) 0])
theorem laws_toFloat32S_den (v14 : List Nat) : (den TT (tabD laws_toFloat32S_tab) (tabM laws_toFloat32S_tab) (laws_toFloat32S_LO v14) (codeOf Try.f33) ([.bslc (BR.root 0) (.f32 v14)] ++ List.replicate (Try.f33.ntmps - ([.bslc (BR.root 0) (.f32 v14)] : List DV).length) .undef) []).bind (retD TT Try.f33.results.toList 0) = (laws_toFloat32S_T v14).bind fun y => .leaf (laws_toFloat32S_enc v14 y) := by kernel_rfl
theorem laws_toFloat32S_fn (v14 : List Nat) (F : Fr) (hm : F.ids.length = 0) (h0 : St F [] F.H0) (hA : DVs.Ok F [] [.bslc (BR.root 0) (.f32 v14)]) {y : (List Nat)} (hy : laws_toFloat32S_g v14 = some y) : ∃ H', FnOk Try.prog 33 (DVs.av F [.bslc (BR.root 0) (.f32 v14)]) F.H0 ((laws_toFloat32S_enc v14 y).1.av F) H' ∧ St F (laws_toFloat32S_enc v14 y).2 H' ∧ (laws_toFloat32S_enc v14 y).1.Ok F (laws_toFloat32S_enc v14 y).2 :=
  fn_fin tok laws_toFloat32S_hO mixed Try.func33 Try.call33 (by kernel_rfl) (LoopsOk_eq (l := [(0, bodyOf Try.f33 0)]) (by kernel_rfl) ⟨laws_toFloat32S_l0_ok v14, trivial⟩) (laws_toFloat32S_den v14) hy hm h0 hA
noncomputable def laws_toFloat32S_F : DFn := fun args L =>
  match args with
  | [a1] =>
    optT (rowF32 L a1) fun v14 =>
    .call (laws_toFloat32S_g v14) fun y => .leaf (.own (L.length + 0) 0 ((y).length), L ++ [.row (.f32 y) 0])
  | _ => .fail
theorem laws_toFloat32S_Fok : COk Try.prog 33 laws_toFloat32S_F true := by
  intro F L H args r L' hs ha hr
  unfold laws_toFloat32S_F at hr
  split at hr
  · rename_i a1
    obtain ⟨v14, hv14, hr⟩ := optT_run hr
    simp only [Tree.run] at hr
    obtain ⟨y, hy, hr⟩ := Option.bind_eq_some_iff.1 hr
    simp only [Tree.run, Option.some.injEq, Prod.mk.injEq] at hr
    obtain ⟨rfl, rfl⟩ := hr
    exact call_ok1 hs (fun k => (([a1.av F] : List AV)[k]?).getD .top) [a1] [.bslc (BR.root 0) (.f32 v14)] (fun F' h0 hi hρ => ⟨by simp [DVs.av, DV.av, BR.av, hρ], laws_toFloat32S_fn v14 F' (by rw [hi]; rfl) (st_nil hi) ⟨bslc_ok hi (by rw [h0, hρ]; exact rowF32_ok hs (DVs.okAt ha 0 rfl) hv14), trivial⟩ hy⟩) rfl rfl
  · cases hr
/-! laws.toMatrix -/
noncomputable def laws_toMatrix_LO (v11 : Int) (v12 : Int) (v13 : List Nat) : LOr := fun id e L =>
  match id with
  | _ => .fail
noncomputable def laws_toMatrix_tab : List (FuncId × DFn × Bool) := [(33, laws_toFloat32S_F, true)]
theorem laws_toMatrix_hO : OrcOk Try.prog (tabD laws_toMatrix_tab) (tabM laws_toMatrix_tab) := tabD_cons laws_toFloat32S_Fok (tabD_nil _)
noncomputable def laws_toMatrix_T (v11 : Int) (v12 : Int) (v13 : List Nat) : Tree (Int × Int × (List Nat)) :=
  (.call (laws_toFloat32S_g v13) fun v21 =>
  .leaf (v11, v12, v21))

noncomputable def laws_toMatrix_g (v11 : Int) (v12 : Int) (v13 : List Nat) : Option (Int × Int × (List Nat)) := (laws_toMatrix_T v11 v12 v13).run
def laws_toMatrix_enc (v11 : Int) (v12 : Int) (v13 : List Nat) (y : Int × Int × (List Nat)) : Rs := (.agg [.int .i64 y.1, .int .i64 y.2.1, .own 0 0 ((y.2.2).length)], [.row (.f32 y.2.2) 0])
theorem laws_toMatrix_den (v11 : Int) (v12 : Int) (v13 : List Nat) : (den TT (tabD laws_toMatrix_tab) (tabM laws_toMatrix_tab) (laws_toMatrix_LO v11 v12 v13) (codeOf Try.f17) ([.agg [.int .i64 v11, .int .i64 v12, .bslc (BR.root 0) (.f32 v13)]] ++ List.replicate (Try.f17.ntmps - ([.agg [.int .i64 v11, .int .i64 v12, .bslc (BR.root 0) (.f32 v13)]] : List DV).length) .undef) []).bind (retD TT Try.f17.results.toList 0) = (laws_toMatrix_T v11 v12 v13).bind fun y => .leaf (laws_toMatrix_enc v11 v12 v13 y) := by kernel_rfl
theorem laws_toMatrix_fn (v11 : Int) (v12 : Int) (v13 : List Nat) (F : Fr) (hm : F.ids.length = 0) (h0 : St F [] F.H0) (hA : DVs.Ok F [] [.agg [.int .i64 v11, .int .i64 v12, .bslc (BR.root 0) (.f32 v13)]]) {y : Int × Int × (List Nat)} (hy : laws_toMatrix_g v11 v12 v13 = some y) : ∃ H', FnOk Try.prog 17 (DVs.av F [.agg [.int .i64 v11, .int .i64 v12, .bslc (BR.root 0) (.f32 v13)]]) F.H0 ((laws_toMatrix_enc v11 v12 v13 y).1.av F) H' ∧ St F (laws_toMatrix_enc v11 v12 v13 y).2 H' ∧ (laws_toMatrix_enc v11 v12 v13 y).1.Ok F (laws_toMatrix_enc v11 v12 v13 y).2 :=
  fn_fin tok laws_toMatrix_hO mixed Try.func17 Try.call17 (by kernel_rfl) (LoopsOk_eq (l := []) (by kernel_rfl) trivial) (laws_toMatrix_den v11 v12 v13) hy hm h0 hA
noncomputable def laws_toMatrix_F : DFn := fun args L =>
  match args with
  | [.agg [.int .i64 v11, .int .i64 v12, a1]] =>
    optT (rowF32 L a1) fun v13 =>
    .call (laws_toMatrix_g v11 v12 v13) fun y => .leaf (.agg [.int .i64 y.1, .int .i64 y.2.1, .own (L.length + 0) 0 ((y.2.2).length)], L ++ [.row (.f32 y.2.2) 0])
  | _ => .fail
theorem laws_toMatrix_Fok : COk Try.prog 17 laws_toMatrix_F true := by
  intro F L H args r L' hs ha hr
  unfold laws_toMatrix_F at hr
  split at hr
  · rename_i v11 v12 a1
    obtain ⟨v13, hv13, hr⟩ := optT_run hr
    simp only [Tree.run] at hr
    obtain ⟨y, hy, hr⟩ := Option.bind_eq_some_iff.1 hr
    simp only [Tree.run, Option.some.injEq, Prod.mk.injEq] at hr
    obtain ⟨rfl, rfl⟩ := hr
    exact call_ok1 hs (fun k => (([a1.av F] : List AV)[k]?).getD .top) [.agg [.int .i64 v11, .int .i64 v12, a1]] [.agg [.int .i64 v11, .int .i64 v12, .bslc (BR.root 0) (.f32 v13)]] (fun F' h0 hi hρ => ⟨by simp [DVs.av, DV.av, BR.av, hρ], laws_toMatrix_fn v11 v12 v13 F' (by rw [hi]; rfl) (st_nil hi) ⟨⟨trivial, trivial, bslc_ok hi (by rw [h0, hρ]; exact rowF32_ok hs (DVs.okAt (DVs.okAt ha 0 rfl) 2 rfl) hv13), trivial⟩, trivial⟩ hy⟩) rfl rfl
  · cases hr
/-! spec.l00In -/
noncomputable def spec_l00In_LO (v35 : Int) (v36 : Int) (v37 : Int) : LOr := fun id e L =>
  match id with
  | _ => .fail
noncomputable def spec_l00In_tab : List (FuncId × DFn × Bool) := []
theorem spec_l00In_hO : OrcOk Try.prog (tabD spec_l00In_tab) (tabM spec_l00In_tab) := tabD_nil _
noncomputable def spec_l00In_T (v35 : Int) (v36 : Int) (v37 : Int) : Tree (Bool) :=
  (.br (decide (v36 ≤ v35)) (
   .leaf (decide (v35 ≤ v37))
  ) (
   .leaf false
  ))

noncomputable def spec_l00In_g (v35 : Int) (v36 : Int) (v37 : Int) : Option (Bool) := (spec_l00In_T v35 v36 v37).run
def spec_l00In_enc (v35 : Int) (v36 : Int) (v37 : Int) (y : Bool) : Rs := (.bool y, [])
theorem spec_l00In_den (v35 : Int) (v36 : Int) (v37 : Int) : (den TT (tabD spec_l00In_tab) (tabM spec_l00In_tab) (spec_l00In_LO v35 v36 v37) (codeOf Try.f70) ([.int .i64 v35, .int .i64 v36, .int .i64 v37] ++ List.replicate (Try.f70.ntmps - ([.int .i64 v35, .int .i64 v36, .int .i64 v37] : List DV).length) .undef) []).bind (retD TT Try.f70.results.toList 0) = (spec_l00In_T v35 v36 v37).bind fun y => .leaf (spec_l00In_enc v35 v36 v37 y) := by kernel_rfl
theorem spec_l00In_fn (v35 : Int) (v36 : Int) (v37 : Int) (F : Fr) (hm : F.ids.length = 0) (h0 : St F [] F.H0) (hA : DVs.Ok F [] [.int .i64 v35, .int .i64 v36, .int .i64 v37]) {y : Bool} (hy : spec_l00In_g v35 v36 v37 = some y) : ∃ H', FnOk Try.prog 70 (DVs.av F [.int .i64 v35, .int .i64 v36, .int .i64 v37]) F.H0 ((spec_l00In_enc v35 v36 v37 y).1.av F) H' ∧ St F (spec_l00In_enc v35 v36 v37 y).2 H' ∧ (spec_l00In_enc v35 v36 v37 y).1.Ok F (spec_l00In_enc v35 v36 v37 y).2 :=
  fn_fin tok spec_l00In_hO mixed Try.func70 Try.call70 (by kernel_rfl) (LoopsOk_eq (l := []) (by kernel_rfl) trivial) (spec_l00In_den v35 v36 v37) hy hm h0 hA
def spec_l00In_v (v35 : Int) (v36 : Int) (v37 : Int) : Bool :=
  if (decide (v36 ≤ v35)) = true then (
   decide (v35 ≤ v37)
  ) else (
   false
  )
theorem spec_l00In_tot (v35 : Int) (v36 : Int) (v37 : Int) : spec_l00In_g v35 v36 v37 = some (spec_l00In_v v35 v36 v37) := by
  unfold spec_l00In_g spec_l00In_T spec_l00In_v
  simp only [Tree.run]
  repeat' (first | rfl | split)
noncomputable def spec_l00In_F : DFn := fun args L =>
  match args with
  | [.int .i64 v35, .int .i64 v36, .int .i64 v37] =>
    .leaf (.bool (spec_l00In_v v35 v36 v37), L)
  | _ => .fail
theorem spec_l00In_Fok : COk Try.prog 70 spec_l00In_F true := by
  intro F L H args r L' hs ha hr
  unfold spec_l00In_F at hr
  split at hr
  · rename_i v35 v36 v37
    have hy := spec_l00In_tot v35 v36 v37
    generalize spec_l00In_v v35 v36 v37 = y at hy hr
    simp only [Tree.run, Option.some.injEq, Prod.mk.injEq] at hr
    obtain ⟨rfl, rfl⟩ := hr
    exact call_ok0 hs (fun k => (([] : List AV)[k]?).getD .top) [.int .i64 v35, .int .i64 v36, .int .i64 v37] [.int .i64 v35, .int .i64 v36, .int .i64 v37] (fun F' h0 hi hρ => ⟨by simp [DVs.av, DV.av, BR.av, hρ], spec_l00In_fn v35 v36 v37 F' (by rw [hi]; rfl) (st_nil hi) ⟨trivial, trivial, trivial, trivial⟩ hy⟩) rfl
  · cases hr
/-! spec.l02Sides -/
noncomputable def spec_l02Sides_LO (v33 : Int) (v34 : Int) : LOr := fun id e L =>
  match id with
  | _ => .fail
noncomputable def spec_l02Sides_tab : List (FuncId × DFn × Bool) := [(70, spec_l00In_F, true)]
theorem spec_l02Sides_hO : OrcOk Try.prog (tabD spec_l02Sides_tab) (tabM spec_l02Sides_tab) := tabD_cons spec_l00In_Fok (tabD_nil _)
noncomputable def spec_l02Sides_T (v33 : Int) (v34 : Int) : Tree (Bool) :=
  (.br (spec_l00In_v v33 (1 : Int) (12 : Int)) (
   .leaf (spec_l00In_v v34 (1 : Int) (12 : Int))
  ) (
   .leaf false
  ))

noncomputable def spec_l02Sides_g (v33 : Int) (v34 : Int) : Option (Bool) := (spec_l02Sides_T v33 v34).run
def spec_l02Sides_enc (v33 : Int) (v34 : Int) (y : Bool) : Rs := (.bool y, [])
theorem spec_l02Sides_den (v33 : Int) (v34 : Int) : (den TT (tabD spec_l02Sides_tab) (tabM spec_l02Sides_tab) (spec_l02Sides_LO v33 v34) (codeOf Try.f134) ([.int .i64 v33, .int .i64 v34] ++ List.replicate (Try.f134.ntmps - ([.int .i64 v33, .int .i64 v34] : List DV).length) .undef) []).bind (retD TT Try.f134.results.toList 0) = (spec_l02Sides_T v33 v34).bind fun y => .leaf (spec_l02Sides_enc v33 v34 y) := by kernel_rfl
theorem spec_l02Sides_fn (v33 : Int) (v34 : Int) (F : Fr) (hm : F.ids.length = 0) (h0 : St F [] F.H0) (hA : DVs.Ok F [] [.int .i64 v33, .int .i64 v34]) {y : Bool} (hy : spec_l02Sides_g v33 v34 = some y) : ∃ H', FnOk Try.prog 134 (DVs.av F [.int .i64 v33, .int .i64 v34]) F.H0 ((spec_l02Sides_enc v33 v34 y).1.av F) H' ∧ St F (spec_l02Sides_enc v33 v34 y).2 H' ∧ (spec_l02Sides_enc v33 v34 y).1.Ok F (spec_l02Sides_enc v33 v34 y).2 :=
  fn_fin tok spec_l02Sides_hO mixed Try.func134 Try.call134 (by kernel_rfl) (LoopsOk_eq (l := []) (by kernel_rfl) trivial) (spec_l02Sides_den v33 v34) hy hm h0 hA
def spec_l02Sides_v (v33 : Int) (v34 : Int) : Bool :=
  if (spec_l00In_v v33 (1 : Int) (12 : Int)) = true then (
   (spec_l00In_v v34 (1 : Int) (12 : Int))
  ) else (
   false
  )
theorem spec_l02Sides_tot (v33 : Int) (v34 : Int) : spec_l02Sides_g v33 v34 = some (spec_l02Sides_v v33 v34) := by
  unfold spec_l02Sides_g spec_l02Sides_T spec_l02Sides_v
  simp only [Tree.run]
  repeat' (first | rfl | split)
noncomputable def spec_l02Sides_F : DFn := fun args L =>
  match args with
  | [.int .i64 v33, .int .i64 v34] =>
    .leaf (.bool (spec_l02Sides_v v33 v34), L)
  | _ => .fail
theorem spec_l02Sides_Fok : COk Try.prog 134 spec_l02Sides_F true := by
  intro F L H args r L' hs ha hr
  unfold spec_l02Sides_F at hr
  split at hr
  · rename_i v33 v34
    have hy := spec_l02Sides_tot v33 v34
    generalize spec_l02Sides_v v33 v34 = y at hy hr
    simp only [Tree.run, Option.some.injEq, Prod.mk.injEq] at hr
    obtain ⟨rfl, rfl⟩ := hr
    exact call_ok0 hs (fun k => (([] : List AV)[k]?).getD .top) [.int .i64 v33, .int .i64 v34] [.int .i64 v33, .int .i64 v34] (fun F' h0 hi hρ => ⟨by simp [DVs.av, DV.av, BR.av, hρ], spec_l02Sides_fn v33 v34 F' (by rw [hi]; rfl) (st_nil hi) ⟨trivial, trivial, trivial⟩ hy⟩) rfl
  · cases hr
/-! spec.l01Finite -/
noncomputable def spec_l01Finite_LO (v40 : Nat) : LOr := fun id e L =>
  match id with
  | _ => .fail
noncomputable def spec_l01Finite_tab : List (FuncId × DFn × Bool) := []
theorem spec_l01Finite_hO : OrcOk Try.prog (tabD spec_l01Finite_tab) (tabM spec_l01Finite_tab) := tabD_nil _
noncomputable def spec_l01Finite_T (v40 : Nat) : Tree (Bool) :=
  .leaf (feq .f32 (fsub .f32 v40 v40) (0 : Nat))

noncomputable def spec_l01Finite_g (v40 : Nat) : Option (Bool) := (spec_l01Finite_T v40).run
def spec_l01Finite_enc (v40 : Nat) (y : Bool) : Rs := (.bool y, [])
theorem spec_l01Finite_den (v40 : Nat) : (den TT (tabD spec_l01Finite_tab) (tabM spec_l01Finite_tab) (spec_l01Finite_LO v40) (codeOf Try.f60) ([.flt .f32 v40] ++ List.replicate (Try.f60.ntmps - ([.flt .f32 v40] : List DV).length) .undef) []).bind (retD TT Try.f60.results.toList 0) = (spec_l01Finite_T v40).bind fun y => .leaf (spec_l01Finite_enc v40 y) := by kernel_rfl
theorem spec_l01Finite_fn (v40 : Nat) (F : Fr) (hm : F.ids.length = 0) (h0 : St F [] F.H0) (hA : DVs.Ok F [] [.flt .f32 v40]) {y : Bool} (hy : spec_l01Finite_g v40 = some y) : ∃ H', FnOk Try.prog 60 (DVs.av F [.flt .f32 v40]) F.H0 ((spec_l01Finite_enc v40 y).1.av F) H' ∧ St F (spec_l01Finite_enc v40 y).2 H' ∧ (spec_l01Finite_enc v40 y).1.Ok F (spec_l01Finite_enc v40 y).2 :=
  fn_fin tok spec_l01Finite_hO mixed Try.func60 Try.call60 (by kernel_rfl) (LoopsOk_eq (l := []) (by kernel_rfl) trivial) (spec_l01Finite_den v40) hy hm h0 hA
def spec_l01Finite_v (v40 : Nat) : Bool :=
  feq .f32 (fsub .f32 v40 v40) (0 : Nat)
theorem spec_l01Finite_tot (v40 : Nat) : spec_l01Finite_g v40 = some (spec_l01Finite_v v40) := by
  unfold spec_l01Finite_g spec_l01Finite_T spec_l01Finite_v
  simp only [Tree.run]
  repeat' (first | rfl | split)
noncomputable def spec_l01Finite_F : DFn := fun args L =>
  match args with
  | [.flt .f32 v40] =>
    .leaf (.bool (spec_l01Finite_v v40), L)
  | _ => .fail
theorem spec_l01Finite_Fok : COk Try.prog 60 spec_l01Finite_F true := by
  intro F L H args r L' hs ha hr
  unfold spec_l01Finite_F at hr
  split at hr
  · rename_i v40
    have hy := spec_l01Finite_tot v40
    generalize spec_l01Finite_v v40 = y at hy hr
    simp only [Tree.run, Option.some.injEq, Prod.mk.injEq] at hr
    obtain ⟨rfl, rfl⟩ := hr
    exact call_ok0 hs (fun k => (([] : List AV)[k]?).getD .top) [.flt .f32 v40] [.flt .f32 v40] (fun F' h0 hi hρ => ⟨by simp [DVs.av, DV.av, BR.av, hρ], spec_l01Finite_fn v40 F' (by rw [hi]; rfl) (st_nil hi) ⟨trivial, trivial⟩ hy⟩) rfl
  · cases hr
/-! spec.l02Finite -/
noncomputable def spec_l02Finite_l0_T (v38 : List Nat) (s : Int) : Tree ((Int) ⊕ ((Unit) ⊕ (Unit))) :=
  (.br (decide (s < ((v38.length : Nat) : Int))) (
   (.grd (inb s v38.length) <|
   (.br (!(spec_l01Finite_v (nth v38 (Int.toNat s)))) (
    .leaf (.inr (.inl ()))
   ) (
    .leaf (.inl (IntKind.i64.wrap (s + (1 : Int))))
   )))
  ) (
   .leaf (.inr (.inr ()))
  ))

noncomputable def spec_l02Finite_l0_g (v38 : List Nat) (s0 : Int) : Option ((Unit) ⊕ (Unit)) := whileM (fun s => (spec_l02Finite_l0_T v38 s).run) s0
def spec_l02Finite_l0_E (v38 : List Nat) (s : Int) : Sd := ([.bslc (BR.root 0) (.f32 v38), .top, .top, .int .i64 s, .top, .top, .top, .top, .top, .top, .top, .top, .top, .top, .top, .top], [])
def spec_l02Finite_l0_X (v38 : List Nat) (x : (Unit) ⊕ (Unit)) : Out := (match x with | .inl x => (.ret, [.top, .top, .lit false, .top, .top, .top, .top, .top, .top, .top, .top, .top, .top, .top, .top, .top], []) | .inr x => (.normal, [.top, .top, .top, .top, .top, .top, .top, .top, .top, .top, .top, .top, .top, .top, .top, .top], []))
def spec_l02Finite_l0_kill : List Nat := [0, 1, 1, 0, 1, 1, 1, 1, 1, 1, 1, 1, 1, 1, 1, 1]
def spec_l02Finite_l0_nx : Exit → List Nat
  | .exit 0 => [1, 1, 1, 1, 1, 1, 1, 1, 1, 1, 1, 1, 1, 1, 1, 1]
  | .ret => [1, 1, 0, 1, 1, 1, 1, 1, 1, 1, 1, 1, 1, 1, 1, 1]
  | _ => []
noncomputable def spec_l02Finite_LO (v38 : List Nat) : LOr := fun id e L =>
  match id with
  | 0 => .need (normA 0 spec_l02Finite_l0_kill e L = some (spec_l02Finite_l0_E v38 (gI (vAt e 3)))) (.call (spec_l02Finite_l0_g v38 (gI (vAt e 3))) fun x => .sum x (fun b0 => .leaf (spec_l02Finite_l0_X v38 (.inl b0))) (fun c0 => .leaf (spec_l02Finite_l0_X v38 (.inr c0))))
  | _ => .fail
noncomputable def spec_l02Finite_tab : List (FuncId × DFn × Bool) := [(60, spec_l01Finite_F, true)]
theorem spec_l02Finite_hO : OrcOk Try.prog (tabD spec_l02Finite_tab) (tabM spec_l02Finite_tab) := tabD_cons spec_l01Finite_Fok (tabD_nil _)
theorem spec_l02Finite_l0_be (v38 : List Nat) (s : Int) : bodyT TT (tabD spec_l02Finite_tab) (tabM spec_l02Finite_tab) (spec_l02Finite_LO v38) 0 spec_l02Finite_l0_kill spec_l02Finite_l0_nx (bodyOf Try.f135 0) 0 (spec_l02Finite_l0_E v38 s) = (spec_l02Finite_l0_T v38 s).bind fun y => .leaf (outS (spec_l02Finite_l0_E v38) (spec_l02Finite_l0_X v38) y) := by kernel_rfl
theorem spec_l02Finite_l0_ok (v38 : List Nat) : LSound Try.prog 0 (spec_l02Finite_LO v38) 0 (bodyOf Try.f135 0) := by
  intro e L out h
  exact lo_ok (E := spec_l02Finite_l0_E v38) (gT := spec_l02Finite_l0_T v38) (X := spec_l02Finite_l0_X v38) (s0 := (gI (vAt e 3))) tok spec_l02Finite_hO mixed (LoopsOk_eq (l := []) (by kernel_rfl) trivial) (spec_l02Finite_l0_be v38) rfl (by intro x; (cases x with | inl b => rfl | inr x => exact rfl)) h
noncomputable def spec_l02Finite_T (v38 : List Nat) : Tree (Bool) :=
  (.need (some (spec_l02Finite_l0_E v38 (0 : Int)) = some (spec_l02Finite_l0_E v38 (0 : Int))) <|
  (.call (spec_l02Finite_l0_g v38 (0 : Int)) fun v43 =>
  (.sum v43 (fun v44 =>
   .leaf false
  ) (fun v45 =>
   .leaf true
  ))))

noncomputable def spec_l02Finite_g (v38 : List Nat) : Option (Bool) := (spec_l02Finite_T v38).run
def spec_l02Finite_enc (v38 : List Nat) (y : Bool) : Rs := (.bool y, [])
theorem spec_l02Finite_den (v38 : List Nat) : (den TT (tabD spec_l02Finite_tab) (tabM spec_l02Finite_tab) (spec_l02Finite_LO v38) (codeOf Try.f135) ([.bslc (BR.root 0) (.f32 v38)] ++ List.replicate (Try.f135.ntmps - ([.bslc (BR.root 0) (.f32 v38)] : List DV).length) .undef) []).bind (retD TT Try.f135.results.toList 0) = (spec_l02Finite_T v38).bind fun y => .leaf (spec_l02Finite_enc v38 y) := by kernel_rfl
theorem spec_l02Finite_fn (v38 : List Nat) (F : Fr) (hm : F.ids.length = 0) (h0 : St F [] F.H0) (hA : DVs.Ok F [] [.bslc (BR.root 0) (.f32 v38)]) {y : Bool} (hy : spec_l02Finite_g v38 = some y) : ∃ H', FnOk Try.prog 135 (DVs.av F [.bslc (BR.root 0) (.f32 v38)]) F.H0 ((spec_l02Finite_enc v38 y).1.av F) H' ∧ St F (spec_l02Finite_enc v38 y).2 H' ∧ (spec_l02Finite_enc v38 y).1.Ok F (spec_l02Finite_enc v38 y).2 :=
  fn_fin tok spec_l02Finite_hO mixed Try.func135 Try.call135 (by kernel_rfl) (LoopsOk_eq (l := [(0, bodyOf Try.f135 0)]) (by kernel_rfl) ⟨spec_l02Finite_l0_ok v38, trivial⟩) (spec_l02Finite_den v38) hy hm h0 hA
noncomputable def spec_l02Finite_F : DFn := fun args L =>
  match args with
  | [a1] =>
    optT (rowF32 L a1) fun v38 =>
    .call (spec_l02Finite_g v38) fun y => .leaf (.bool y, L)
  | _ => .fail
theorem spec_l02Finite_Fok : COk Try.prog 135 spec_l02Finite_F true := by
  intro F L H args r L' hs ha hr
  unfold spec_l02Finite_F at hr
  split at hr
  · rename_i a1
    obtain ⟨v38, hv38, hr⟩ := optT_run hr
    simp only [Tree.run] at hr
    obtain ⟨y, hy, hr⟩ := Option.bind_eq_some_iff.1 hr
    simp only [Tree.run, Option.some.injEq, Prod.mk.injEq] at hr
    obtain ⟨rfl, rfl⟩ := hr
    exact call_ok0 hs (fun k => (([a1.av F] : List AV)[k]?).getD .top) [a1] [.bslc (BR.root 0) (.f32 v38)] (fun F' h0 hi hρ => ⟨by simp [DVs.av, DV.av, BR.av, hρ], spec_l02Finite_fn v38 F' (by rw [hi]; rfl) (st_nil hi) ⟨bslc_ok hi (by rw [h0, hρ]; exact rowF32_ok hs (DVs.okAt ha 0 rfl) hv38), trivial⟩ hy⟩) rfl
  · cases hr
/-! spec.l02Is -/
noncomputable def spec_l02Is_LO (v30 : Int) (v31 : Int) (v32 : List Nat) : LOr := fun id e L =>
  match id with
  | _ => .fail
noncomputable def spec_l02Is_tab : List (FuncId × DFn × Bool) := [(134, spec_l02Sides_F, true), (135, spec_l02Finite_F, true)]
theorem spec_l02Is_hO : OrcOk Try.prog (tabD spec_l02Is_tab) (tabM spec_l02Is_tab) := tabD_cons spec_l02Sides_Fok (tabD_cons spec_l02Finite_Fok (tabD_nil _))
noncomputable def spec_l02Is_T (v30 : Int) (v31 : Int) (v32 : List Nat) : Tree (Bool) :=
  (.br (spec_l02Sides_v v30 v31) (
   (.br (decide (((v32.length : Nat) : Int) = IntKind.i64.wrap (v30 * v31))) (
    (.call (spec_l02Finite_g v32) fun v46 =>
    .leaf v46)
   ) (
    .leaf false
   ))
  ) (
   .leaf false
  ))

noncomputable def spec_l02Is_g (v30 : Int) (v31 : Int) (v32 : List Nat) : Option (Bool) := (spec_l02Is_T v30 v31 v32).run
def spec_l02Is_enc (v30 : Int) (v31 : Int) (v32 : List Nat) (y : Bool) : Rs := (.bool y, [])
theorem spec_l02Is_den (v30 : Int) (v31 : Int) (v32 : List Nat) : (den TT (tabD spec_l02Is_tab) (tabM spec_l02Is_tab) (spec_l02Is_LO v30 v31 v32) (codeOf Try.f61) ([.bptr (BR.root 0) [.int .i64 v30, .int .i64 v31, .bslc (BR.root 1) (.f32 v32)]] ++ List.replicate (Try.f61.ntmps - ([.bptr (BR.root 0) [.int .i64 v30, .int .i64 v31, .bslc (BR.root 1) (.f32 v32)]] : List DV).length) .undef) []).bind (retD TT Try.f61.results.toList 0) = (spec_l02Is_T v30 v31 v32).bind fun y => .leaf (spec_l02Is_enc v30 v31 v32 y) := by kernel_rfl
theorem spec_l02Is_fn (v30 : Int) (v31 : Int) (v32 : List Nat) (F : Fr) (hm : F.ids.length = 0) (h0 : St F [] F.H0) (hA : DVs.Ok F [] [.bptr (BR.root 0) [.int .i64 v30, .int .i64 v31, .bslc (BR.root 1) (.f32 v32)]]) {y : Bool} (hy : spec_l02Is_g v30 v31 v32 = some y) : ∃ H', FnOk Try.prog 61 (DVs.av F [.bptr (BR.root 0) [.int .i64 v30, .int .i64 v31, .bslc (BR.root 1) (.f32 v32)]]) F.H0 ((spec_l02Is_enc v30 v31 v32 y).1.av F) H' ∧ St F (spec_l02Is_enc v30 v31 v32 y).2 H' ∧ (spec_l02Is_enc v30 v31 v32 y).1.Ok F (spec_l02Is_enc v30 v31 v32 y).2 :=
  fn_fin tok spec_l02Is_hO mixed Try.func61 Try.call61 (by kernel_rfl) (LoopsOk_eq (l := []) (by kernel_rfl) trivial) (spec_l02Is_den v30 v31 v32) hy hm h0 hA
noncomputable def spec_l02Is_F : DFn := fun args L =>
  match args with
  | [a1] =>
    optT (cellsOf L 3 a1) fun cs0 =>
    (match cs0 with
    | [.int .i64 v30, .int .i64 v31, a2] =>
    optT (rowF32 L a2) fun v32 =>
    .call (spec_l02Is_g v30 v31 v32) fun y => .leaf (.bool y, L)
    | _ => .fail)
  | _ => .fail
theorem spec_l02Is_Fok : COk Try.prog 61 spec_l02Is_F true := by
  intro F L H args r L' hs ha hr
  unfold spec_l02Is_F at hr
  split at hr
  · rename_i a1
    obtain ⟨cs0, hcp0, hr⟩ := optT_run hr
    split at hr
    · rename_i v30 v31 a2
      obtain ⟨v32, hv32, hr⟩ := optT_run hr
      simp only [Tree.run] at hr
      obtain ⟨y, hy, hr⟩ := Option.bind_eq_some_iff.1 hr
      simp only [Tree.run, Option.some.injEq, Prod.mk.injEq] at hr
      obtain ⟨rfl, rfl⟩ := hr
      exact call_ok0 hs (fun k => (([a1.av F, a2.av F] : List AV)[k]?).getD .top) [a1] [.bptr (BR.root 0) [.int .i64 v30, .int .i64 v31, .bslc (BR.root 1) (.f32 v32)]] (fun F' h0 hi hρ => ⟨by simp [DVs.av, DV.av, BR.av, hρ], spec_l02Is_fn v30 v31 v32 F' (by rw [hi]; rfl) (st_nil hi) ⟨bptr_ok hi (by rw [h0]; simpa [DVs.av, DV.av, BR.av, hρ] using (cellsOf_ok hs (DVs.okAt ha 0 rfl) hcp0).1) ⟨trivial, trivial, bslc_ok hi (by rw [h0, hρ]; exact rowF32_ok hs (DVs.okAt (cellsOf_ok hs (DVs.okAt ha 0 rfl) hcp0).2 2 rfl) hv32), trivial⟩, trivial⟩ hy⟩) rfl
    · cases hr
  · cases hr
/-! spec.l02Square -/
noncomputable def spec_l02Square_LO (v27 : Int) (v28 : Int) (v29 : List Nat) : LOr := fun id e L =>
  match id with
  | _ => .fail
noncomputable def spec_l02Square_tab : List (FuncId × DFn × Bool) := [(61, spec_l02Is_F, true)]
theorem spec_l02Square_hO : OrcOk Try.prog (tabD spec_l02Square_tab) (tabM spec_l02Square_tab) := tabD_cons spec_l02Is_Fok (tabD_nil _)
noncomputable def spec_l02Square_T (v27 : Int) (v28 : Int) (v29 : List Nat) : Tree (Bool) :=
  (.call (spec_l02Is_g v27 v28 v29) fun v47 =>
  (.br v47 (
   .leaf (decide (v27 = v28))
  ) (
   .leaf false
  )))

noncomputable def spec_l02Square_g (v27 : Int) (v28 : Int) (v29 : List Nat) : Option (Bool) := (spec_l02Square_T v27 v28 v29).run
def spec_l02Square_enc (v27 : Int) (v28 : Int) (v29 : List Nat) (y : Bool) : Rs := (.bool y, [])
theorem spec_l02Square_den (v27 : Int) (v28 : Int) (v29 : List Nat) : (den TT (tabD spec_l02Square_tab) (tabM spec_l02Square_tab) (spec_l02Square_LO v27 v28 v29) (codeOf Try.f57) ([.bptr (BR.root 0) [.int .i64 v27, .int .i64 v28, .bslc (BR.root 1) (.f32 v29)]] ++ List.replicate (Try.f57.ntmps - ([.bptr (BR.root 0) [.int .i64 v27, .int .i64 v28, .bslc (BR.root 1) (.f32 v29)]] : List DV).length) .undef) []).bind (retD TT Try.f57.results.toList 0) = (spec_l02Square_T v27 v28 v29).bind fun y => .leaf (spec_l02Square_enc v27 v28 v29 y) := by kernel_rfl
theorem spec_l02Square_fn (v27 : Int) (v28 : Int) (v29 : List Nat) (F : Fr) (hm : F.ids.length = 0) (h0 : St F [] F.H0) (hA : DVs.Ok F [] [.bptr (BR.root 0) [.int .i64 v27, .int .i64 v28, .bslc (BR.root 1) (.f32 v29)]]) {y : Bool} (hy : spec_l02Square_g v27 v28 v29 = some y) : ∃ H', FnOk Try.prog 57 (DVs.av F [.bptr (BR.root 0) [.int .i64 v27, .int .i64 v28, .bslc (BR.root 1) (.f32 v29)]]) F.H0 ((spec_l02Square_enc v27 v28 v29 y).1.av F) H' ∧ St F (spec_l02Square_enc v27 v28 v29 y).2 H' ∧ (spec_l02Square_enc v27 v28 v29 y).1.Ok F (spec_l02Square_enc v27 v28 v29 y).2 :=
  fn_fin tok spec_l02Square_hO mixed Try.func57 Try.call57 (by kernel_rfl) (LoopsOk_eq (l := []) (by kernel_rfl) trivial) (spec_l02Square_den v27 v28 v29) hy hm h0 hA
noncomputable def spec_l02Square_F : DFn := fun args L =>
  match args with
  | [a1] =>
    optT (cellsOf L 3 a1) fun cs0 =>
    (match cs0 with
    | [.int .i64 v27, .int .i64 v28, a2] =>
    optT (rowF32 L a2) fun v29 =>
    .call (spec_l02Square_g v27 v28 v29) fun y => .leaf (.bool y, L)
    | _ => .fail)
  | _ => .fail
theorem spec_l02Square_Fok : COk Try.prog 57 spec_l02Square_F true := by
  intro F L H args r L' hs ha hr
  unfold spec_l02Square_F at hr
  split at hr
  · rename_i a1
    obtain ⟨cs0, hcp0, hr⟩ := optT_run hr
    split at hr
    · rename_i v27 v28 a2
      obtain ⟨v29, hv29, hr⟩ := optT_run hr
      simp only [Tree.run] at hr
      obtain ⟨y, hy, hr⟩ := Option.bind_eq_some_iff.1 hr
      simp only [Tree.run, Option.some.injEq, Prod.mk.injEq] at hr
      obtain ⟨rfl, rfl⟩ := hr
      exact call_ok0 hs (fun k => (([a1.av F, a2.av F] : List AV)[k]?).getD .top) [a1] [.bptr (BR.root 0) [.int .i64 v27, .int .i64 v28, .bslc (BR.root 1) (.f32 v29)]] (fun F' h0 hi hρ => ⟨by simp [DVs.av, DV.av, BR.av, hρ], spec_l02Square_fn v27 v28 v29 F' (by rw [hi]; rfl) (st_nil hi) ⟨bptr_ok hi (by rw [h0]; simpa [DVs.av, DV.av, BR.av, hρ] using (cellsOf_ok hs (DVs.okAt ha 0 rfl) hcp0).1) ⟨trivial, trivial, bslc_ok hi (by rw [h0, hρ]; exact rowF32_ok hs (DVs.okAt (cellsOf_ok hs (DVs.okAt ha 0 rfl) hcp0).2 2 rfl) hv29), trivial⟩, trivial⟩ hy⟩) rfl
    · cases hr
  · cases hr
/-! spec.l02Zero -/
noncomputable def spec_l02Zero_LO (v50 : Int) (v51 : Int) : LOr := fun id e L =>
  match id with
  | _ => .fail
noncomputable def spec_l02Zero_tab : List (FuncId × DFn × Bool) := []
theorem spec_l02Zero_hO : OrcOk Try.prog (tabD spec_l02Zero_tab) (tabM spec_l02Zero_tab) := tabD_nil _
noncomputable def spec_l02Zero_T (v50 : Int) (v51 : Int) : Tree (Int × Int) :=
  (.need (IntKind.i64.wrap (v50 * v51) = IntKind.i64.wrap (v50 * v51)) <|
  (.grd (inb (IntKind.i64.wrap (v50 * v51)) (maxN + 1)) <|
  .leaf (v50, v51)))

noncomputable def spec_l02Zero_g (v50 : Int) (v51 : Int) : Option (Int × Int) := (spec_l02Zero_T v50 v51).run
def spec_l02Zero_enc (v50 : Int) (v51 : Int) (y : Int × Int) : Rs := (.agg [.int .i64 y.1, .int .i64 y.2, .own 0 0 ((List.replicate (Int.toNat (IntKind.i64.wrap (v50 * v51))) (0 : Nat)).length)], [.row (.f32 (List.replicate (Int.toNat (IntKind.i64.wrap (v50 * v51))) (0 : Nat))) 0])
theorem spec_l02Zero_den (v50 : Int) (v51 : Int) : (den TT (tabD spec_l02Zero_tab) (tabM spec_l02Zero_tab) (spec_l02Zero_LO v50 v51) (codeOf Try.f133) ([.int .i64 v50, .int .i64 v51] ++ List.replicate (Try.f133.ntmps - ([.int .i64 v50, .int .i64 v51] : List DV).length) .undef) []).bind (retD TT Try.f133.results.toList 0) = (spec_l02Zero_T v50 v51).bind fun y => .leaf (spec_l02Zero_enc v50 v51 y) := by kernel_rfl
theorem spec_l02Zero_fn (v50 : Int) (v51 : Int) (F : Fr) (hm : F.ids.length = 0) (h0 : St F [] F.H0) (hA : DVs.Ok F [] [.int .i64 v50, .int .i64 v51]) {y : Int × Int} (hy : spec_l02Zero_g v50 v51 = some y) : ∃ H', FnOk Try.prog 133 (DVs.av F [.int .i64 v50, .int .i64 v51]) F.H0 ((spec_l02Zero_enc v50 v51 y).1.av F) H' ∧ St F (spec_l02Zero_enc v50 v51 y).2 H' ∧ (spec_l02Zero_enc v50 v51 y).1.Ok F (spec_l02Zero_enc v50 v51 y).2 :=
  fn_fin tok spec_l02Zero_hO mixed Try.func133 Try.call133 (by kernel_rfl) (LoopsOk_eq (l := []) (by kernel_rfl) trivial) (spec_l02Zero_den v50 v51) hy hm h0 hA
noncomputable def spec_l02Zero_F : DFn := fun args L =>
  match args with
  | [.int .i64 v50, .int .i64 v51] =>
    .call (spec_l02Zero_g v50 v51) fun y => .leaf (.agg [.int .i64 y.1, .int .i64 y.2, .own (L.length + 0) 0 ((List.replicate (Int.toNat (IntKind.i64.wrap (v50 * v51))) (0 : Nat)).length)], L ++ [.row (.f32 (List.replicate (Int.toNat (IntKind.i64.wrap (v50 * v51))) (0 : Nat))) 0])
  | _ => .fail
theorem spec_l02Zero_Fok : COk Try.prog 133 spec_l02Zero_F true := by
  intro F L H args r L' hs ha hr
  unfold spec_l02Zero_F at hr
  split at hr
  · rename_i v50 v51
    simp only [Tree.run] at hr
    obtain ⟨y, hy, hr⟩ := Option.bind_eq_some_iff.1 hr
    simp only [Tree.run, Option.some.injEq, Prod.mk.injEq] at hr
    obtain ⟨rfl, rfl⟩ := hr
    exact call_ok1 hs (fun k => (([] : List AV)[k]?).getD .top) [.int .i64 v50, .int .i64 v51] [.int .i64 v50, .int .i64 v51] (fun F' h0 hi hρ => ⟨by simp [DVs.av, DV.av, BR.av, hρ], spec_l02Zero_fn v50 v51 F' (by rw [hi]; rfl) (st_nil hi) ⟨trivial, trivial, trivial⟩ hy⟩) rfl rfl
  · cases hr
/-! spec.l02Unit -/
noncomputable def spec_l02Unit_l0_T (v49 : Int) (v61 : Int) (v62 : Int) (s : Int × (List Nat)) : Tree ((Int × (List Nat)) ⊕ ((List Nat))) :=
  (.br (decide (s.1 < v49)) (
   (.grd (inb (IntKind.i64.wrap ((IntKind.i64.wrap (s.1 * v49)) + s.1)) ((s.2).length)) <|
   .leaf (.inl (IntKind.i64.wrap (s.1 + (1 : Int)), List.set s.2 (Int.toNat (IntKind.i64.wrap ((IntKind.i64.wrap (s.1 * v49)) + s.1))) (1065353216 : Nat))))
  ) (
   .leaf (.inr s.2)
  ))

noncomputable def spec_l02Unit_l0_g (v49 : Int) (v61 : Int) (v62 : Int) (s0 : Int × (List Nat)) : Option ((List Nat)) := whileM (fun s => (spec_l02Unit_l0_T v49 v61 v62 s).run) s0
def spec_l02Unit_l0_E (v49 : Int) (v61 : Int) (v62 : Int) (s : Int × (List Nat)) : Sd := ([.int .i64 v49, .top, .ptr 0 (0 : Nat) 0 (3 : Nat), .ptr 1 (0 : Nat) 0 (3 : Nat), .int .i64 s.1, .top, .top, .top, .top, .top, .top, .top, .top, .top, .top, .top, .top, .top, .top, .top, .top, .top], [.gen [.int .i64 (0 : Int), .int .i64 (0 : Int), .nilslc] false 0, .gen [.int .i64 v61, .int .i64 v62, .own 2 0 ((s.2).length)] false 0, .row (.f32 s.2) 0])
def spec_l02Unit_l0_X (v49 : Int) (v61 : Int) (v62 : Int) (x : (List Nat)) : Out := (.normal, [.top, .top, .ptr 0 (0 : Nat) 0 (3 : Nat), .ptr 1 (0 : Nat) 0 (3 : Nat), .top, .top, .top, .top, .top, .top, .top, .top, .top, .top, .top, .top, .top, .top, .top, .top, .top, .top], [.gen [.int .i64 (0 : Int), .int .i64 (0 : Int), .nilslc] false 0, .gen [.int .i64 v61, .int .i64 v62, .own 2 0 ((x).length)] false 0, .row (.f32 x) 0])
def spec_l02Unit_l0_kill : List Nat := [0, 1, 0, 0, 0, 1, 1, 1, 1, 1, 1, 1, 1, 1, 1, 1, 1, 1, 1, 1, 1, 1]
def spec_l02Unit_l0_nx : Exit → List Nat
  | .exit 0 => [1, 1, 0, 0, 1, 1, 1, 1, 1, 1, 1, 1, 1, 1, 1, 1, 1, 1, 1, 1, 1, 1]
  | .ret => [1, 1, 0, 1, 1, 1, 1, 1, 1, 1, 1, 1, 1, 1, 1, 1, 1, 1, 1, 1, 1, 1]
  | _ => []
noncomputable def spec_l02Unit_LO (v49 : Int) : LOr := fun id e L =>
  match id with
  | 0 => .need (normA 0 spec_l02Unit_l0_kill e L = some (spec_l02Unit_l0_E v49 (gI (cAt L (vAt e 3) 0)) (gI (cAt L (vAt e 3) 1)) ((gI (vAt e 4)), (gRF L (cAt L (vAt e 3) 2))))) (.call (spec_l02Unit_l0_g v49 (gI (cAt L (vAt e 3) 0)) (gI (cAt L (vAt e 3) 1)) ((gI (vAt e 4)), (gRF L (cAt L (vAt e 3) 2)))) fun x => .leaf (spec_l02Unit_l0_X v49 (gI (cAt L (vAt e 3) 0)) (gI (cAt L (vAt e 3) 1)) x))
  | _ => .fail
noncomputable def spec_l02Unit_tab : List (FuncId × DFn × Bool) := [(133, spec_l02Zero_F, true)]
theorem spec_l02Unit_hO : OrcOk Try.prog (tabD spec_l02Unit_tab) (tabM spec_l02Unit_tab) := tabD_cons spec_l02Zero_Fok (tabD_nil _)
theorem spec_l02Unit_l0_be (v49 : Int) (v61 : Int) (v62 : Int) (s : Int × (List Nat)) : bodyT TT (tabD spec_l02Unit_tab) (tabM spec_l02Unit_tab) (spec_l02Unit_LO v49) 0 spec_l02Unit_l0_kill spec_l02Unit_l0_nx (bodyOf Try.f58 0) 0 (spec_l02Unit_l0_E v49 v61 v62 s) = (spec_l02Unit_l0_T v49 v61 v62 s).bind fun y => .leaf (outS (spec_l02Unit_l0_E v49 v61 v62) (spec_l02Unit_l0_X v49 v61 v62) y) := by kernel_rfl
theorem spec_l02Unit_l0_ok (v49 : Int) : LSound Try.prog 0 (spec_l02Unit_LO v49) 0 (bodyOf Try.f58 0) := by
  intro e L out h
  exact lo_ok (E := spec_l02Unit_l0_E v49 (gI (cAt L (vAt e 3) 0)) (gI (cAt L (vAt e 3) 1))) (gT := spec_l02Unit_l0_T v49 (gI (cAt L (vAt e 3) 0)) (gI (cAt L (vAt e 3) 1))) (X := spec_l02Unit_l0_X v49 (gI (cAt L (vAt e 3) 0)) (gI (cAt L (vAt e 3) 1))) (s0 := ((gI (vAt e 4)), (gRF L (cAt L (vAt e 3) 2)))) tok spec_l02Unit_hO mixed (LoopsOk_eq (l := []) (by kernel_rfl) trivial) (spec_l02Unit_l0_be v49 (gI (cAt L (vAt e 3) 0)) (gI (cAt L (vAt e 3) 1))) rfl (by intro x; rfl) h
noncomputable def spec_l02Unit_T (v49 : Int) : Tree (Int × Int × (List Nat)) :=
  (.call (spec_l02Zero_g v49 v49) fun v52 =>
  (.need (some (spec_l02Unit_l0_E v49 v52.1 v52.2 ((0 : Int), List.replicate (Int.toNat (IntKind.i64.wrap (v49 * v49))) (0 : Nat))) = some (spec_l02Unit_l0_E v49 v52.1 v52.2 ((0 : Int), List.replicate (Int.toNat (IntKind.i64.wrap (v49 * v49))) (0 : Nat)))) <|
  (.call (spec_l02Unit_l0_g v49 v52.1 v52.2 ((0 : Int), List.replicate (Int.toNat (IntKind.i64.wrap (v49 * v49))) (0 : Nat))) fun v64 =>
  .leaf (v52.1, v52.2, v64))))

noncomputable def spec_l02Unit_g (v49 : Int) : Option (Int × Int × (List Nat)) := (spec_l02Unit_T v49).run
def spec_l02Unit_enc (v49 : Int) (y : Int × Int × (List Nat)) : Rs := (.agg [.int .i64 y.1, .int .i64 y.2.1, .own 0 0 ((y.2.2).length)], [.row (.f32 y.2.2) 0])
theorem spec_l02Unit_den (v49 : Int) : (den TT (tabD spec_l02Unit_tab) (tabM spec_l02Unit_tab) (spec_l02Unit_LO v49) (codeOf Try.f58) ([.int .i64 v49] ++ List.replicate (Try.f58.ntmps - ([.int .i64 v49] : List DV).length) .undef) []).bind (retD TT Try.f58.results.toList 0) = (spec_l02Unit_T v49).bind fun y => .leaf (spec_l02Unit_enc v49 y) := by kernel_rfl
theorem spec_l02Unit_fn (v49 : Int) (F : Fr) (hm : F.ids.length = 0) (h0 : St F [] F.H0) (hA : DVs.Ok F [] [.int .i64 v49]) {y : Int × Int × (List Nat)} (hy : spec_l02Unit_g v49 = some y) : ∃ H', FnOk Try.prog 58 (DVs.av F [.int .i64 v49]) F.H0 ((spec_l02Unit_enc v49 y).1.av F) H' ∧ St F (spec_l02Unit_enc v49 y).2 H' ∧ (spec_l02Unit_enc v49 y).1.Ok F (spec_l02Unit_enc v49 y).2 :=
  fn_fin tok spec_l02Unit_hO mixed Try.func58 Try.call58 (by kernel_rfl) (LoopsOk_eq (l := [(0, bodyOf Try.f58 0)]) (by kernel_rfl) ⟨spec_l02Unit_l0_ok v49, trivial⟩) (spec_l02Unit_den v49) hy hm h0 hA
noncomputable def spec_l02Unit_F : DFn := fun args L =>
  match args with
  | [.int .i64 v49] =>
    .call (spec_l02Unit_g v49) fun y => .leaf (.agg [.int .i64 y.1, .int .i64 y.2.1, .own (L.length + 0) 0 ((y.2.2).length)], L ++ [.row (.f32 y.2.2) 0])
  | _ => .fail
theorem spec_l02Unit_Fok : COk Try.prog 58 spec_l02Unit_F true := by
  intro F L H args r L' hs ha hr
  unfold spec_l02Unit_F at hr
  split at hr
  · rename_i v49
    simp only [Tree.run] at hr
    obtain ⟨y, hy, hr⟩ := Option.bind_eq_some_iff.1 hr
    simp only [Tree.run, Option.some.injEq, Prod.mk.injEq] at hr
    obtain ⟨rfl, rfl⟩ := hr
    exact call_ok1 hs (fun k => (([] : List AV)[k]?).getD .top) [.int .i64 v49] [.int .i64 v49] (fun F' h0 hi hρ => ⟨by simp [DVs.av, DV.av, BR.av, hρ], spec_l02Unit_fn v49 F' (by rw [hi]; rfl) (st_nil hi) ⟨trivial, trivial⟩ hy⟩) rfl rfl
  · cases hr
/-! spec.l02Own -/
noncomputable def spec_l02Own_LO (v66 : Int) (v67 : Int) (v68 : List Nat) : LOr := fun id e L =>
  match id with
  | _ => .fail
noncomputable def spec_l02Own_tab : List (FuncId × DFn × Bool) := []
theorem spec_l02Own_hO : OrcOk Try.prog (tabD spec_l02Own_tab) (tabM spec_l02Own_tab) := tabD_nil _
noncomputable def spec_l02Own_T (v66 : Int) (v67 : Int) (v68 : List Nat) : Tree (Int × Int) :=
  (.grd (fits (([] : List Nat) ++ v68).length) <|
  .leaf (v66, v67))

noncomputable def spec_l02Own_g (v66 : Int) (v67 : Int) (v68 : List Nat) : Option (Int × Int) := (spec_l02Own_T v66 v67 v68).run
def spec_l02Own_enc (v66 : Int) (v67 : Int) (v68 : List Nat) (y : Int × Int) : Rs := (.agg [.int .i64 y.1, .int .i64 y.2, .own 0 0 ((([] : List Nat) ++ v68).length)], [.row (.f32 (([] : List Nat) ++ v68)) 0])
theorem spec_l02Own_den (v66 : Int) (v67 : Int) (v68 : List Nat) : (den TT (tabD spec_l02Own_tab) (tabM spec_l02Own_tab) (spec_l02Own_LO v66 v67 v68) (codeOf Try.f101) ([.bptr (BR.root 0) [.int .i64 v66, .int .i64 v67, .bslc (BR.root 1) (.f32 v68)]] ++ List.replicate (Try.f101.ntmps - ([.bptr (BR.root 0) [.int .i64 v66, .int .i64 v67, .bslc (BR.root 1) (.f32 v68)]] : List DV).length) .undef) []).bind (retD TT Try.f101.results.toList 0) = (spec_l02Own_T v66 v67 v68).bind fun y => .leaf (spec_l02Own_enc v66 v67 v68 y) := by kernel_rfl
theorem spec_l02Own_fn (v66 : Int) (v67 : Int) (v68 : List Nat) (F : Fr) (hm : F.ids.length = 0) (h0 : St F [] F.H0) (hA : DVs.Ok F [] [.bptr (BR.root 0) [.int .i64 v66, .int .i64 v67, .bslc (BR.root 1) (.f32 v68)]]) {y : Int × Int} (hy : spec_l02Own_g v66 v67 v68 = some y) : ∃ H', FnOk Try.prog 101 (DVs.av F [.bptr (BR.root 0) [.int .i64 v66, .int .i64 v67, .bslc (BR.root 1) (.f32 v68)]]) F.H0 ((spec_l02Own_enc v66 v67 v68 y).1.av F) H' ∧ St F (spec_l02Own_enc v66 v67 v68 y).2 H' ∧ (spec_l02Own_enc v66 v67 v68 y).1.Ok F (spec_l02Own_enc v66 v67 v68 y).2 :=
  fn_fin tok spec_l02Own_hO mixed Try.func101 Try.call101 (by kernel_rfl) (LoopsOk_eq (l := []) (by kernel_rfl) trivial) (spec_l02Own_den v66 v67 v68) hy hm h0 hA
noncomputable def spec_l02Own_F : DFn := fun args L =>
  match args with
  | [a1] =>
    optT (cellsOf L 3 a1) fun cs0 =>
    (match cs0 with
    | [.int .i64 v66, .int .i64 v67, a2] =>
    optT (rowF32 L a2) fun v68 =>
    .call (spec_l02Own_g v66 v67 v68) fun y => .leaf (.agg [.int .i64 y.1, .int .i64 y.2, .own (L.length + 0) 0 ((([] : List Nat) ++ v68).length)], L ++ [.row (.f32 (([] : List Nat) ++ v68)) 0])
    | _ => .fail)
  | _ => .fail
theorem spec_l02Own_Fok : COk Try.prog 101 spec_l02Own_F true := by
  intro F L H args r L' hs ha hr
  unfold spec_l02Own_F at hr
  split at hr
  · rename_i a1
    obtain ⟨cs0, hcp0, hr⟩ := optT_run hr
    split at hr
    · rename_i v66 v67 a2
      obtain ⟨v68, hv68, hr⟩ := optT_run hr
      simp only [Tree.run] at hr
      obtain ⟨y, hy, hr⟩ := Option.bind_eq_some_iff.1 hr
      simp only [Tree.run, Option.some.injEq, Prod.mk.injEq] at hr
      obtain ⟨rfl, rfl⟩ := hr
      exact call_ok1 hs (fun k => (([a1.av F, a2.av F] : List AV)[k]?).getD .top) [a1] [.bptr (BR.root 0) [.int .i64 v66, .int .i64 v67, .bslc (BR.root 1) (.f32 v68)]] (fun F' h0 hi hρ => ⟨by simp [DVs.av, DV.av, BR.av, hρ], spec_l02Own_fn v66 v67 v68 F' (by rw [hi]; rfl) (st_nil hi) ⟨bptr_ok hi (by rw [h0]; simpa [DVs.av, DV.av, BR.av, hρ] using (cellsOf_ok hs (DVs.okAt ha 0 rfl) hcp0).1) ⟨trivial, trivial, bslc_ok hi (by rw [h0, hρ]; exact rowF32_ok hs (DVs.okAt (cellsOf_ok hs (DVs.okAt ha 0 rfl) hcp0).2 2 rfl) hv68), trivial⟩, trivial⟩ hy⟩) rfl rfl
    · cases hr
  · cases hr
/-! spec.l02Blank -/
noncomputable def spec_l02Blank_LO (v82 : Int) (v83 : Int) : LOr := fun id e L =>
  match id with
  | _ => .fail
noncomputable def spec_l02Blank_tab : List (FuncId × DFn × Bool) := []
theorem spec_l02Blank_hO : OrcOk Try.prog (tabD spec_l02Blank_tab) (tabM spec_l02Blank_tab) := tabD_nil _
noncomputable def spec_l02Blank_T (v82 : Int) (v83 : Int) : Tree (Int × Int) :=
  .leaf (v82, v83)

noncomputable def spec_l02Blank_g (v82 : Int) (v83 : Int) : Option (Int × Int) := (spec_l02Blank_T v82 v83).run
def spec_l02Blank_enc (v82 : Int) (v83 : Int) (y : Int × Int) : Rs := (.agg [.int .i64 y.1, .int .i64 y.2, .own 0 0 ((([] : List Nat)).length)], [.row (.f32 ([] : List Nat)) 0])
theorem spec_l02Blank_den (v82 : Int) (v83 : Int) : (den TT (tabD spec_l02Blank_tab) (tabM spec_l02Blank_tab) (spec_l02Blank_LO v82 v83) (codeOf Try.f139) ([.int .i64 v82, .int .i64 v83] ++ List.replicate (Try.f139.ntmps - ([.int .i64 v82, .int .i64 v83] : List DV).length) .undef) []).bind (retD TT Try.f139.results.toList 0) = (spec_l02Blank_T v82 v83).bind fun y => .leaf (spec_l02Blank_enc v82 v83 y) := by kernel_rfl
theorem spec_l02Blank_fn (v82 : Int) (v83 : Int) (F : Fr) (hm : F.ids.length = 0) (h0 : St F [] F.H0) (hA : DVs.Ok F [] [.int .i64 v82, .int .i64 v83]) {y : Int × Int} (hy : spec_l02Blank_g v82 v83 = some y) : ∃ H', FnOk Try.prog 139 (DVs.av F [.int .i64 v82, .int .i64 v83]) F.H0 ((spec_l02Blank_enc v82 v83 y).1.av F) H' ∧ St F (spec_l02Blank_enc v82 v83 y).2 H' ∧ (spec_l02Blank_enc v82 v83 y).1.Ok F (spec_l02Blank_enc v82 v83 y).2 :=
  fn_fin tok spec_l02Blank_hO mixed Try.func139 Try.call139 (by kernel_rfl) (LoopsOk_eq (l := []) (by kernel_rfl) trivial) (spec_l02Blank_den v82 v83) hy hm h0 hA
def spec_l02Blank_v (v82 : Int) (v83 : Int) : Int × Int :=
  (v82, v83)
theorem spec_l02Blank_tot (v82 : Int) (v83 : Int) : spec_l02Blank_g v82 v83 = some (spec_l02Blank_v v82 v83) := by
  unfold spec_l02Blank_g spec_l02Blank_T spec_l02Blank_v
  simp only [Tree.run]
  repeat' (first | rfl | split)
noncomputable def spec_l02Blank_F : DFn := fun args L =>
  match args with
  | [.int .i64 v82, .int .i64 v83] =>
    .leaf (.agg [.int .i64 ((spec_l02Blank_v v82 v83).1), .int .i64 ((spec_l02Blank_v v82 v83).2), .own (L.length + 0) 0 ((([] : List Nat)).length)], L ++ [.row (.f32 ([] : List Nat)) 0])
  | _ => .fail
theorem spec_l02Blank_Fok : COk Try.prog 139 spec_l02Blank_F true := by
  intro F L H args r L' hs ha hr
  unfold spec_l02Blank_F at hr
  split at hr
  · rename_i v82 v83
    have hy := spec_l02Blank_tot v82 v83
    generalize spec_l02Blank_v v82 v83 = y at hy hr
    simp only [Tree.run, Option.some.injEq, Prod.mk.injEq] at hr
    obtain ⟨rfl, rfl⟩ := hr
    exact call_ok1 hs (fun k => (([] : List AV)[k]?).getD .top) [.int .i64 v82, .int .i64 v83] [.int .i64 v82, .int .i64 v83] (fun F' h0 hi hρ => ⟨by simp [DVs.av, DV.av, BR.av, hρ], spec_l02Blank_fn v82 v83 F' (by rw [hi]; rfl) (st_nil hi) ⟨trivial, trivial, trivial⟩ hy⟩) rfl rfl
  · cases hr
/-! spec.l02At -/
noncomputable def spec_l02At_LO (v88 : Int) (v89 : Int) (v90 : List Nat) (v91 : Int) (v92 : Int) : LOr := fun id e L =>
  match id with
  | _ => .fail
noncomputable def spec_l02At_tab : List (FuncId × DFn × Bool) := []
theorem spec_l02At_hO : OrcOk Try.prog (tabD spec_l02At_tab) (tabM spec_l02At_tab) := tabD_nil _
noncomputable def spec_l02At_T (v89 : Int) (v90 : List Nat) (v91 : Int) (v92 : Int) : Tree (Nat) :=
  (.grd (inb (IntKind.i64.wrap ((IntKind.i64.wrap (v91 * v89)) + v92)) v90.length) <|
  .leaf (nth v90 (Int.toNat (IntKind.i64.wrap ((IntKind.i64.wrap (v91 * v89)) + v92)))))

noncomputable def spec_l02At_g (v89 : Int) (v90 : List Nat) (v91 : Int) (v92 : Int) : Option (Nat) := (spec_l02At_T v89 v90 v91 v92).run
def spec_l02At_enc (v88 : Int) (v89 : Int) (v90 : List Nat) (v91 : Int) (v92 : Int) (y : Nat) : Rs := (.flt .f32 y, [])
theorem spec_l02At_den (v88 : Int) (v89 : Int) (v90 : List Nat) (v91 : Int) (v92 : Int) : (den TT (tabD spec_l02At_tab) (tabM spec_l02At_tab) (spec_l02At_LO v88 v89 v90 v91 v92) (codeOf Try.f59) ([.bptr (BR.root 0) [.int .i64 v88, .int .i64 v89, .bslc (BR.root 1) (.f32 v90)], .int .i64 v91, .int .i64 v92] ++ List.replicate (Try.f59.ntmps - ([.bptr (BR.root 0) [.int .i64 v88, .int .i64 v89, .bslc (BR.root 1) (.f32 v90)], .int .i64 v91, .int .i64 v92] : List DV).length) .undef) []).bind (retD TT Try.f59.results.toList 0) = (spec_l02At_T v89 v90 v91 v92).bind fun y => .leaf (spec_l02At_enc v88 v89 v90 v91 v92 y) := by kernel_rfl
theorem spec_l02At_fn (v88 : Int) (v89 : Int) (v90 : List Nat) (v91 : Int) (v92 : Int) (F : Fr) (hm : F.ids.length = 0) (h0 : St F [] F.H0) (hA : DVs.Ok F [] [.bptr (BR.root 0) [.int .i64 v88, .int .i64 v89, .bslc (BR.root 1) (.f32 v90)], .int .i64 v91, .int .i64 v92]) {y : Nat} (hy : spec_l02At_g v89 v90 v91 v92 = some y) : ∃ H', FnOk Try.prog 59 (DVs.av F [.bptr (BR.root 0) [.int .i64 v88, .int .i64 v89, .bslc (BR.root 1) (.f32 v90)], .int .i64 v91, .int .i64 v92]) F.H0 ((spec_l02At_enc v88 v89 v90 v91 v92 y).1.av F) H' ∧ St F (spec_l02At_enc v88 v89 v90 v91 v92 y).2 H' ∧ (spec_l02At_enc v88 v89 v90 v91 v92 y).1.Ok F (spec_l02At_enc v88 v89 v90 v91 v92 y).2 :=
  fn_fin tok spec_l02At_hO mixed Try.func59 Try.call59 (by kernel_rfl) (LoopsOk_eq (l := []) (by kernel_rfl) trivial) (spec_l02At_den v88 v89 v90 v91 v92) hy hm h0 hA
noncomputable def spec_l02At_F : DFn := fun args L =>
  match args with
  | [a1, .int .i64 v91, .int .i64 v92] =>
    optT (cellsOf L 3 a1) fun cs0 =>
    (match cs0 with
    | [.int .i64 v88, .int .i64 v89, a2] =>
    optT (rowF32 L a2) fun v90 =>
    .call (spec_l02At_g v89 v90 v91 v92) fun y => .leaf (.flt .f32 y, L)
    | _ => .fail)
  | _ => .fail
theorem spec_l02At_Fok : COk Try.prog 59 spec_l02At_F true := by
  intro F L H args r L' hs ha hr
  unfold spec_l02At_F at hr
  split at hr
  · rename_i a1 v91 v92
    obtain ⟨cs0, hcp0, hr⟩ := optT_run hr
    split at hr
    · rename_i v88 v89 a2
      obtain ⟨v90, hv90, hr⟩ := optT_run hr
      simp only [Tree.run] at hr
      obtain ⟨y, hy, hr⟩ := Option.bind_eq_some_iff.1 hr
      simp only [Tree.run, Option.some.injEq, Prod.mk.injEq] at hr
      obtain ⟨rfl, rfl⟩ := hr
      exact call_ok0 hs (fun k => (([a1.av F, a2.av F] : List AV)[k]?).getD .top) [a1, .int .i64 v91, .int .i64 v92] [.bptr (BR.root 0) [.int .i64 v88, .int .i64 v89, .bslc (BR.root 1) (.f32 v90)], .int .i64 v91, .int .i64 v92] (fun F' h0 hi hρ => ⟨by simp [DVs.av, DV.av, BR.av, hρ], spec_l02At_fn v88 v89 v90 v91 v92 F' (by rw [hi]; rfl) (st_nil hi) ⟨bptr_ok hi (by rw [h0]; simpa [DVs.av, DV.av, BR.av, hρ] using (cellsOf_ok hs (DVs.okAt ha 0 rfl) hcp0).1) ⟨trivial, trivial, bslc_ok hi (by rw [h0, hρ]; exact rowF32_ok hs (DVs.okAt (cellsOf_ok hs (DVs.okAt ha 0 rfl) hcp0).2 2 rfl) hv90), trivial⟩, trivial, trivial, trivial⟩ hy⟩) rfl
    · cases hr
  · cases hr
/-! spec.l02Mul -/
noncomputable def spec_l02Mul_l2_T (v77 : Int) (v78 : List Nat) (v80 : Int) (v81 : List Nat) (v141 : Int) (v144 : List Nat) (s : Nat × Int) : Tree ((Nat × Int) ⊕ (Nat)) :=
  (.br (decide (s.2 < v77)) (
   (.grd (!decide (v80 = 0)) <|
   (.call (spec_l02At_g v77 v78 (IntKind.i64.wrap (Int.tdiv v141 v80)) s.2) fun v145 =>
   (.grd (!decide (v80 = 0)) <|
   (.call (spec_l02At_g v80 v81 s.2 (Int.tmod v141 v80)) fun v146 =>
   .leaf (.inl (fadd .f32 s.1 (fmul .f32 v145 v146), IntKind.i64.wrap (s.2 + (1 : Int))))))))
  ) (
   .leaf (.inr s.1)
  ))

noncomputable def spec_l02Mul_l2_g (v77 : Int) (v78 : List Nat) (v80 : Int) (v81 : List Nat) (v141 : Int) (v144 : List Nat) (s0 : Nat × Int) : Option (Nat) := whileM (fun s => (spec_l02Mul_l2_T v77 v78 v80 v81 v141 v144 s).run) s0
def spec_l02Mul_l2_E (v76 : Int) (v77 : Int) (v78 : List Nat) (v79 : Int) (v80 : Int) (v81 : List Nat) (v141 : Int) (v144 : List Nat) (s : Nat × Int) : Sd := ([.bptr (BR.root 0) [.int .i64 v76, .int .i64 v77, .bslc (BR.root 1) (.f32 v78)], .bptr (BR.root 2) [.int .i64 v79, .int .i64 v80, .bslc (BR.root 3) (.f32 v81)], .top, .top, .ptr 0 (0 : Nat) 0 (3 : Nat), .ptr 1 (0 : Nat) 0 (3 : Nat), .int .i64 v141, .flt .f32 s.1, .int .i64 s.2, .top, .top, .top, .top, .top, .top, .top, .top, .top, .top, .top, .top, .top, .top, .top, .top, .top, .top, .top, .top, .top, .top, .top, .top, .top, .top, .top, .top, .top, .top, .top, .top, .top, .top, .top, .top, .top, .top, .top, .top, .top, .top, .top, .top, .top, .top, .top, .top, .top, .top, .top, .top, .top, .top, .top, .top, .top, .top], [.gen [.int .i64 (0 : Int), .int .i64 (0 : Int), .nilslc] false 0, .gen [.int .i64 ((spec_l02Blank_v v76 v80).1), .int .i64 ((spec_l02Blank_v v76 v80).2), .own 2 0 ((v144).length)] false 0, .row (.f32 v144) 0])
def spec_l02Mul_l2_X (v76 : Int) (v77 : Int) (v78 : List Nat) (v79 : Int) (v80 : Int) (v81 : List Nat) (v141 : Int) (v144 : List Nat) (x : Nat) : Out := (.normal, [.bptr (BR.root 0) [.int .i64 v76, .int .i64 v77, .bslc (BR.root 1) (.f32 v78)], .bptr (BR.root 2) [.int .i64 v79, .int .i64 v80, .bslc (BR.root 3) (.f32 v81)], .top, .top, .ptr 0 (0 : Nat) 0 (3 : Nat), .ptr 1 (0 : Nat) 0 (3 : Nat), .int .i64 v141, .flt .f32 x, .top, .top, .top, .top, .top, .top, .top, .top, .top, .top, .top, .top, .top, .top, .top, .top, .top, .top, .top, .top, .top, .top, .top, .top, .top, .top, .top, .top, .top, .top, .top, .top, .top, .top, .top, .top, .top, .top, .top, .top, .top, .top, .top, .top, .top, .top, .top, .top, .top, .top, .top, .top, .top, .top, .top, .top, .top, .top, .top], [.gen [.int .i64 (0 : Int), .int .i64 (0 : Int), .nilslc] false 0, .gen [.int .i64 ((spec_l02Blank_v v76 v80).1), .int .i64 ((spec_l02Blank_v v76 v80).2), .own 2 0 ((v144).length)] false 0, .row (.f32 v144) 0])
def spec_l02Mul_l2_kill : List Nat := [0, 0, 1, 1, 0, 0, 0, 0, 0, 1, 1, 1, 1, 1, 1, 1, 1, 1, 1, 1, 1, 1, 1, 1, 1, 1, 1, 1, 1, 1, 1, 1, 1, 1, 1, 1, 1, 1, 1, 1, 1, 1, 1, 1, 1, 1, 1, 1, 1, 1, 1, 1, 1, 1, 1, 1, 1, 1, 1, 1, 1, 1, 1, 1, 1, 1, 1]
def spec_l02Mul_l2_nx : Exit → List Nat
  | .exit 0 => [1, 1, 1, 1, 0, 0, 1, 1, 1, 1, 1, 1, 1, 1, 1, 1, 1, 1, 1, 1, 1, 1, 1, 1, 1, 1, 1, 1, 1, 1, 1, 1, 1, 1, 1, 1, 1, 1, 1, 1, 1, 1, 1, 1, 1, 1, 1, 1, 1, 1, 1, 1, 1, 1, 1, 1, 1, 1, 1, 1, 1, 1, 1, 1, 1, 1, 1]
  | .exit 1 => [0, 0, 1, 1, 0, 0, 0, 1, 1, 1, 1, 1, 1, 1, 1, 1, 1, 1, 1, 1, 1, 1, 1, 1, 1, 1, 1, 1, 1, 1, 1, 1, 1, 1, 1, 1, 1, 1, 1, 1, 1, 1, 1, 1, 1, 1, 1, 1, 1, 1, 1, 1, 1, 1, 1, 1, 1, 1, 1, 1, 1, 1, 1, 1, 1, 1, 1]
  | .exit 2 => [0, 0, 1, 1, 0, 0, 0, 0, 1, 1, 1, 1, 1, 1, 1, 1, 1, 1, 1, 1, 1, 1, 1, 1, 1, 1, 1, 1, 1, 1, 1, 1, 1, 1, 1, 1, 1, 1, 1, 1, 1, 1, 1, 1, 1, 1, 1, 1, 1, 1, 1, 1, 1, 1, 1, 1, 1, 1, 1, 1, 1, 1, 1, 1, 1, 1, 1]
  | .ret => [1, 1, 1, 1, 0, 1, 1, 1, 1, 1, 1, 1, 1, 1, 1, 1, 1, 1, 1, 1, 1, 1, 1, 1, 1, 1, 1, 1, 1, 1, 1, 1, 1, 1, 1, 1, 1, 1, 1, 1, 1, 1, 1, 1, 1, 1, 1, 1, 1, 1, 1, 1, 1, 1, 1, 1, 1, 1, 1, 1, 1, 1, 1, 1, 1, 1, 1]
  | _ => []
noncomputable def spec_l02Mul_l0_T (v76 : Int) (v77 : Int) (v78 : List Nat) (v79 : Int) (v80 : Int) (v81 : List Nat) (s : Int × (List Nat)) : Tree ((Int × (List Nat)) ⊕ ((List Nat))) :=
  (.br (decide (s.1 < IntKind.i64.wrap (v76 * v80))) (
   (.need (some (spec_l02Mul_l2_E v76 v77 v78 v79 v80 v81 s.1 s.2 ((0 : Nat), (0 : Int))) = some (spec_l02Mul_l2_E v76 v77 v78 v79 v80 v81 s.1 s.2 ((0 : Nat), (0 : Int)))) <|
   (.call (spec_l02Mul_l2_g v77 v78 v80 v81 s.1 s.2 ((0 : Nat), (0 : Int))) fun v147 =>
   (.grd (fits (s.2 ++ ([v147] : List Nat)).length) <|
   .leaf (.inl (IntKind.i64.wrap (s.1 + (1 : Int)), s.2 ++ ([v147] : List Nat))))))
  ) (
   .leaf (.inr s.2)
  ))

noncomputable def spec_l02Mul_l0_g (v76 : Int) (v77 : Int) (v78 : List Nat) (v79 : Int) (v80 : Int) (v81 : List Nat) (s0 : Int × (List Nat)) : Option ((List Nat)) := whileM (fun s => (spec_l02Mul_l0_T v76 v77 v78 v79 v80 v81 s).run) s0
def spec_l02Mul_l0_E (v76 : Int) (v77 : Int) (v78 : List Nat) (v79 : Int) (v80 : Int) (v81 : List Nat) (s : Int × (List Nat)) : Sd := ([.bptr (BR.root 0) [.int .i64 v76, .int .i64 v77, .bslc (BR.root 1) (.f32 v78)], .bptr (BR.root 2) [.int .i64 v79, .int .i64 v80, .bslc (BR.root 3) (.f32 v81)], .top, .top, .ptr 0 (0 : Nat) 0 (3 : Nat), .ptr 1 (0 : Nat) 0 (3 : Nat), .int .i64 s.1, .top, .top, .top, .top, .top, .top, .top, .top, .top, .top, .top, .top, .top, .top, .top, .top, .top, .top, .top, .top, .top, .top, .top, .top, .top, .top, .top, .top, .top, .top, .top, .top, .top, .top, .top, .top, .top, .top, .top, .top, .top, .top, .top, .top, .top, .top, .top, .top, .top, .top, .top, .top, .top, .top, .top, .top, .top, .top, .top, .top], [.gen [.int .i64 (0 : Int), .int .i64 (0 : Int), .nilslc] false 0, .gen [.int .i64 ((spec_l02Blank_v v76 v80).1), .int .i64 ((spec_l02Blank_v v76 v80).2), .own 2 0 ((s.2).length)] false 0, .row (.f32 s.2) 0])
def spec_l02Mul_l0_X (v76 : Int) (v77 : Int) (v78 : List Nat) (v79 : Int) (v80 : Int) (v81 : List Nat) (x : (List Nat)) : Out := (.normal, [.top, .top, .top, .top, .ptr 0 (0 : Nat) 0 (3 : Nat), .ptr 1 (0 : Nat) 0 (3 : Nat), .top, .top, .top, .top, .top, .top, .top, .top, .top, .top, .top, .top, .top, .top, .top, .top, .top, .top, .top, .top, .top, .top, .top, .top, .top, .top, .top, .top, .top, .top, .top, .top, .top, .top, .top, .top, .top, .top, .top, .top, .top, .top, .top, .top, .top, .top, .top, .top, .top, .top, .top, .top, .top, .top, .top, .top, .top, .top, .top, .top, .top], [.gen [.int .i64 (0 : Int), .int .i64 (0 : Int), .nilslc] false 0, .gen [.int .i64 ((spec_l02Blank_v v76 v80).1), .int .i64 ((spec_l02Blank_v v76 v80).2), .own 2 0 ((x).length)] false 0, .row (.f32 x) 0])
def spec_l02Mul_l0_kill : List Nat := [0, 0, 1, 1, 0, 0, 0, 1, 1, 1, 1, 1, 1, 1, 1, 1, 1, 1, 1, 1, 1, 1, 1, 1, 1, 1, 1, 1, 1, 1, 1, 1, 1, 1, 1, 1, 1, 1, 1, 1, 1, 1, 1, 1, 1, 1, 1, 1, 1, 1, 1, 1, 1, 1, 1, 1, 1, 1, 1, 1, 1, 1, 1, 1, 1, 1, 1]
def spec_l02Mul_l0_nx : Exit → List Nat
  | .exit 0 => [1, 1, 1, 1, 0, 0, 1, 1, 1, 1, 1, 1, 1, 1, 1, 1, 1, 1, 1, 1, 1, 1, 1, 1, 1, 1, 1, 1, 1, 1, 1, 1, 1, 1, 1, 1, 1, 1, 1, 1, 1, 1, 1, 1, 1, 1, 1, 1, 1, 1, 1, 1, 1, 1, 1, 1, 1, 1, 1, 1, 1, 1, 1, 1, 1, 1, 1]
  | .ret => [1, 1, 1, 1, 0, 1, 1, 1, 1, 1, 1, 1, 1, 1, 1, 1, 1, 1, 1, 1, 1, 1, 1, 1, 1, 1, 1, 1, 1, 1, 1, 1, 1, 1, 1, 1, 1, 1, 1, 1, 1, 1, 1, 1, 1, 1, 1, 1, 1, 1, 1, 1, 1, 1, 1, 1, 1, 1, 1, 1, 1, 1, 1, 1, 1, 1, 1]
  | _ => []
noncomputable def spec_l02Mul_LO (v76 : Int) (v77 : Int) (v78 : List Nat) (v79 : Int) (v80 : Int) (v81 : List Nat) : LOr := fun id e L =>
  match id with
  | 2 => .need (normA 0 spec_l02Mul_l2_kill e L = some (spec_l02Mul_l2_E v76 v77 v78 v79 v80 v81 (gI (vAt e 6)) (gRF L (cAt L (vAt e 5) 2)) ((gF (vAt e 7)), (gI (vAt e 8))))) (.call (spec_l02Mul_l2_g v77 v78 v80 v81 (gI (vAt e 6)) (gRF L (cAt L (vAt e 5) 2)) ((gF (vAt e 7)), (gI (vAt e 8)))) fun x => .leaf (spec_l02Mul_l2_X v76 v77 v78 v79 v80 v81 (gI (vAt e 6)) (gRF L (cAt L (vAt e 5) 2)) x))
  | 0 => .need (normA 0 spec_l02Mul_l0_kill e L = some (spec_l02Mul_l0_E v76 v77 v78 v79 v80 v81 ((gI (vAt e 6)), (gRF L (cAt L (vAt e 5) 2))))) (.call (spec_l02Mul_l0_g v76 v77 v78 v79 v80 v81 ((gI (vAt e 6)), (gRF L (cAt L (vAt e 5) 2)))) fun x => .leaf (spec_l02Mul_l0_X v76 v77 v78 v79 v80 v81 x))
  | _ => .fail
noncomputable def spec_l02Mul_tab : List (FuncId × DFn × Bool) := [(139, spec_l02Blank_F, true), (59, spec_l02At_F, true)]
theorem spec_l02Mul_hO : OrcOk Try.prog (tabD spec_l02Mul_tab) (tabM spec_l02Mul_tab) := tabD_cons spec_l02Blank_Fok (tabD_cons spec_l02At_Fok (tabD_nil _))
theorem spec_l02Mul_l2_be (v76 : Int) (v77 : Int) (v78 : List Nat) (v79 : Int) (v80 : Int) (v81 : List Nat) (v141 : Int) (v144 : List Nat) (s : Nat × Int) : bodyT TT (tabD spec_l02Mul_tab) (tabM spec_l02Mul_tab) (spec_l02Mul_LO v76 v77 v78 v79 v80 v81) 0 spec_l02Mul_l2_kill spec_l02Mul_l2_nx (bodyOf Try.f72 2) 2 (spec_l02Mul_l2_E v76 v77 v78 v79 v80 v81 v141 v144 s) = (spec_l02Mul_l2_T v77 v78 v80 v81 v141 v144 s).bind fun y => .leaf (outS (spec_l02Mul_l2_E v76 v77 v78 v79 v80 v81 v141 v144) (spec_l02Mul_l2_X v76 v77 v78 v79 v80 v81 v141 v144) y) := by kernel_rfl
theorem spec_l02Mul_l2_ok (v76 : Int) (v77 : Int) (v78 : List Nat) (v79 : Int) (v80 : Int) (v81 : List Nat) : LSound Try.prog 0 (spec_l02Mul_LO v76 v77 v78 v79 v80 v81) 2 (bodyOf Try.f72 2) := by
  intro e L out h
  exact lo_ok (E := spec_l02Mul_l2_E v76 v77 v78 v79 v80 v81 (gI (vAt e 6)) (gRF L (cAt L (vAt e 5) 2))) (gT := spec_l02Mul_l2_T v77 v78 v80 v81 (gI (vAt e 6)) (gRF L (cAt L (vAt e 5) 2))) (X := spec_l02Mul_l2_X v76 v77 v78 v79 v80 v81 (gI (vAt e 6)) (gRF L (cAt L (vAt e 5) 2))) (s0 := ((gF (vAt e 7)), (gI (vAt e 8)))) tok spec_l02Mul_hO mixed (LoopsOk_eq (l := []) (by kernel_rfl) trivial) (spec_l02Mul_l2_be v76 v77 v78 v79 v80 v81 (gI (vAt e 6)) (gRF L (cAt L (vAt e 5) 2))) rfl (by intro x; rfl) h
theorem spec_l02Mul_l0_be (v76 : Int) (v77 : Int) (v78 : List Nat) (v79 : Int) (v80 : Int) (v81 : List Nat) (s : Int × (List Nat)) : bodyT TT (tabD spec_l02Mul_tab) (tabM spec_l02Mul_tab) (spec_l02Mul_LO v76 v77 v78 v79 v80 v81) 0 spec_l02Mul_l0_kill spec_l02Mul_l0_nx (bodyOf Try.f72 0) 0 (spec_l02Mul_l0_E v76 v77 v78 v79 v80 v81 s) = (spec_l02Mul_l0_T v76 v77 v78 v79 v80 v81 s).bind fun y => .leaf (outS (spec_l02Mul_l0_E v76 v77 v78 v79 v80 v81) (spec_l02Mul_l0_X v76 v77 v78 v79 v80 v81) y) := by kernel_rfl
theorem spec_l02Mul_l0_ok (v76 : Int) (v77 : Int) (v78 : List Nat) (v79 : Int) (v80 : Int) (v81 : List Nat) : LSound Try.prog 0 (spec_l02Mul_LO v76 v77 v78 v79 v80 v81) 0 (bodyOf Try.f72 0) := by
  intro e L out h
  exact lo_ok (E := spec_l02Mul_l0_E v76 v77 v78 v79 v80 v81) (gT := spec_l02Mul_l0_T v76 v77 v78 v79 v80 v81) (X := spec_l02Mul_l0_X v76 v77 v78 v79 v80 v81) (s0 := ((gI (vAt e 6)), (gRF L (cAt L (vAt e 5) 2)))) tok spec_l02Mul_hO mixed (LoopsOk_eq (l := [(2, bodyOf Try.f72 2)]) (by kernel_rfl) ⟨spec_l02Mul_l2_ok v76 v77 v78 v79 v80 v81, trivial⟩) (spec_l02Mul_l0_be v76 v77 v78 v79 v80 v81) rfl (by intro x; rfl) h
noncomputable def spec_l02Mul_T (v76 : Int) (v77 : Int) (v78 : List Nat) (v79 : Int) (v80 : Int) (v81 : List Nat) : Tree (Int × Int × (List Nat)) :=
  (.need (some (spec_l02Mul_l0_E v76 v77 v78 v79 v80 v81 ((0 : Int), ([] : List Nat))) = some (spec_l02Mul_l0_E v76 v77 v78 v79 v80 v81 ((0 : Int), ([] : List Nat)))) <|
  (.call (spec_l02Mul_l0_g v76 v77 v78 v79 v80 v81 ((0 : Int), ([] : List Nat))) fun v148 =>
  .leaf ((spec_l02Blank_v v76 v80).1, (spec_l02Blank_v v76 v80).2, v148)))

noncomputable def spec_l02Mul_g (v76 : Int) (v77 : Int) (v78 : List Nat) (v79 : Int) (v80 : Int) (v81 : List Nat) : Option (Int × Int × (List Nat)) := (spec_l02Mul_T v76 v77 v78 v79 v80 v81).run
def spec_l02Mul_enc (v76 : Int) (v77 : Int) (v78 : List Nat) (v79 : Int) (v80 : Int) (v81 : List Nat) (y : Int × Int × (List Nat)) : Rs := (.agg [.int .i64 y.1, .int .i64 y.2.1, .own 0 0 ((y.2.2).length)], [.row (.f32 y.2.2) 0])
theorem spec_l02Mul_den (v76 : Int) (v77 : Int) (v78 : List Nat) (v79 : Int) (v80 : Int) (v81 : List Nat) : (den TT (tabD spec_l02Mul_tab) (tabM spec_l02Mul_tab) (spec_l02Mul_LO v76 v77 v78 v79 v80 v81) (codeOf Try.f72) ([.bptr (BR.root 0) [.int .i64 v76, .int .i64 v77, .bslc (BR.root 1) (.f32 v78)], .bptr (BR.root 2) [.int .i64 v79, .int .i64 v80, .bslc (BR.root 3) (.f32 v81)]] ++ List.replicate (Try.f72.ntmps - ([.bptr (BR.root 0) [.int .i64 v76, .int .i64 v77, .bslc (BR.root 1) (.f32 v78)], .bptr (BR.root 2) [.int .i64 v79, .int .i64 v80, .bslc (BR.root 3) (.f32 v81)]] : List DV).length) .undef) []).bind (retD TT Try.f72.results.toList 0) = (spec_l02Mul_T v76 v77 v78 v79 v80 v81).bind fun y => .leaf (spec_l02Mul_enc v76 v77 v78 v79 v80 v81 y) := by kernel_rfl
theorem spec_l02Mul_fn (v76 : Int) (v77 : Int) (v78 : List Nat) (v79 : Int) (v80 : Int) (v81 : List Nat) (F : Fr) (hm : F.ids.length = 0) (h0 : St F [] F.H0) (hA : DVs.Ok F [] [.bptr (BR.root 0) [.int .i64 v76, .int .i64 v77, .bslc (BR.root 1) (.f32 v78)], .bptr (BR.root 2) [.int .i64 v79, .int .i64 v80, .bslc (BR.root 3) (.f32 v81)]]) {y : Int × Int × (List Nat)} (hy : spec_l02Mul_g v76 v77 v78 v79 v80 v81 = some y) : ∃ H', FnOk Try.prog 72 (DVs.av F [.bptr (BR.root 0) [.int .i64 v76, .int .i64 v77, .bslc (BR.root 1) (.f32 v78)], .bptr (BR.root 2) [.int .i64 v79, .int .i64 v80, .bslc (BR.root 3) (.f32 v81)]]) F.H0 ((spec_l02Mul_enc v76 v77 v78 v79 v80 v81 y).1.av F) H' ∧ St F (spec_l02Mul_enc v76 v77 v78 v79 v80 v81 y).2 H' ∧ (spec_l02Mul_enc v76 v77 v78 v79 v80 v81 y).1.Ok F (spec_l02Mul_enc v76 v77 v78 v79 v80 v81 y).2 :=
  fn_fin tok spec_l02Mul_hO mixed Try.func72 Try.call72 (by kernel_rfl) (LoopsOk_eq (l := [(0, bodyOf Try.f72 0)]) (by kernel_rfl) ⟨spec_l02Mul_l0_ok v76 v77 v78 v79 v80 v81, trivial⟩) (spec_l02Mul_den v76 v77 v78 v79 v80 v81) hy hm h0 hA
noncomputable def spec_l02Mul_F : DFn := fun args L =>
  match args with
  | [a1, a3] =>
    optT (cellsOf L 3 a1) fun cs0 =>
    (match cs0 with
    | [.int .i64 v76, .int .i64 v77, a2] =>
    optT (rowF32 L a2) fun v78 =>
    optT (cellsOf L 3 a3) fun cs2 =>
    (match cs2 with
    | [.int .i64 v79, .int .i64 v80, a4] =>
    optT (rowF32 L a4) fun v81 =>
    .call (spec_l02Mul_g v76 v77 v78 v79 v80 v81) fun y => .leaf (.agg [.int .i64 y.1, .int .i64 y.2.1, .own (L.length + 0) 0 ((y.2.2).length)], L ++ [.row (.f32 y.2.2) 0])
    | _ => .fail)
    | _ => .fail)
  | _ => .fail
theorem spec_l02Mul_Fok : COk Try.prog 72 spec_l02Mul_F true := by
  intro F L H args r L' hs ha hr
  unfold spec_l02Mul_F at hr
  split at hr
  · rename_i a1 a3
    obtain ⟨cs0, hcp0, hr⟩ := optT_run hr
    split at hr
    · rename_i v76 v77 a2
      obtain ⟨v78, hv78, hr⟩ := optT_run hr
      obtain ⟨cs2, hcp2, hr⟩ := optT_run hr
      split at hr
      · rename_i v79 v80 a4
        obtain ⟨v81, hv81, hr⟩ := optT_run hr
        simp only [Tree.run] at hr
        obtain ⟨y, hy, hr⟩ := Option.bind_eq_some_iff.1 hr
        simp only [Tree.run, Option.some.injEq, Prod.mk.injEq] at hr
        obtain ⟨rfl, rfl⟩ := hr
        exact call_ok1 hs (fun k => (([a1.av F, a2.av F, a3.av F, a4.av F] : List AV)[k]?).getD .top) [a1, a3] [.bptr (BR.root 0) [.int .i64 v76, .int .i64 v77, .bslc (BR.root 1) (.f32 v78)], .bptr (BR.root 2) [.int .i64 v79, .int .i64 v80, .bslc (BR.root 3) (.f32 v81)]] (fun F' h0 hi hρ => ⟨by simp [DVs.av, DV.av, BR.av, hρ], spec_l02Mul_fn v76 v77 v78 v79 v80 v81 F' (by rw [hi]; rfl) (st_nil hi) ⟨bptr_ok hi (by rw [h0]; simpa [DVs.av, DV.av, BR.av, hρ] using (cellsOf_ok hs (DVs.okAt ha 0 rfl) hcp0).1) ⟨trivial, trivial, bslc_ok hi (by rw [h0, hρ]; exact rowF32_ok hs (DVs.okAt (cellsOf_ok hs (DVs.okAt ha 0 rfl) hcp0).2 2 rfl) hv78), trivial⟩, bptr_ok hi (by rw [h0]; simpa [DVs.av, DV.av, BR.av, hρ] using (cellsOf_ok hs (DVs.okAt ha 1 rfl) hcp2).1) ⟨trivial, trivial, bslc_ok hi (by rw [h0, hρ]; exact rowF32_ok hs (DVs.okAt (cellsOf_ok hs (DVs.okAt ha 1 rfl) hcp2).2 2 rfl) hv81), trivial⟩, trivial⟩ hy⟩) rfl rfl
      · cases hr
    · cases hr
  · cases hr
/-! spec.PowerMatrix -/
noncomputable def spec_PowerMatrix_l0_T (s : Int × Int × Int × Int × Int × (List Nat) × (List Nat)) : Tree ((Int × Int × Int × Int × Int × (List Nat) × (List Nat)) ⊕ ((Unit) ⊕ (Int × Int × (List Nat)))) :=
  (.br (decide ((0 : Int) < s.1)) (
   (.grd (!decide ((2 : Int) = 0)) <|
   (.br (decide (Int.tmod s.1 (2 : Int) = (1 : Int))) (
    (.call (spec_l02Mul_g s.2.1 s.2.2.1 s.2.2.2.2.2.1 s.2.2.2.1 s.2.2.2.2.1 s.2.2.2.2.2.2) fun v175 =>
    (.call (spec_l02Is_g v175.1 v175.2.1 v175.2.2) fun v176 =>
    (.br (!v176) (
     .leaf (.inr (.inl ()))
    ) (
     (.grd (!decide ((2 : Int) = 0)) <|
     (.br (decide ((0 : Int) < IntKind.i64.wrap (Int.tdiv s.1 (2 : Int)))) (
      (.call (spec_l02Mul_g s.2.2.2.1 s.2.2.2.2.1 s.2.2.2.2.2.2 s.2.2.2.1 s.2.2.2.2.1 s.2.2.2.2.2.2) fun v177 =>
      (.call (spec_l02Is_g v177.1 v177.2.1 v177.2.2) fun v178 =>
      (.br (!v178) (
       .leaf (.inr (.inl ()))
      ) (
       .leaf (.inl (IntKind.i64.wrap (Int.tdiv s.1 (2 : Int)), v175.1, v175.2.1, v177.1, v177.2.1, v175.2.2, v177.2.2))
      ))))
     ) (
      .leaf (.inl (IntKind.i64.wrap (Int.tdiv s.1 (2 : Int)), v175.1, v175.2.1, s.2.2.2.1, s.2.2.2.2.1, v175.2.2, s.2.2.2.2.2.2))
     )))
    ))))
   ) (
    (.grd (!decide ((2 : Int) = 0)) <|
    (.br (decide ((0 : Int) < IntKind.i64.wrap (Int.tdiv s.1 (2 : Int)))) (
     (.call (spec_l02Mul_g s.2.2.2.1 s.2.2.2.2.1 s.2.2.2.2.2.2 s.2.2.2.1 s.2.2.2.2.1 s.2.2.2.2.2.2) fun v179 =>
     (.call (spec_l02Is_g v179.1 v179.2.1 v179.2.2) fun v180 =>
     (.br (!v180) (
      .leaf (.inr (.inl ()))
     ) (
      .leaf (.inl (IntKind.i64.wrap (Int.tdiv s.1 (2 : Int)), s.2.1, s.2.2.1, v179.1, v179.2.1, s.2.2.2.2.2.1, v179.2.2))
     ))))
    ) (
     .leaf (.inl (IntKind.i64.wrap (Int.tdiv s.1 (2 : Int)), s.2.1, s.2.2.1, s.2.2.2.1, s.2.2.2.2.1, s.2.2.2.2.2.1, s.2.2.2.2.2.2))
    )))
   )))
  ) (
   .leaf (.inr (.inr (s.2.1, s.2.2.1, s.2.2.2.2.2.1)))
  ))

noncomputable def spec_PowerMatrix_l0_g (s0 : Int × Int × Int × Int × Int × (List Nat) × (List Nat)) : Option ((Unit) ⊕ (Int × Int × (List Nat))) := whileM (fun s => (spec_PowerMatrix_l0_T s).run) s0
def spec_PowerMatrix_l0_E (v23 : Int) (v24 : Int) (v25 : List Nat) (v26 : Int) (s : Int × Int × Int × Int × Int × (List Nat) × (List Nat)) : Sd := ([.top, .int .i64 s.1, .top, .top, .ptr 0 (0 : Nat) 0 (3 : Nat), .top, .ptr 1 (0 : Nat) 0 (3 : Nat), .ptr 2 (0 : Nat) 0 (3 : Nat), .top, .top, .top, .top, .top, .top, .top, .top, .top, .top, .top, .top, .top, .top, .top, .top, .top, .top, .top, .top, .top, .top, .top, .top, .top, .top, .top, .top, .top, .top], [.gen [.int .i64 (0 : Int), .int .i64 (0 : Int), .nilslc] false 0, .gen [.int .i64 s.2.1, .int .i64 s.2.2.1, .own 3 0 ((s.2.2.2.2.2.1).length)] false 0, .gen [.int .i64 s.2.2.2.1, .int .i64 s.2.2.2.2.1, .own 4 0 ((s.2.2.2.2.2.2).length)] false 0, .row (.f32 s.2.2.2.2.2.1) 0, .row (.f32 s.2.2.2.2.2.2) 0])
def spec_PowerMatrix_l0_X (v23 : Int) (v24 : Int) (v25 : List Nat) (v26 : Int) (x : (Unit) ⊕ (Int × Int × (List Nat))) : Out := (match x with | .inl x => (.ret, [.top, .top, .top, .top, .ptr 0 (0 : Nat) 0 (3 : Nat), .lit false, .top, .top, .top, .top, .top, .top, .top, .top, .top, .top, .top, .top, .top, .top, .top, .top, .top, .top, .top, .top, .top, .top, .top, .top, .top, .top, .top, .top, .top, .top, .top, .top], [.gen [.int .i64 (0 : Int), .int .i64 (0 : Int), .nilslc] false 0]) | .inr x => (.normal, [.top, .top, .top, .top, .ptr 0 (0 : Nat) 0 (3 : Nat), .top, .ptr 1 (0 : Nat) 0 (3 : Nat), .top, .top, .top, .top, .top, .top, .top, .top, .top, .top, .top, .top, .top, .top, .top, .top, .top, .top, .top, .top, .top, .top, .top, .top, .top, .top, .top, .top, .top, .top, .top], [.gen [.int .i64 (0 : Int), .int .i64 (0 : Int), .nilslc] false 0, .gen [.int .i64 x.1, .int .i64 x.2.1, .own 2 0 ((x.2.2).length)] false 0, .row (.f32 x.2.2) 0]))
def spec_PowerMatrix_l0_kill : List Nat := [1, 0, 1, 1, 0, 1, 0, 0, 1, 1, 1, 1, 1, 1, 1, 1, 1, 1, 1, 1, 1, 1, 1, 1, 1, 1, 1, 1, 1, 1, 1, 1, 1, 1, 1, 1, 1, 1]
def spec_PowerMatrix_l0_nx : Exit → List Nat
  | .exit 0 => [1, 1, 1, 1, 0, 1, 0, 1, 1, 1, 1, 1, 1, 1, 1, 1, 1, 1, 1, 1, 1, 1, 1, 1, 1, 1, 1, 1, 1, 1, 1, 1, 1, 1, 1, 1, 1, 1]
  | .ret => [1, 1, 1, 1, 0, 0, 1, 1, 1, 1, 1, 1, 1, 1, 1, 1, 1, 1, 1, 1, 1, 1, 1, 1, 1, 1, 1, 1, 1, 1, 1, 1, 1, 1, 1, 1, 1, 1]
  | _ => []
noncomputable def spec_PowerMatrix_LO (v23 : Int) (v24 : Int) (v25 : List Nat) (v26 : Int) : LOr := fun id e L =>
  match id with
  | 0 => .need (normA 0 spec_PowerMatrix_l0_kill e L = some (spec_PowerMatrix_l0_E v23 v24 v25 v26 ((gI (vAt e 1)), (gI (cAt L (vAt e 6) 0)), (gI (cAt L (vAt e 6) 1)), (gI (cAt L (vAt e 7) 0)), (gI (cAt L (vAt e 7) 1)), (gRF L (cAt L (vAt e 6) 2)), (gRF L (cAt L (vAt e 7) 2))))) (.call (spec_PowerMatrix_l0_g ((gI (vAt e 1)), (gI (cAt L (vAt e 6) 0)), (gI (cAt L (vAt e 6) 1)), (gI (cAt L (vAt e 7) 0)), (gI (cAt L (vAt e 7) 1)), (gRF L (cAt L (vAt e 6) 2)), (gRF L (cAt L (vAt e 7) 2)))) fun x => .sum x (fun b0 => .leaf (spec_PowerMatrix_l0_X v23 v24 v25 v26 (.inl b0))) (fun c0 => .leaf (spec_PowerMatrix_l0_X v23 v24 v25 v26 (.inr c0))))
  | _ => .fail
noncomputable def spec_PowerMatrix_tab : List (FuncId × DFn × Bool) := [(57, spec_l02Square_F, true), (70, spec_l00In_F, true), (58, spec_l02Unit_F, true), (101, spec_l02Own_F, true), (72, spec_l02Mul_F, true), (61, spec_l02Is_F, true)]
theorem spec_PowerMatrix_hO : OrcOk Try.prog (tabD spec_PowerMatrix_tab) (tabM spec_PowerMatrix_tab) := tabD_cons spec_l02Square_Fok (tabD_cons spec_l00In_Fok (tabD_cons spec_l02Unit_Fok (tabD_cons spec_l02Own_Fok (tabD_cons spec_l02Mul_Fok (tabD_cons spec_l02Is_Fok (tabD_nil _))))))
theorem spec_PowerMatrix_l0_be (v23 : Int) (v24 : Int) (v25 : List Nat) (v26 : Int) (s : Int × Int × Int × Int × Int × (List Nat) × (List Nat)) : bodyT TT (tabD spec_PowerMatrix_tab) (tabM spec_PowerMatrix_tab) (spec_PowerMatrix_LO v23 v24 v25 v26) 0 spec_PowerMatrix_l0_kill spec_PowerMatrix_l0_nx (bodyOf Try.f40 0) 0 (spec_PowerMatrix_l0_E v23 v24 v25 v26 s) = (spec_PowerMatrix_l0_T s).bind fun y => .leaf (outS (spec_PowerMatrix_l0_E v23 v24 v25 v26) (spec_PowerMatrix_l0_X v23 v24 v25 v26) y) := by kernel_rfl
theorem spec_PowerMatrix_l0_ok (v23 : Int) (v24 : Int) (v25 : List Nat) (v26 : Int) : LSound Try.prog 0 (spec_PowerMatrix_LO v23 v24 v25 v26) 0 (bodyOf Try.f40 0) := by
  intro e L out h
  exact lo_ok (E := spec_PowerMatrix_l0_E v23 v24 v25 v26) (gT := spec_PowerMatrix_l0_T) (X := spec_PowerMatrix_l0_X v23 v24 v25 v26) (s0 := ((gI (vAt e 1)), (gI (cAt L (vAt e 6) 0)), (gI (cAt L (vAt e 6) 1)), (gI (cAt L (vAt e 7) 0)), (gI (cAt L (vAt e 7) 1)), (gRF L (cAt L (vAt e 6) 2)), (gRF L (cAt L (vAt e 7) 2)))) tok spec_PowerMatrix_hO mixed (LoopsOk_eq (l := []) (by kernel_rfl) trivial) (spec_PowerMatrix_l0_be v23 v24 v25 v26) rfl (by intro x; (cases x with | inl b => rfl | inr x => exact rfl)) h
noncomputable def spec_PowerMatrix_T (v23 : Int) (v24 : Int) (v25 : List Nat) (v26 : Int) : Tree ((Unit) ⊕ (Int × Int × (List Nat))) :=
  (.call (spec_l02Square_g v23 v24 v25) fun v48 =>
  (.br (!v48) (
   .leaf (.inl ())
  ) (
   (.br (!(spec_l00In_v v26 (0 : Int) (64 : Int))) (
    .leaf (.inl ())
   ) (
    (.call (spec_l02Unit_g v23) fun v65 =>
    (.call (spec_l02Own_g v23 v24 v25) fun v69 =>
    (.need (some (spec_PowerMatrix_l0_E v23 v24 v25 v26 (v26, v65.1, v65.2.1, v69.1, v69.2, v65.2.2, ([] : List Nat) ++ v25)) = some (spec_PowerMatrix_l0_E v23 v24 v25 v26 (v26, v65.1, v65.2.1, v69.1, v69.2, v65.2.2, ([] : List Nat) ++ v25))) <|
    (.call (spec_PowerMatrix_l0_g (v26, v65.1, v65.2.1, v69.1, v69.2, v65.2.2, ([] : List Nat) ++ v25)) fun v181 =>
    (.sum v181 (fun v182 =>
     .leaf (.inl ())
    ) (fun v183 =>
     .leaf (.inr (v183.1, v183.2.1, v183.2.2))
    ))))))
   ))
  )))

noncomputable def spec_PowerMatrix_g (v23 : Int) (v24 : Int) (v25 : List Nat) (v26 : Int) : Option ((Unit) ⊕ (Int × Int × (List Nat))) := (spec_PowerMatrix_T v23 v24 v25 v26).run
def spec_PowerMatrix_enc (v23 : Int) (v24 : Int) (v25 : List Nat) (v26 : Int) (y : (Unit) ⊕ (Int × Int × (List Nat))) : Rs := (match y with | .inl y => (.tup [.agg [.int .i64 (0 : Int), .int .i64 (0 : Int), .nilslc], .lit false], []) | .inr y => (.tup [.agg [.int .i64 y.1, .int .i64 y.2.1, .own 0 0 ((y.2.2).length)], .lit true], [.row (.f32 y.2.2) 0]))
theorem spec_PowerMatrix_den (v23 : Int) (v24 : Int) (v25 : List Nat) (v26 : Int) : (den TT (tabD spec_PowerMatrix_tab) (tabM spec_PowerMatrix_tab) (spec_PowerMatrix_LO v23 v24 v25 v26) (codeOf Try.f40) ([.agg [.int .i64 v23, .int .i64 v24, .bslc (BR.root 0) (.f32 v25)], .int .i64 v26] ++ List.replicate (Try.f40.ntmps - ([.agg [.int .i64 v23, .int .i64 v24, .bslc (BR.root 0) (.f32 v25)], .int .i64 v26] : List DV).length) .undef) []).bind (retD TT Try.f40.results.toList 0) = (spec_PowerMatrix_T v23 v24 v25 v26).bind fun y => .leaf (spec_PowerMatrix_enc v23 v24 v25 v26 y) := by kernel_rfl
theorem spec_PowerMatrix_fn (v23 : Int) (v24 : Int) (v25 : List Nat) (v26 : Int) (F : Fr) (hm : F.ids.length = 0) (h0 : St F [] F.H0) (hA : DVs.Ok F [] [.agg [.int .i64 v23, .int .i64 v24, .bslc (BR.root 0) (.f32 v25)], .int .i64 v26]) {y : (Unit) ⊕ (Int × Int × (List Nat))} (hy : spec_PowerMatrix_g v23 v24 v25 v26 = some y) : ∃ H', FnOk Try.prog 40 (DVs.av F [.agg [.int .i64 v23, .int .i64 v24, .bslc (BR.root 0) (.f32 v25)], .int .i64 v26]) F.H0 ((spec_PowerMatrix_enc v23 v24 v25 v26 y).1.av F) H' ∧ St F (spec_PowerMatrix_enc v23 v24 v25 v26 y).2 H' ∧ (spec_PowerMatrix_enc v23 v24 v25 v26 y).1.Ok F (spec_PowerMatrix_enc v23 v24 v25 v26 y).2 :=
  fn_fin tok spec_PowerMatrix_hO mixed Try.func40 Try.call40 (by kernel_rfl) (LoopsOk_eq (l := [(0, bodyOf Try.f40 0)]) (by kernel_rfl) ⟨spec_PowerMatrix_l0_ok v23 v24 v25 v26, trivial⟩) (spec_PowerMatrix_den v23 v24 v25 v26) hy hm h0 hA
noncomputable def spec_PowerMatrix_F : DFn := fun args L =>
  match args with
  | [.agg [.int .i64 v23, .int .i64 v24, a1], .int .i64 v26] =>
    optT (rowF32 L a1) fun v25 =>
    .call (spec_PowerMatrix_g v23 v24 v25 v26) fun y => .sum y (fun y0 => .leaf (.tup [.agg [.int .i64 (0 : Int), .int .i64 (0 : Int), .nilslc], .lit false], L)) (fun z0 => .leaf (.tup [.agg [.int .i64 z0.1, .int .i64 z0.2.1, .own (L.length + 0) 0 ((z0.2.2).length)], .lit true], L ++ [.row (.f32 z0.2.2) 0]))
  | _ => .fail
theorem spec_PowerMatrix_Fok : COk Try.prog 40 spec_PowerMatrix_F true := by
  intro F L H args r L' hs ha hr
  unfold spec_PowerMatrix_F at hr
  split at hr
  · rename_i v23 v24 a1 v26
    obtain ⟨v25, hv25, hr⟩ := optT_run hr
    simp only [Tree.run] at hr
    obtain ⟨y, hy, hr⟩ := Option.bind_eq_some_iff.1 hr
    cases y with
    | inl y =>
      simp only [Tree.run, Option.some.injEq, Prod.mk.injEq] at hr
      obtain ⟨rfl, rfl⟩ := hr
      exact call_ok0 hs (fun k => (([a1.av F] : List AV)[k]?).getD .top) [.agg [.int .i64 v23, .int .i64 v24, a1], .int .i64 v26] [.agg [.int .i64 v23, .int .i64 v24, .bslc (BR.root 0) (.f32 v25)], .int .i64 v26] (fun F' h0 hi hρ => ⟨by simp [DVs.av, DV.av, BR.av, hρ], spec_PowerMatrix_fn v23 v24 v25 v26 F' (by rw [hi]; rfl) (st_nil hi) ⟨⟨trivial, trivial, bslc_ok hi (by rw [h0, hρ]; exact rowF32_ok hs (DVs.okAt (DVs.okAt ha 0 rfl) 2 rfl) hv25), trivial⟩, trivial, trivial⟩ hy⟩) rfl
    | inr y =>
      simp only [Tree.run, Option.some.injEq, Prod.mk.injEq] at hr
      obtain ⟨rfl, rfl⟩ := hr
      exact call_ok1 hs (fun k => (([a1.av F] : List AV)[k]?).getD .top) [.agg [.int .i64 v23, .int .i64 v24, a1], .int .i64 v26] [.agg [.int .i64 v23, .int .i64 v24, .bslc (BR.root 0) (.f32 v25)], .int .i64 v26] (fun F' h0 hi hρ => ⟨by simp [DVs.av, DV.av, BR.av, hρ], spec_PowerMatrix_fn v23 v24 v25 v26 F' (by rw [hi]; rfl) (st_nil hi) ⟨⟨trivial, trivial, bslc_ok hi (by rw [h0, hρ]; exact rowF32_ok hs (DVs.okAt (DVs.okAt ha 0 rfl) 2 rfl) hv25), trivial⟩, trivial, trivial⟩ hy⟩) rfl rfl
  · cases hr
/-! impl.inRange -/
noncomputable def impl_inRange_LO (v199 : Int) (v200 : Int) (v201 : Int) : LOr := fun id e L =>
  match id with
  | _ => .fail
noncomputable def impl_inRange_tab : List (FuncId × DFn × Bool) := []
theorem impl_inRange_hO : OrcOk Try.prog (tabD impl_inRange_tab) (tabM impl_inRange_tab) := tabD_nil _
noncomputable def impl_inRange_T (v199 : Int) (v200 : Int) (v201 : Int) : Tree (Bool) :=
  (.br (decide (v200 ≤ v199)) (
   .leaf (decide (v199 ≤ v201))
  ) (
   .leaf false
  ))

noncomputable def impl_inRange_g (v199 : Int) (v200 : Int) (v201 : Int) : Option (Bool) := (impl_inRange_T v199 v200 v201).run
def impl_inRange_enc (v199 : Int) (v200 : Int) (v201 : Int) (y : Bool) : Rs := (.bool y, [])
theorem impl_inRange_den (v199 : Int) (v200 : Int) (v201 : Int) : (den TT (tabD impl_inRange_tab) (tabM impl_inRange_tab) (impl_inRange_LO v199 v200 v201) (codeOf Try.f73) ([.int .i64 v199, .int .i64 v200, .int .i64 v201] ++ List.replicate (Try.f73.ntmps - ([.int .i64 v199, .int .i64 v200, .int .i64 v201] : List DV).length) .undef) []).bind (retD TT Try.f73.results.toList 0) = (impl_inRange_T v199 v200 v201).bind fun y => .leaf (impl_inRange_enc v199 v200 v201 y) := by kernel_rfl
theorem impl_inRange_fn (v199 : Int) (v200 : Int) (v201 : Int) (F : Fr) (hm : F.ids.length = 0) (h0 : St F [] F.H0) (hA : DVs.Ok F [] [.int .i64 v199, .int .i64 v200, .int .i64 v201]) {y : Bool} (hy : impl_inRange_g v199 v200 v201 = some y) : ∃ H', FnOk Try.prog 73 (DVs.av F [.int .i64 v199, .int .i64 v200, .int .i64 v201]) F.H0 ((impl_inRange_enc v199 v200 v201 y).1.av F) H' ∧ St F (impl_inRange_enc v199 v200 v201 y).2 H' ∧ (impl_inRange_enc v199 v200 v201 y).1.Ok F (impl_inRange_enc v199 v200 v201 y).2 :=
  fn_fin tok impl_inRange_hO mixed Try.func73 Try.call73 (by kernel_rfl) (LoopsOk_eq (l := []) (by kernel_rfl) trivial) (impl_inRange_den v199 v200 v201) hy hm h0 hA
def impl_inRange_v (v199 : Int) (v200 : Int) (v201 : Int) : Bool :=
  if (decide (v200 ≤ v199)) = true then (
   decide (v199 ≤ v201)
  ) else (
   false
  )
theorem impl_inRange_tot (v199 : Int) (v200 : Int) (v201 : Int) : impl_inRange_g v199 v200 v201 = some (impl_inRange_v v199 v200 v201) := by
  unfold impl_inRange_g impl_inRange_T impl_inRange_v
  simp only [Tree.run]
  repeat' (first | rfl | split)
noncomputable def impl_inRange_F : DFn := fun args L =>
  match args with
  | [.int .i64 v199, .int .i64 v200, .int .i64 v201] =>
    .leaf (.bool (impl_inRange_v v199 v200 v201), L)
  | _ => .fail
theorem impl_inRange_Fok : COk Try.prog 73 impl_inRange_F true := by
  intro F L H args r L' hs ha hr
  unfold impl_inRange_F at hr
  split at hr
  · rename_i v199 v200 v201
    have hy := impl_inRange_tot v199 v200 v201
    generalize impl_inRange_v v199 v200 v201 = y at hy hr
    simp only [Tree.run, Option.some.injEq, Prod.mk.injEq] at hr
    obtain ⟨rfl, rfl⟩ := hr
    exact call_ok0 hs (fun k => (([] : List AV)[k]?).getD .top) [.int .i64 v199, .int .i64 v200, .int .i64 v201] [.int .i64 v199, .int .i64 v200, .int .i64 v201] (fun F' h0 hi hρ => ⟨by simp [DVs.av, DV.av, BR.av, hρ], impl_inRange_fn v199 v200 v201 F' (by rw [hi]; rfl) (st_nil hi) ⟨trivial, trivial, trivial, trivial⟩ hy⟩) rfl
  · cases hr
/-! impl.isSide -/
noncomputable def impl_isSide_LO (v198 : Int) : LOr := fun id e L =>
  match id with
  | _ => .fail
noncomputable def impl_isSide_tab : List (FuncId × DFn × Bool) := [(73, impl_inRange_F, true)]
theorem impl_isSide_hO : OrcOk Try.prog (tabD impl_isSide_tab) (tabM impl_isSide_tab) := tabD_cons impl_inRange_Fok (tabD_nil _)
noncomputable def impl_isSide_T (v198 : Int) : Tree (Bool) :=
  .leaf (impl_inRange_v v198 (1 : Int) (12 : Int))

noncomputable def impl_isSide_g (v198 : Int) : Option (Bool) := (impl_isSide_T v198).run
def impl_isSide_enc (v198 : Int) (y : Bool) : Rs := (.bool y, [])
theorem impl_isSide_den (v198 : Int) : (den TT (tabD impl_isSide_tab) (tabM impl_isSide_tab) (impl_isSide_LO v198) (codeOf Try.f77) ([.int .i64 v198] ++ List.replicate (Try.f77.ntmps - ([.int .i64 v198] : List DV).length) .undef) []).bind (retD TT Try.f77.results.toList 0) = (impl_isSide_T v198).bind fun y => .leaf (impl_isSide_enc v198 y) := by kernel_rfl
theorem impl_isSide_fn (v198 : Int) (F : Fr) (hm : F.ids.length = 0) (h0 : St F [] F.H0) (hA : DVs.Ok F [] [.int .i64 v198]) {y : Bool} (hy : impl_isSide_g v198 = some y) : ∃ H', FnOk Try.prog 77 (DVs.av F [.int .i64 v198]) F.H0 ((impl_isSide_enc v198 y).1.av F) H' ∧ St F (impl_isSide_enc v198 y).2 H' ∧ (impl_isSide_enc v198 y).1.Ok F (impl_isSide_enc v198 y).2 :=
  fn_fin tok impl_isSide_hO mixed Try.func77 Try.call77 (by kernel_rfl) (LoopsOk_eq (l := []) (by kernel_rfl) trivial) (impl_isSide_den v198) hy hm h0 hA
def impl_isSide_v (v198 : Int) : Bool :=
  (impl_inRange_v v198 (1 : Int) (12 : Int))
theorem impl_isSide_tot (v198 : Int) : impl_isSide_g v198 = some (impl_isSide_v v198) := by
  unfold impl_isSide_g impl_isSide_T impl_isSide_v
  simp only [Tree.run]
  repeat' (first | rfl | split)
noncomputable def impl_isSide_F : DFn := fun args L =>
  match args with
  | [.int .i64 v198] =>
    .leaf (.bool (impl_isSide_v v198), L)
  | _ => .fail
theorem impl_isSide_Fok : COk Try.prog 77 impl_isSide_F true := by
  intro F L H args r L' hs ha hr
  unfold impl_isSide_F at hr
  split at hr
  · rename_i v198
    have hy := impl_isSide_tot v198
    generalize impl_isSide_v v198 = y at hy hr
    simp only [Tree.run, Option.some.injEq, Prod.mk.injEq] at hr
    obtain ⟨rfl, rfl⟩ := hr
    exact call_ok0 hs (fun k => (([] : List AV)[k]?).getD .top) [.int .i64 v198] [.int .i64 v198] (fun F' h0 hi hρ => ⟨by simp [DVs.av, DV.av, BR.av, hρ], impl_isSide_fn v198 F' (by rw [hi]; rfl) (st_nil hi) ⟨trivial, trivial⟩ hy⟩) rfl
  · cases hr
/-! impl.length[float32] -/
noncomputable def impl_lengthF_LO (v202 : List Nat) : LOr := fun id e L =>
  match id with
  | _ => .fail
noncomputable def impl_lengthF_tab : List (FuncId × DFn × Bool) := []
theorem impl_lengthF_hO : OrcOk Try.prog (tabD impl_lengthF_tab) (tabM impl_lengthF_tab) := tabD_nil _
noncomputable def impl_lengthF_T (v202 : List Nat) : Tree (Int) :=
  .leaf ((v202.length : Nat) : Int)

noncomputable def impl_lengthF_g (v202 : List Nat) : Option (Int) := (impl_lengthF_T v202).run
def impl_lengthF_enc (v202 : List Nat) (y : Int) : Rs := (.int .i64 y, [])
theorem impl_lengthF_den (v202 : List Nat) : (den TT (tabD impl_lengthF_tab) (tabM impl_lengthF_tab) (impl_lengthF_LO v202) (codeOf Try.f112) ([.bslc (BR.root 0) (.f32 v202)] ++ List.replicate (Try.f112.ntmps - ([.bslc (BR.root 0) (.f32 v202)] : List DV).length) .undef) []).bind (retD TT Try.f112.results.toList 0) = (impl_lengthF_T v202).bind fun y => .leaf (impl_lengthF_enc v202 y) := by kernel_rfl
theorem impl_lengthF_fn (v202 : List Nat) (F : Fr) (hm : F.ids.length = 0) (h0 : St F [] F.H0) (hA : DVs.Ok F [] [.bslc (BR.root 0) (.f32 v202)]) {y : Int} (hy : impl_lengthF_g v202 = some y) : ∃ H', FnOk Try.prog 112 (DVs.av F [.bslc (BR.root 0) (.f32 v202)]) F.H0 ((impl_lengthF_enc v202 y).1.av F) H' ∧ St F (impl_lengthF_enc v202 y).2 H' ∧ (impl_lengthF_enc v202 y).1.Ok F (impl_lengthF_enc v202 y).2 :=
  fn_fin tok impl_lengthF_hO mixed Try.func112 Try.call112 (by kernel_rfl) (LoopsOk_eq (l := []) (by kernel_rfl) trivial) (impl_lengthF_den v202) hy hm h0 hA
def impl_lengthF_v (v202 : List Nat) : Int :=
  ((v202.length : Nat) : Int)
theorem impl_lengthF_tot (v202 : List Nat) : impl_lengthF_g v202 = some (impl_lengthF_v v202) := by
  unfold impl_lengthF_g impl_lengthF_T impl_lengthF_v
  simp only [Tree.run]
  repeat' (first | rfl | split)
noncomputable def impl_lengthF_F : DFn := fun args L =>
  match args with
  | [a1] =>
    optT (rowF32 L a1) fun v202 =>
    .leaf (.int .i64 (impl_lengthF_v v202), L)
  | _ => .fail
theorem impl_lengthF_Fok : COk Try.prog 112 impl_lengthF_F true := by
  intro F L H args r L' hs ha hr
  unfold impl_lengthF_F at hr
  split at hr
  · rename_i a1
    obtain ⟨v202, hv202, hr⟩ := optT_run hr
    have hy := impl_lengthF_tot v202
    generalize impl_lengthF_v v202 = y at hy hr
    simp only [Tree.run, Option.some.injEq, Prod.mk.injEq] at hr
    obtain ⟨rfl, rfl⟩ := hr
    exact call_ok0 hs (fun k => (([a1.av F] : List AV)[k]?).getD .top) [a1] [.bslc (BR.root 0) (.f32 v202)] (fun F' h0 hi hρ => ⟨by simp [DVs.av, DV.av, BR.av, hρ], impl_lengthF_fn v202 F' (by rw [hi]; rfl) (st_nil hi) ⟨bslc_ok hi (by rw [h0, hρ]; exact rowF32_ok hs (DVs.okAt ha 0 rfl) hv202), trivial⟩ hy⟩) rfl
  · cases hr
/-! math.IsNaN -/
noncomputable def math_IsNaN_LO (v210 : Nat) : LOr := fun id e L =>
  match id with
  | _ => .fail
noncomputable def math_IsNaN_tab : List (FuncId × DFn × Bool) := []
theorem math_IsNaN_hO : OrcOk Try.prog (tabD math_IsNaN_tab) (tabM math_IsNaN_tab) := tabD_nil _
noncomputable def math_IsNaN_T (v210 : Nat) : Tree (Bool) :=
  .leaf (!feq .f64 v210 v210)

noncomputable def math_IsNaN_g (v210 : Nat) : Option (Bool) := (math_IsNaN_T v210).run
def math_IsNaN_enc (v210 : Nat) (y : Bool) : Rs := (.bool y, [])
theorem math_IsNaN_den (v210 : Nat) : (den TT (tabD math_IsNaN_tab) (tabM math_IsNaN_tab) (math_IsNaN_LO v210) (codeOf Try.f172) ([.flt .f64 v210] ++ List.replicate (Try.f172.ntmps - ([.flt .f64 v210] : List DV).length) .undef) []).bind (retD TT Try.f172.results.toList 0) = (math_IsNaN_T v210).bind fun y => .leaf (math_IsNaN_enc v210 y) := by kernel_rfl
theorem math_IsNaN_fn (v210 : Nat) (F : Fr) (hm : F.ids.length = 0) (h0 : St F [] F.H0) (hA : DVs.Ok F [] [.flt .f64 v210]) {y : Bool} (hy : math_IsNaN_g v210 = some y) : ∃ H', FnOk Try.prog 172 (DVs.av F [.flt .f64 v210]) F.H0 ((math_IsNaN_enc v210 y).1.av F) H' ∧ St F (math_IsNaN_enc v210 y).2 H' ∧ (math_IsNaN_enc v210 y).1.Ok F (math_IsNaN_enc v210 y).2 :=
  fn_fin tok math_IsNaN_hO mixed Try.func172 Try.call172 (by kernel_rfl) (LoopsOk_eq (l := []) (by kernel_rfl) trivial) (math_IsNaN_den v210) hy hm h0 hA
def math_IsNaN_v (v210 : Nat) : Bool :=
  !feq .f64 v210 v210
theorem math_IsNaN_tot (v210 : Nat) : math_IsNaN_g v210 = some (math_IsNaN_v v210) := by
  unfold math_IsNaN_g math_IsNaN_T math_IsNaN_v
  simp only [Tree.run]
  repeat' (first | rfl | split)
noncomputable def math_IsNaN_F : DFn := fun args L =>
  match args with
  | [.flt .f64 v210] =>
    .leaf (.bool (math_IsNaN_v v210), L)
  | _ => .fail
theorem math_IsNaN_Fok : COk Try.prog 172 math_IsNaN_F true := by
  intro F L H args r L' hs ha hr
  unfold math_IsNaN_F at hr
  split at hr
  · rename_i v210
    have hy := math_IsNaN_tot v210
    generalize math_IsNaN_v v210 = y at hy hr
    simp only [Tree.run, Option.some.injEq, Prod.mk.injEq] at hr
    obtain ⟨rfl, rfl⟩ := hr
    exact call_ok0 hs (fun k => (([] : List AV)[k]?).getD .top) [.flt .f64 v210] [.flt .f64 v210] (fun F' h0 hi hρ => ⟨by simp [DVs.av, DV.av, BR.av, hρ], math_IsNaN_fn v210 F' (by rw [hi]; rfl) (st_nil hi) ⟨trivial, trivial⟩ hy⟩) rfl
  · cases hr
/-! math.IsInf -/
noncomputable def math_IsInf_LO (v211 : Nat) (v212 : Int) : LOr := fun id e L =>
  match id with
  | _ => .fail
noncomputable def math_IsInf_tab : List (FuncId × DFn × Bool) := [(97, Abs_F, true)]
theorem math_IsInf_hO : OrcOk Try.prog (tabD math_IsInf_tab) (tabM math_IsInf_tab) := tabD_cons Abs_Fok (tabD_nil _)
noncomputable def math_IsInf_T (v211 : Nat) (v212 : Int) : Tree (Bool) :=
  (.br (decide (v212 = (0 : Int))) (
   .leaf (fgrt .f64 (fabs v211) (9218868437227405311 : Nat))
  ) (
   (.br (decide (v212 < (0 : Int))) (
    .leaf (fgrt .f64 (fneg .f64 v211) (9218868437227405311 : Nat))
   ) (
    .leaf (fgrt .f64 v211 (9218868437227405311 : Nat))
   ))
  ))

noncomputable def math_IsInf_g (v211 : Nat) (v212 : Int) : Option (Bool) := (math_IsInf_T v211 v212).run
def math_IsInf_enc (v211 : Nat) (v212 : Int) (y : Bool) : Rs := (.bool y, [])
theorem math_IsInf_den (v211 : Nat) (v212 : Int) : (den TT (tabD math_IsInf_tab) (tabM math_IsInf_tab) (math_IsInf_LO v211 v212) (codeOf Try.f173) ([.flt .f64 v211, .int .i64 v212] ++ List.replicate (Try.f173.ntmps - ([.flt .f64 v211, .int .i64 v212] : List DV).length) .undef) []).bind (retD TT Try.f173.results.toList 0) = (math_IsInf_T v211 v212).bind fun y => .leaf (math_IsInf_enc v211 v212 y) := by kernel_rfl
theorem math_IsInf_fn (v211 : Nat) (v212 : Int) (F : Fr) (hm : F.ids.length = 0) (h0 : St F [] F.H0) (hA : DVs.Ok F [] [.flt .f64 v211, .int .i64 v212]) {y : Bool} (hy : math_IsInf_g v211 v212 = some y) : ∃ H', FnOk Try.prog 173 (DVs.av F [.flt .f64 v211, .int .i64 v212]) F.H0 ((math_IsInf_enc v211 v212 y).1.av F) H' ∧ St F (math_IsInf_enc v211 v212 y).2 H' ∧ (math_IsInf_enc v211 v212 y).1.Ok F (math_IsInf_enc v211 v212 y).2 :=
  fn_fin tok math_IsInf_hO mixed Try.func173 Try.call173 (by kernel_rfl) (LoopsOk_eq (l := []) (by kernel_rfl) trivial) (math_IsInf_den v211 v212) hy hm h0 hA
def math_IsInf_v (v211 : Nat) (v212 : Int) : Bool :=
  if (decide (v212 = (0 : Int))) = true then (
   fgrt .f64 (fabs v211) (9218868437227405311 : Nat)
  ) else (
   if (decide (v212 < (0 : Int))) = true then (
    fgrt .f64 (fneg .f64 v211) (9218868437227405311 : Nat)
   ) else (
    fgrt .f64 v211 (9218868437227405311 : Nat)
   )
  )
theorem math_IsInf_tot (v211 : Nat) (v212 : Int) : math_IsInf_g v211 v212 = some (math_IsInf_v v211 v212) := by
  unfold math_IsInf_g math_IsInf_T math_IsInf_v
  simp only [Tree.run]
  repeat' (first | rfl | split)
noncomputable def math_IsInf_F : DFn := fun args L =>
  match args with
  | [.flt .f64 v211, .int .i64 v212] =>
    .leaf (.bool (math_IsInf_v v211 v212), L)
  | _ => .fail
theorem math_IsInf_Fok : COk Try.prog 173 math_IsInf_F true := by
  intro F L H args r L' hs ha hr
  unfold math_IsInf_F at hr
  split at hr
  · rename_i v211 v212
    have hy := math_IsInf_tot v211 v212
    generalize math_IsInf_v v211 v212 = y at hy hr
    simp only [Tree.run, Option.some.injEq, Prod.mk.injEq] at hr
    obtain ⟨rfl, rfl⟩ := hr
    exact call_ok0 hs (fun k => (([] : List AV)[k]?).getD .top) [.flt .f64 v211, .int .i64 v212] [.flt .f64 v211, .int .i64 v212] (fun F' h0 hi hρ => ⟨by simp [DVs.av, DV.av, BR.av, hρ], math_IsInf_fn v211 v212 F' (by rw [hi]; rfl) (st_nil hi) ⟨trivial, trivial, trivial⟩ hy⟩) rfl
  · cases hr
/-! impl.isFinite64 -/
noncomputable def impl_isFinite64_LO (v209 : Nat) : LOr := fun id e L =>
  match id with
  | _ => .fail
noncomputable def impl_isFinite64_tab : List (FuncId × DFn × Bool) := [(172, math_IsNaN_F, true), (173, math_IsInf_F, true)]
theorem impl_isFinite64_hO : OrcOk Try.prog (tabD impl_isFinite64_tab) (tabM impl_isFinite64_tab) := tabD_cons math_IsNaN_Fok (tabD_cons math_IsInf_Fok (tabD_nil _))
noncomputable def impl_isFinite64_T (v209 : Nat) : Tree (Bool) :=
  (.br (!(math_IsNaN_v v209)) (
   .leaf (!(math_IsInf_v v209 (0 : Int)))
  ) (
   .leaf false
  ))

noncomputable def impl_isFinite64_g (v209 : Nat) : Option (Bool) := (impl_isFinite64_T v209).run
def impl_isFinite64_enc (v209 : Nat) (y : Bool) : Rs := (.bool y, [])
theorem impl_isFinite64_den (v209 : Nat) : (den TT (tabD impl_isFinite64_tab) (tabM impl_isFinite64_tab) (impl_isFinite64_LO v209) (codeOf Try.f149) ([.flt .f64 v209] ++ List.replicate (Try.f149.ntmps - ([.flt .f64 v209] : List DV).length) .undef) []).bind (retD TT Try.f149.results.toList 0) = (impl_isFinite64_T v209).bind fun y => .leaf (impl_isFinite64_enc v209 y) := by kernel_rfl
theorem impl_isFinite64_fn (v209 : Nat) (F : Fr) (hm : F.ids.length = 0) (h0 : St F [] F.H0) (hA : DVs.Ok F [] [.flt .f64 v209]) {y : Bool} (hy : impl_isFinite64_g v209 = some y) : ∃ H', FnOk Try.prog 149 (DVs.av F [.flt .f64 v209]) F.H0 ((impl_isFinite64_enc v209 y).1.av F) H' ∧ St F (impl_isFinite64_enc v209 y).2 H' ∧ (impl_isFinite64_enc v209 y).1.Ok F (impl_isFinite64_enc v209 y).2 :=
  fn_fin tok impl_isFinite64_hO mixed Try.func149 Try.call149 (by kernel_rfl) (LoopsOk_eq (l := []) (by kernel_rfl) trivial) (impl_isFinite64_den v209) hy hm h0 hA
def impl_isFinite64_v (v209 : Nat) : Bool :=
  if (!(math_IsNaN_v v209)) = true then (
   !(math_IsInf_v v209 (0 : Int))
  ) else (
   false
  )
theorem impl_isFinite64_tot (v209 : Nat) : impl_isFinite64_g v209 = some (impl_isFinite64_v v209) := by
  unfold impl_isFinite64_g impl_isFinite64_T impl_isFinite64_v
  simp only [Tree.run]
  repeat' (first | rfl | split)
noncomputable def impl_isFinite64_F : DFn := fun args L =>
  match args with
  | [.flt .f64 v209] =>
    .leaf (.bool (impl_isFinite64_v v209), L)
  | _ => .fail
theorem impl_isFinite64_Fok : COk Try.prog 149 impl_isFinite64_F true := by
  intro F L H args r L' hs ha hr
  unfold impl_isFinite64_F at hr
  split at hr
  · rename_i v209
    have hy := impl_isFinite64_tot v209
    generalize impl_isFinite64_v v209 = y at hy hr
    simp only [Tree.run, Option.some.injEq, Prod.mk.injEq] at hr
    obtain ⟨rfl, rfl⟩ := hr
    exact call_ok0 hs (fun k => (([] : List AV)[k]?).getD .top) [.flt .f64 v209] [.flt .f64 v209] (fun F' h0 hi hρ => ⟨by simp [DVs.av, DV.av, BR.av, hρ], impl_isFinite64_fn v209 F' (by rw [hi]; rfl) (st_nil hi) ⟨trivial, trivial⟩ hy⟩) rfl
  · cases hr
/-! impl.IsFinite -/
noncomputable def impl_IsFinite_LO (v208 : Nat) : LOr := fun id e L =>
  match id with
  | _ => .fail
noncomputable def impl_IsFinite_tab : List (FuncId × DFn × Bool) := [(149, impl_isFinite64_F, true)]
theorem impl_IsFinite_hO : OrcOk Try.prog (tabD impl_IsFinite_tab) (tabM impl_IsFinite_tab) := tabD_cons impl_isFinite64_Fok (tabD_nil _)
noncomputable def impl_IsFinite_T (v208 : Nat) : Tree (Bool) :=
  .leaf (impl_isFinite64_v (wid v208))

noncomputable def impl_IsFinite_g (v208 : Nat) : Option (Bool) := (impl_IsFinite_T v208).run
def impl_IsFinite_enc (v208 : Nat) (y : Bool) : Rs := (.bool y, [])
theorem impl_IsFinite_den (v208 : Nat) : (den TT (tabD impl_IsFinite_tab) (tabM impl_IsFinite_tab) (impl_IsFinite_LO v208) (codeOf Try.f96) ([.flt .f32 v208] ++ List.replicate (Try.f96.ntmps - ([.flt .f32 v208] : List DV).length) .undef) []).bind (retD TT Try.f96.results.toList 0) = (impl_IsFinite_T v208).bind fun y => .leaf (impl_IsFinite_enc v208 y) := by kernel_rfl
theorem impl_IsFinite_fn (v208 : Nat) (F : Fr) (hm : F.ids.length = 0) (h0 : St F [] F.H0) (hA : DVs.Ok F [] [.flt .f32 v208]) {y : Bool} (hy : impl_IsFinite_g v208 = some y) : ∃ H', FnOk Try.prog 96 (DVs.av F [.flt .f32 v208]) F.H0 ((impl_IsFinite_enc v208 y).1.av F) H' ∧ St F (impl_IsFinite_enc v208 y).2 H' ∧ (impl_IsFinite_enc v208 y).1.Ok F (impl_IsFinite_enc v208 y).2 :=
  fn_fin tok impl_IsFinite_hO mixed Try.func96 Try.call96 (by kernel_rfl) (LoopsOk_eq (l := []) (by kernel_rfl) trivial) (impl_IsFinite_den v208) hy hm h0 hA
def impl_IsFinite_v (v208 : Nat) : Bool :=
  (impl_isFinite64_v (wid v208))
theorem impl_IsFinite_tot (v208 : Nat) : impl_IsFinite_g v208 = some (impl_IsFinite_v v208) := by
  unfold impl_IsFinite_g impl_IsFinite_T impl_IsFinite_v
  simp only [Tree.run]
  repeat' (first | rfl | split)
noncomputable def impl_IsFinite_F : DFn := fun args L =>
  match args with
  | [.flt .f32 v208] =>
    .leaf (.bool (impl_IsFinite_v v208), L)
  | _ => .fail
theorem impl_IsFinite_Fok : COk Try.prog 96 impl_IsFinite_F true := by
  intro F L H args r L' hs ha hr
  unfold impl_IsFinite_F at hr
  split at hr
  · rename_i v208
    have hy := impl_IsFinite_tot v208
    generalize impl_IsFinite_v v208 = y at hy hr
    simp only [Tree.run, Option.some.injEq, Prod.mk.injEq] at hr
    obtain ⟨rfl, rfl⟩ := hr
    exact call_ok0 hs (fun k => (([] : List AV)[k]?).getD .top) [.flt .f32 v208] [.flt .f32 v208] (fun F' h0 hi hρ => ⟨by simp [DVs.av, DV.av, BR.av, hρ], impl_IsFinite_fn v208 F' (by rw [hi]; rfl) (st_nil hi) ⟨trivial, trivial⟩ hy⟩) rfl
  · cases hr
/-! impl.areFinite$1 -/
noncomputable def impl_areFinite_1_LO (v207 : Nat) : LOr := fun id e L =>
  match id with
  | _ => .fail
noncomputable def impl_areFinite_1_tab : List (FuncId × DFn × Bool) := [(96, impl_IsFinite_F, true)]
theorem impl_areFinite_1_hO : OrcOk Try.prog (tabD impl_areFinite_1_tab) (tabM impl_areFinite_1_tab) := tabD_cons impl_IsFinite_Fok (tabD_nil _)
noncomputable def impl_areFinite_1_T (v207 : Nat) : Tree (Bool) :=
  .leaf (!(impl_IsFinite_v v207))

noncomputable def impl_areFinite_1_g (v207 : Nat) : Option (Bool) := (impl_areFinite_1_T v207).run
def impl_areFinite_1_enc (v207 : Nat) (y : Bool) : Rs := (.bool y, [])
theorem impl_areFinite_1_den (v207 : Nat) : (den TT (tabD impl_areFinite_1_tab) (tabM impl_areFinite_1_tab) (impl_areFinite_1_LO v207) (codeOf Try.f138) ([.flt .f32 v207] ++ List.replicate (Try.f138.ntmps - ([.flt .f32 v207] : List DV).length) .undef) []).bind (retD TT Try.f138.results.toList 0) = (impl_areFinite_1_T v207).bind fun y => .leaf (impl_areFinite_1_enc v207 y) := by kernel_rfl
theorem impl_areFinite_1_fn (v207 : Nat) (F : Fr) (hm : F.ids.length = 0) (h0 : St F [] F.H0) (hA : DVs.Ok F [] [.flt .f32 v207]) {y : Bool} (hy : impl_areFinite_1_g v207 = some y) : ∃ H', FnOk Try.prog 138 (DVs.av F [.flt .f32 v207]) F.H0 ((impl_areFinite_1_enc v207 y).1.av F) H' ∧ St F (impl_areFinite_1_enc v207 y).2 H' ∧ (impl_areFinite_1_enc v207 y).1.Ok F (impl_areFinite_1_enc v207 y).2 :=
  fn_fin tok impl_areFinite_1_hO mixed Try.func138 Try.call138 (by kernel_rfl) (LoopsOk_eq (l := []) (by kernel_rfl) trivial) (impl_areFinite_1_den v207) hy hm h0 hA
def impl_areFinite_1_v (v207 : Nat) : Bool :=
  !(impl_IsFinite_v v207)
theorem impl_areFinite_1_tot (v207 : Nat) : impl_areFinite_1_g v207 = some (impl_areFinite_1_v v207) := by
  unfold impl_areFinite_1_g impl_areFinite_1_T impl_areFinite_1_v
  simp only [Tree.run]
  repeat' (first | rfl | split)
noncomputable def impl_areFinite_1_F : DFn := fun args L =>
  match args with
  | [.flt .f32 v207] =>
    .leaf (.bool (impl_areFinite_1_v v207), L)
  | _ => .fail
theorem impl_areFinite_1_Fok : COk Try.prog 138 impl_areFinite_1_F true := by
  intro F L H args r L' hs ha hr
  unfold impl_areFinite_1_F at hr
  split at hr
  · rename_i v207
    have hy := impl_areFinite_1_tot v207
    generalize impl_areFinite_1_v v207 = y at hy hr
    simp only [Tree.run, Option.some.injEq, Prod.mk.injEq] at hr
    obtain ⟨rfl, rfl⟩ := hr
    exact call_ok0 hs (fun k => (([] : List AV)[k]?).getD .top) [.flt .f32 v207] [.flt .f32 v207] (fun F' h0 hi hρ => ⟨by simp [DVs.av, DV.av, BR.av, hρ], impl_areFinite_1_fn v207 F' (by rw [hi]; rfl) (st_nil hi) ⟨trivial, trivial⟩ hy⟩) rfl
  · cases hr
/-! slices.IndexFunc[list of float32,float32] -/
noncomputable def slices_IndexFuncF_l0_T (v205 : List Nat) (s : Int) : Tree ((Int) ⊕ ((Int) ⊕ (Unit))) :=
  (.br (decide (s < ((v205.length : Nat) : Int))) (
   (.grd (inb s v205.length) <|
   (.br (impl_areFinite_1_v (nth v205 (Int.toNat s))) (
    .leaf (.inr (.inl s))
   ) (
    .leaf (.inl (IntKind.i64.wrap (s + (1 : Int))))
   )))
  ) (
   .leaf (.inr (.inr ()))
  ))

noncomputable def slices_IndexFuncF_l0_g (v205 : List Nat) (s0 : Int) : Option ((Int) ⊕ (Unit)) := whileM (fun s => (slices_IndexFuncF_l0_T v205 s).run) s0
def slices_IndexFuncF_l0_E (v205 : List Nat) (s : Int) : Sd := ([.bslc (BR.root 0) (.f32 v205), .fn 138 [], .top, .top, .top, .top, .top, .int .i64 ((v205.length : Nat) : Int), .int .i64 s, .top, .top, .top, .top, .top, .top, .top, .top, .top, .top], [])
def slices_IndexFuncF_l0_X (v205 : List Nat) (x : (Int) ⊕ (Unit)) : Out := (match x with | .inl x => (.ret, [.top, .top, .top, .top, .int .i64 x, .top, .top, .top, .top, .top, .top, .top, .top, .top, .top, .top, .top, .top, .top], []) | .inr x => (.normal, [.top, .top, .top, .top, .top, .top, .top, .top, .top, .top, .top, .top, .top, .top, .top, .top, .top, .top, .top], []))
def slices_IndexFuncF_l0_kill : List Nat := [0, 0, 1, 1, 1, 1, 1, 0, 0, 1, 1, 1, 1, 1, 1, 1, 1, 1, 1]
def slices_IndexFuncF_l0_nx : Exit → List Nat
  | .exit 0 => [1, 1, 1, 1, 1, 1, 1, 1, 1, 1, 1, 1, 1, 1, 1, 1, 1, 1, 1]
  | .ret => [1, 1, 1, 1, 0, 1, 1, 1, 1, 1, 1, 1, 1, 1, 1, 1, 1, 1, 1]
  | _ => []
noncomputable def slices_IndexFuncF_LO (v205 : List Nat) : LOr := fun id e L =>
  match id with
  | 0 => .need (normA 0 slices_IndexFuncF_l0_kill e L = some (slices_IndexFuncF_l0_E v205 (gI (vAt e 8)))) (.call (slices_IndexFuncF_l0_g v205 (gI (vAt e 8))) fun x => .sum x (fun b0 => .leaf (slices_IndexFuncF_l0_X v205 (.inl b0))) (fun c0 => .leaf (slices_IndexFuncF_l0_X v205 (.inr c0))))
  | _ => .fail
noncomputable def slices_IndexFuncF_tab : List (FuncId × DFn × Bool) := [(138, impl_areFinite_1_F, true)]
theorem slices_IndexFuncF_hO : OrcOk Try.prog (tabD slices_IndexFuncF_tab) (tabM slices_IndexFuncF_tab) := tabD_cons impl_areFinite_1_Fok (tabD_nil _)
theorem slices_IndexFuncF_l0_be (v205 : List Nat) (s : Int) : bodyT TT (tabD slices_IndexFuncF_tab) (tabM slices_IndexFuncF_tab) (slices_IndexFuncF_LO v205) 0 slices_IndexFuncF_l0_kill slices_IndexFuncF_l0_nx (bodyOf Try.f168 0) 0 (slices_IndexFuncF_l0_E v205 s) = (slices_IndexFuncF_l0_T v205 s).bind fun y => .leaf (outS (slices_IndexFuncF_l0_E v205) (slices_IndexFuncF_l0_X v205) y) := by kernel_rfl
theorem slices_IndexFuncF_l0_ok (v205 : List Nat) : LSound Try.prog 0 (slices_IndexFuncF_LO v205) 0 (bodyOf Try.f168 0) := by
  intro e L out h
  exact lo_ok (E := slices_IndexFuncF_l0_E v205) (gT := slices_IndexFuncF_l0_T v205) (X := slices_IndexFuncF_l0_X v205) (s0 := (gI (vAt e 8))) tok slices_IndexFuncF_hO mixed (LoopsOk_eq (l := []) (by kernel_rfl) trivial) (slices_IndexFuncF_l0_be v205) rfl (by intro x; (cases x with | inl b => rfl | inr x => exact rfl)) h
noncomputable def slices_IndexFuncF_T (v205 : List Nat) : Tree (Int) :=
  (.need (some (slices_IndexFuncF_l0_E v205 (0 : Int)) = some (slices_IndexFuncF_l0_E v205 (0 : Int))) <|
  (.call (slices_IndexFuncF_l0_g v205 (0 : Int)) fun v215 =>
  (.sum v215 (fun v216 =>
   .leaf v216
  ) (fun v217 =>
   .leaf (-1 : Int)
  ))))

noncomputable def slices_IndexFuncF_g (v205 : List Nat) : Option (Int) := (slices_IndexFuncF_T v205).run
def slices_IndexFuncF_enc (v205 : List Nat) (y : Int) : Rs := (.int .i64 y, [])
theorem slices_IndexFuncF_den (v205 : List Nat) : (den TT (tabD slices_IndexFuncF_tab) (tabM slices_IndexFuncF_tab) (slices_IndexFuncF_LO v205) (codeOf Try.f168) ([.bslc (BR.root 0) (.f32 v205), .fn 138 []] ++ List.replicate (Try.f168.ntmps - ([.bslc (BR.root 0) (.f32 v205), .fn 138 []] : List DV).length) .undef) []).bind (retD TT Try.f168.results.toList 0) = (slices_IndexFuncF_T v205).bind fun y => .leaf (slices_IndexFuncF_enc v205 y) := by kernel_rfl
theorem slices_IndexFuncF_fn (v205 : List Nat) (F : Fr) (hm : F.ids.length = 0) (h0 : St F [] F.H0) (hA : DVs.Ok F [] [.bslc (BR.root 0) (.f32 v205), .fn 138 []]) {y : Int} (hy : slices_IndexFuncF_g v205 = some y) : ∃ H', FnOk Try.prog 168 (DVs.av F [.bslc (BR.root 0) (.f32 v205), .fn 138 []]) F.H0 ((slices_IndexFuncF_enc v205 y).1.av F) H' ∧ St F (slices_IndexFuncF_enc v205 y).2 H' ∧ (slices_IndexFuncF_enc v205 y).1.Ok F (slices_IndexFuncF_enc v205 y).2 :=
  fn_fin tok slices_IndexFuncF_hO mixed Try.func168 Try.call168 (by kernel_rfl) (LoopsOk_eq (l := [(0, bodyOf Try.f168 0)]) (by kernel_rfl) ⟨slices_IndexFuncF_l0_ok v205, trivial⟩) (slices_IndexFuncF_den v205) hy hm h0 hA
noncomputable def slices_IndexFuncF_F : DFn := fun args L =>
  match args with
  | [a1, .fn 138 []] =>
    optT (rowF32 L a1) fun v205 =>
    .call (slices_IndexFuncF_g v205) fun y => .leaf (.int .i64 y, L)
  | _ => .fail
theorem slices_IndexFuncF_Fok : COk Try.prog 168 slices_IndexFuncF_F true := by
  intro F L H args r L' hs ha hr
  unfold slices_IndexFuncF_F at hr
  split at hr
  · rename_i a1
    obtain ⟨v205, hv205, hr⟩ := optT_run hr
    simp only [Tree.run] at hr
    obtain ⟨y, hy, hr⟩ := Option.bind_eq_some_iff.1 hr
    simp only [Tree.run, Option.some.injEq, Prod.mk.injEq] at hr
    obtain ⟨rfl, rfl⟩ := hr
    exact call_ok0 hs (fun k => (([a1.av F] : List AV)[k]?).getD .top) [a1, .fn 138 []] [.bslc (BR.root 0) (.f32 v205), .fn 138 []] (fun F' h0 hi hρ => ⟨by simp [DVs.av, DV.av, BR.av, hρ], slices_IndexFuncF_fn v205 F' (by rw [hi]; rfl) (st_nil hi) ⟨bslc_ok hi (by rw [h0, hρ]; exact rowF32_ok hs (DVs.okAt ha 0 rfl) hv205), trivial, trivial⟩ hy⟩) rfl
  · cases hr
/-! slices.ContainsFunc[list of float32,float32] -/
noncomputable def slices_ContainsFuncF_LO (v204 : List Nat) : LOr := fun id e L =>
  match id with
  | _ => .fail
noncomputable def slices_ContainsFuncF_tab : List (FuncId × DFn × Bool) := [(168, slices_IndexFuncF_F, true)]
theorem slices_ContainsFuncF_hO : OrcOk Try.prog (tabD slices_ContainsFuncF_tab) (tabM slices_ContainsFuncF_tab) := tabD_cons slices_IndexFuncF_Fok (tabD_nil _)
noncomputable def slices_ContainsFuncF_T (v204 : List Nat) : Tree (Bool) :=
  (.call (slices_IndexFuncF_g v204) fun v218 =>
  .leaf (decide ((0 : Int) ≤ v218)))

noncomputable def slices_ContainsFuncF_g (v204 : List Nat) : Option (Bool) := (slices_ContainsFuncF_T v204).run
def slices_ContainsFuncF_enc (v204 : List Nat) (y : Bool) : Rs := (.bool y, [])
theorem slices_ContainsFuncF_den (v204 : List Nat) : (den TT (tabD slices_ContainsFuncF_tab) (tabM slices_ContainsFuncF_tab) (slices_ContainsFuncF_LO v204) (codeOf Try.f137) ([.bslc (BR.root 0) (.f32 v204), .fn 138 []] ++ List.replicate (Try.f137.ntmps - ([.bslc (BR.root 0) (.f32 v204), .fn 138 []] : List DV).length) .undef) []).bind (retD TT Try.f137.results.toList 0) = (slices_ContainsFuncF_T v204).bind fun y => .leaf (slices_ContainsFuncF_enc v204 y) := by kernel_rfl
theorem slices_ContainsFuncF_fn (v204 : List Nat) (F : Fr) (hm : F.ids.length = 0) (h0 : St F [] F.H0) (hA : DVs.Ok F [] [.bslc (BR.root 0) (.f32 v204), .fn 138 []]) {y : Bool} (hy : slices_ContainsFuncF_g v204 = some y) : ∃ H', FnOk Try.prog 137 (DVs.av F [.bslc (BR.root 0) (.f32 v204), .fn 138 []]) F.H0 ((slices_ContainsFuncF_enc v204 y).1.av F) H' ∧ St F (slices_ContainsFuncF_enc v204 y).2 H' ∧ (slices_ContainsFuncF_enc v204 y).1.Ok F (slices_ContainsFuncF_enc v204 y).2 :=
  fn_fin tok slices_ContainsFuncF_hO mixed Try.func137 Try.call137 (by kernel_rfl) (LoopsOk_eq (l := []) (by kernel_rfl) trivial) (slices_ContainsFuncF_den v204) hy hm h0 hA
noncomputable def slices_ContainsFuncF_F : DFn := fun args L =>
  match args with
  | [a1, .fn 138 []] =>
    optT (rowF32 L a1) fun v204 =>
    .call (slices_ContainsFuncF_g v204) fun y => .leaf (.bool y, L)
  | _ => .fail
theorem slices_ContainsFuncF_Fok : COk Try.prog 137 slices_ContainsFuncF_F true := by
  intro F L H args r L' hs ha hr
  unfold slices_ContainsFuncF_F at hr
  split at hr
  · rename_i a1
    obtain ⟨v204, hv204, hr⟩ := optT_run hr
    simp only [Tree.run] at hr
    obtain ⟨y, hy, hr⟩ := Option.bind_eq_some_iff.1 hr
    simp only [Tree.run, Option.some.injEq, Prod.mk.injEq] at hr
    obtain ⟨rfl, rfl⟩ := hr
    exact call_ok0 hs (fun k => (([a1.av F] : List AV)[k]?).getD .top) [a1, .fn 138 []] [.bslc (BR.root 0) (.f32 v204), .fn 138 []] (fun F' h0 hi hρ => ⟨by simp [DVs.av, DV.av, BR.av, hρ], slices_ContainsFuncF_fn v204 F' (by rw [hi]; rfl) (st_nil hi) ⟨bslc_ok hi (by rw [h0, hρ]; exact rowF32_ok hs (DVs.okAt ha 0 rfl) hv204), trivial, trivial⟩ hy⟩) rfl
  · cases hr
/-! impl.areFinite -/
noncomputable def impl_areFinite_LO (v203 : List Nat) : LOr := fun id e L =>
  match id with
  | _ => .fail
noncomputable def impl_areFinite_tab : List (FuncId × DFn × Bool) := [(137, slices_ContainsFuncF_F, true)]
theorem impl_areFinite_hO : OrcOk Try.prog (tabD impl_areFinite_tab) (tabM impl_areFinite_tab) := tabD_cons slices_ContainsFuncF_Fok (tabD_nil _)
noncomputable def impl_areFinite_T (v203 : List Nat) : Tree (Bool) :=
  (.call (slices_ContainsFuncF_g v203) fun v219 =>
  .leaf (!v219))

noncomputable def impl_areFinite_g (v203 : List Nat) : Option (Bool) := (impl_areFinite_T v203).run
def impl_areFinite_enc (v203 : List Nat) (y : Bool) : Rs := (.bool y, [])
theorem impl_areFinite_den (v203 : List Nat) : (den TT (tabD impl_areFinite_tab) (tabM impl_areFinite_tab) (impl_areFinite_LO v203) (codeOf Try.f68) ([.bslc (BR.root 0) (.f32 v203)] ++ List.replicate (Try.f68.ntmps - ([.bslc (BR.root 0) (.f32 v203)] : List DV).length) .undef) []).bind (retD TT Try.f68.results.toList 0) = (impl_areFinite_T v203).bind fun y => .leaf (impl_areFinite_enc v203 y) := by kernel_rfl
theorem impl_areFinite_fn (v203 : List Nat) (F : Fr) (hm : F.ids.length = 0) (h0 : St F [] F.H0) (hA : DVs.Ok F [] [.bslc (BR.root 0) (.f32 v203)]) {y : Bool} (hy : impl_areFinite_g v203 = some y) : ∃ H', FnOk Try.prog 68 (DVs.av F [.bslc (BR.root 0) (.f32 v203)]) F.H0 ((impl_areFinite_enc v203 y).1.av F) H' ∧ St F (impl_areFinite_enc v203 y).2 H' ∧ (impl_areFinite_enc v203 y).1.Ok F (impl_areFinite_enc v203 y).2 :=
  fn_fin tok impl_areFinite_hO mixed Try.func68 Try.call68 (by kernel_rfl) (LoopsOk_eq (l := []) (by kernel_rfl) trivial) (impl_areFinite_den v203) hy hm h0 hA
noncomputable def impl_areFinite_F : DFn := fun args L =>
  match args with
  | [a1] =>
    optT (rowF32 L a1) fun v203 =>
    .call (impl_areFinite_g v203) fun y => .leaf (.bool y, L)
  | _ => .fail
theorem impl_areFinite_Fok : COk Try.prog 68 impl_areFinite_F true := by
  intro F L H args r L' hs ha hr
  unfold impl_areFinite_F at hr
  split at hr
  · rename_i a1
    obtain ⟨v203, hv203, hr⟩ := optT_run hr
    simp only [Tree.run] at hr
    obtain ⟨y, hy, hr⟩ := Option.bind_eq_some_iff.1 hr
    simp only [Tree.run, Option.some.injEq, Prod.mk.injEq] at hr
    obtain ⟨rfl, rfl⟩ := hr
    exact call_ok0 hs (fun k => (([a1.av F] : List AV)[k]?).getD .top) [a1] [.bslc (BR.root 0) (.f32 v203)] (fun F' h0 hi hρ => ⟨by simp [DVs.av, DV.av, BR.av, hρ], impl_areFinite_fn v203 F' (by rw [hi]; rfl) (st_nil hi) ⟨bslc_ok hi (by rw [h0, hρ]; exact rowF32_ok hs (DVs.okAt ha 0 rfl) hv203), trivial⟩ hy⟩) rfl
  · cases hr
/-! impl.ValidMatrix -/
noncomputable def impl_ValidMatrix_LO (v195 : Int) (v196 : Int) (v197 : List Nat) : LOr := fun id e L =>
  match id with
  | _ => .fail
noncomputable def impl_ValidMatrix_tab : List (FuncId × DFn × Bool) := [(77, impl_isSide_F, true), (112, impl_lengthF_F, true), (68, impl_areFinite_F, true)]
theorem impl_ValidMatrix_hO : OrcOk Try.prog (tabD impl_ValidMatrix_tab) (tabM impl_ValidMatrix_tab) := tabD_cons impl_isSide_Fok (tabD_cons impl_lengthF_Fok (tabD_cons impl_areFinite_Fok (tabD_nil _)))
noncomputable def impl_ValidMatrix_T (v195 : Int) (v196 : Int) (v197 : List Nat) : Tree (Bool) :=
  (.br (impl_isSide_v v195) (
   (.br (impl_isSide_v v196) (
    (.br (decide ((impl_lengthF_v v197) = IntKind.i64.wrap (v195 * v196))) (
     (.call (impl_areFinite_g v197) fun v220 =>
     .leaf v220)
    ) (
     .leaf false
    ))
   ) (
    .leaf false
   ))
  ) (
   .leaf false
  ))

noncomputable def impl_ValidMatrix_g (v195 : Int) (v196 : Int) (v197 : List Nat) : Option (Bool) := (impl_ValidMatrix_T v195 v196 v197).run
def impl_ValidMatrix_enc (v195 : Int) (v196 : Int) (v197 : List Nat) (y : Bool) : Rs := (.bool y, [])
theorem impl_ValidMatrix_den (v195 : Int) (v196 : Int) (v197 : List Nat) : (den TT (tabD impl_ValidMatrix_tab) (tabM impl_ValidMatrix_tab) (impl_ValidMatrix_LO v195 v196 v197) (codeOf Try.f67) ([.agg [.int .i64 v195, .int .i64 v196, .bslc (BR.root 0) (.f32 v197)]] ++ List.replicate (Try.f67.ntmps - ([.agg [.int .i64 v195, .int .i64 v196, .bslc (BR.root 0) (.f32 v197)]] : List DV).length) .undef) []).bind (retD TT Try.f67.results.toList 0) = (impl_ValidMatrix_T v195 v196 v197).bind fun y => .leaf (impl_ValidMatrix_enc v195 v196 v197 y) := by kernel_rfl
theorem impl_ValidMatrix_fn (v195 : Int) (v196 : Int) (v197 : List Nat) (F : Fr) (hm : F.ids.length = 0) (h0 : St F [] F.H0) (hA : DVs.Ok F [] [.agg [.int .i64 v195, .int .i64 v196, .bslc (BR.root 0) (.f32 v197)]]) {y : Bool} (hy : impl_ValidMatrix_g v195 v196 v197 = some y) : ∃ H', FnOk Try.prog 67 (DVs.av F [.agg [.int .i64 v195, .int .i64 v196, .bslc (BR.root 0) (.f32 v197)]]) F.H0 ((impl_ValidMatrix_enc v195 v196 v197 y).1.av F) H' ∧ St F (impl_ValidMatrix_enc v195 v196 v197 y).2 H' ∧ (impl_ValidMatrix_enc v195 v196 v197 y).1.Ok F (impl_ValidMatrix_enc v195 v196 v197 y).2 :=
  fn_fin tok impl_ValidMatrix_hO mixed Try.func67 Try.call67 (by kernel_rfl) (LoopsOk_eq (l := []) (by kernel_rfl) trivial) (impl_ValidMatrix_den v195 v196 v197) hy hm h0 hA
noncomputable def impl_ValidMatrix_F : DFn := fun args L =>
  match args with
  | [.agg [.int .i64 v195, .int .i64 v196, a1]] =>
    optT (rowF32 L a1) fun v197 =>
    .call (impl_ValidMatrix_g v195 v196 v197) fun y => .leaf (.bool y, L)
  | _ => .fail
theorem impl_ValidMatrix_Fok : COk Try.prog 67 impl_ValidMatrix_F true := by
  intro F L H args r L' hs ha hr
  unfold impl_ValidMatrix_F at hr
  split at hr
  · rename_i v195 v196 a1
    obtain ⟨v197, hv197, hr⟩ := optT_run hr
    simp only [Tree.run] at hr
    obtain ⟨y, hy, hr⟩ := Option.bind_eq_some_iff.1 hr
    simp only [Tree.run, Option.some.injEq, Prod.mk.injEq] at hr
    obtain ⟨rfl, rfl⟩ := hr
    exact call_ok0 hs (fun k => (([a1.av F] : List AV)[k]?).getD .top) [.agg [.int .i64 v195, .int .i64 v196, a1]] [.agg [.int .i64 v195, .int .i64 v196, .bslc (BR.root 0) (.f32 v197)]] (fun F' h0 hi hρ => ⟨by simp [DVs.av, DV.av, BR.av, hρ], impl_ValidMatrix_fn v195 v196 v197 F' (by rw [hi]; rfl) (st_nil hi) ⟨⟨trivial, trivial, bslc_ok hi (by rw [h0, hρ]; exact rowF32_ok hs (DVs.okAt (DVs.okAt ha 0 rfl) 2 rfl) hv197), trivial⟩, trivial⟩ hy⟩) rfl
  · cases hr
/-! impl.isSquare -/
noncomputable def impl_isSquare_LO (v192 : Int) (v193 : Int) (v194 : List Nat) : LOr := fun id e L =>
  match id with
  | _ => .fail
noncomputable def impl_isSquare_tab : List (FuncId × DFn × Bool) := [(67, impl_ValidMatrix_F, true)]
theorem impl_isSquare_hO : OrcOk Try.prog (tabD impl_isSquare_tab) (tabM impl_isSquare_tab) := tabD_cons impl_ValidMatrix_Fok (tabD_nil _)
noncomputable def impl_isSquare_T (v192 : Int) (v193 : Int) (v194 : List Nat) : Tree (Bool) :=
  (.call (impl_ValidMatrix_g v192 v193 v194) fun v221 =>
  (.br v221 (
   .leaf (decide (v192 = v193))
  ) (
   .leaf false
  )))

noncomputable def impl_isSquare_g (v192 : Int) (v193 : Int) (v194 : List Nat) : Option (Bool) := (impl_isSquare_T v192 v193 v194).run
def impl_isSquare_enc (v192 : Int) (v193 : Int) (v194 : List Nat) (y : Bool) : Rs := (.bool y, [])
theorem impl_isSquare_den (v192 : Int) (v193 : Int) (v194 : List Nat) : (den TT (tabD impl_isSquare_tab) (tabM impl_isSquare_tab) (impl_isSquare_LO v192 v193 v194) (codeOf Try.f62) ([.agg [.int .i64 v192, .int .i64 v193, .bslc (BR.root 0) (.f32 v194)]] ++ List.replicate (Try.f62.ntmps - ([.agg [.int .i64 v192, .int .i64 v193, .bslc (BR.root 0) (.f32 v194)]] : List DV).length) .undef) []).bind (retD TT Try.f62.results.toList 0) = (impl_isSquare_T v192 v193 v194).bind fun y => .leaf (impl_isSquare_enc v192 v193 v194 y) := by kernel_rfl
theorem impl_isSquare_fn (v192 : Int) (v193 : Int) (v194 : List Nat) (F : Fr) (hm : F.ids.length = 0) (h0 : St F [] F.H0) (hA : DVs.Ok F [] [.agg [.int .i64 v192, .int .i64 v193, .bslc (BR.root 0) (.f32 v194)]]) {y : Bool} (hy : impl_isSquare_g v192 v193 v194 = some y) : ∃ H', FnOk Try.prog 62 (DVs.av F [.agg [.int .i64 v192, .int .i64 v193, .bslc (BR.root 0) (.f32 v194)]]) F.H0 ((impl_isSquare_enc v192 v193 v194 y).1.av F) H' ∧ St F (impl_isSquare_enc v192 v193 v194 y).2 H' ∧ (impl_isSquare_enc v192 v193 v194 y).1.Ok F (impl_isSquare_enc v192 v193 v194 y).2 :=
  fn_fin tok impl_isSquare_hO mixed Try.func62 Try.call62 (by kernel_rfl) (LoopsOk_eq (l := []) (by kernel_rfl) trivial) (impl_isSquare_den v192 v193 v194) hy hm h0 hA
noncomputable def impl_isSquare_F : DFn := fun args L =>
  match args with
  | [.agg [.int .i64 v192, .int .i64 v193, a1]] =>
    optT (rowF32 L a1) fun v194 =>
    .call (impl_isSquare_g v192 v193 v194) fun y => .leaf (.bool y, L)
  | _ => .fail
theorem impl_isSquare_Fok : COk Try.prog 62 impl_isSquare_F true := by
  intro F L H args r L' hs ha hr
  unfold impl_isSquare_F at hr
  split at hr
  · rename_i v192 v193 a1
    obtain ⟨v194, hv194, hr⟩ := optT_run hr
    simp only [Tree.run] at hr
    obtain ⟨y, hy, hr⟩ := Option.bind_eq_some_iff.1 hr
    simp only [Tree.run, Option.some.injEq, Prod.mk.injEq] at hr
    obtain ⟨rfl, rfl⟩ := hr
    exact call_ok0 hs (fun k => (([a1.av F] : List AV)[k]?).getD .top) [.agg [.int .i64 v192, .int .i64 v193, a1]] [.agg [.int .i64 v192, .int .i64 v193, .bslc (BR.root 0) (.f32 v194)]] (fun F' h0 hi hρ => ⟨by simp [DVs.av, DV.av, BR.av, hρ], impl_isSquare_fn v192 v193 v194 F' (by rw [hi]; rfl) (st_nil hi) ⟨⟨trivial, trivial, bslc_ok hi (by rw [h0, hρ]; exact rowF32_ok hs (DVs.okAt (DVs.okAt ha 0 rfl) 2 rfl) hv194), trivial⟩, trivial⟩ hy⟩) rfl
  · cases hr
/-! impl.newMatrix -/
noncomputable def impl_newMatrix_LO (v226 : Int) (v227 : Int) : LOr := fun id e L =>
  match id with
  | _ => .fail
noncomputable def impl_newMatrix_tab : List (FuncId × DFn × Bool) := []
theorem impl_newMatrix_hO : OrcOk Try.prog (tabD impl_newMatrix_tab) (tabM impl_newMatrix_tab) := tabD_nil _
noncomputable def impl_newMatrix_T (v226 : Int) (v227 : Int) : Tree (Int × Int) :=
  (.need (IntKind.i64.wrap (v226 * v227) = IntKind.i64.wrap (v226 * v227)) <|
  (.grd (inb (IntKind.i64.wrap (v226 * v227)) (maxN + 1)) <|
  .leaf (v226, v227)))

noncomputable def impl_newMatrix_g (v226 : Int) (v227 : Int) : Option (Int × Int) := (impl_newMatrix_T v226 v227).run
def impl_newMatrix_enc (v226 : Int) (v227 : Int) (y : Int × Int) : Rs := (.agg [.int .i64 y.1, .int .i64 y.2, .own 0 0 ((List.replicate (Int.toNat (IntKind.i64.wrap (v226 * v227))) (0 : Nat)).length)], [.row (.f32 (List.replicate (Int.toNat (IntKind.i64.wrap (v226 * v227))) (0 : Nat))) 0])
theorem impl_newMatrix_den (v226 : Int) (v227 : Int) : (den TT (tabD impl_newMatrix_tab) (tabM impl_newMatrix_tab) (impl_newMatrix_LO v226 v227) (codeOf Try.f117) ([.int .i64 v226, .int .i64 v227] ++ List.replicate (Try.f117.ntmps - ([.int .i64 v226, .int .i64 v227] : List DV).length) .undef) []).bind (retD TT Try.f117.results.toList 0) = (impl_newMatrix_T v226 v227).bind fun y => .leaf (impl_newMatrix_enc v226 v227 y) := by kernel_rfl
theorem impl_newMatrix_fn (v226 : Int) (v227 : Int) (F : Fr) (hm : F.ids.length = 0) (h0 : St F [] F.H0) (hA : DVs.Ok F [] [.int .i64 v226, .int .i64 v227]) {y : Int × Int} (hy : impl_newMatrix_g v226 v227 = some y) : ∃ H', FnOk Try.prog 117 (DVs.av F [.int .i64 v226, .int .i64 v227]) F.H0 ((impl_newMatrix_enc v226 v227 y).1.av F) H' ∧ St F (impl_newMatrix_enc v226 v227 y).2 H' ∧ (impl_newMatrix_enc v226 v227 y).1.Ok F (impl_newMatrix_enc v226 v227 y).2 :=
  fn_fin tok impl_newMatrix_hO mixed Try.func117 Try.call117 (by kernel_rfl) (LoopsOk_eq (l := []) (by kernel_rfl) trivial) (impl_newMatrix_den v226 v227) hy hm h0 hA
noncomputable def impl_newMatrix_F : DFn := fun args L =>
  match args with
  | [.int .i64 v226, .int .i64 v227] =>
    .call (impl_newMatrix_g v226 v227) fun y => .leaf (.agg [.int .i64 y.1, .int .i64 y.2, .own (L.length + 0) 0 ((List.replicate (Int.toNat (IntKind.i64.wrap (v226 * v227))) (0 : Nat)).length)], L ++ [.row (.f32 (List.replicate (Int.toNat (IntKind.i64.wrap (v226 * v227))) (0 : Nat))) 0])
  | _ => .fail
theorem impl_newMatrix_Fok : COk Try.prog 117 impl_newMatrix_F true := by
  intro F L H args r L' hs ha hr
  unfold impl_newMatrix_F at hr
  split at hr
  · rename_i v226 v227
    simp only [Tree.run] at hr
    obtain ⟨y, hy, hr⟩ := Option.bind_eq_some_iff.1 hr
    simp only [Tree.run, Option.some.injEq, Prod.mk.injEq] at hr
    obtain ⟨rfl, rfl⟩ := hr
    exact call_ok1 hs (fun k => (([] : List AV)[k]?).getD .top) [.int .i64 v226, .int .i64 v227] [.int .i64 v226, .int .i64 v227] (fun F' h0 hi hρ => ⟨by simp [DVs.av, DV.av, BR.av, hρ], impl_newMatrix_fn v226 v227 F' (by rw [hi]; rfl) (st_nil hi) ⟨trivial, trivial, trivial⟩ hy⟩) rfl rfl
  · cases hr
/-! impl.unit$1 -/
noncomputable def impl_unit_1_LO (v236 : Int) (v237 : Int) : LOr := fun id e L =>
  match id with
  | _ => .fail
noncomputable def impl_unit_1_tab : List (FuncId × DFn × Bool) := []
theorem impl_unit_1_hO : OrcOk Try.prog (tabD impl_unit_1_tab) (tabM impl_unit_1_tab) := tabD_nil _
noncomputable def impl_unit_1_T (v236 : Int) (v237 : Int) : Tree (Nat) :=
  (.br (decide (v236 = v237)) (
   .leaf (1065353216 : Nat)
  ) (
   .leaf (0 : Nat)
  ))

noncomputable def impl_unit_1_g (v236 : Int) (v237 : Int) : Option (Nat) := (impl_unit_1_T v236 v237).run
def impl_unit_1_enc (v236 : Int) (v237 : Int) (y : Nat) : Rs := (.flt .f32 y, [])
theorem impl_unit_1_den (v236 : Int) (v237 : Int) : (den TT (tabD impl_unit_1_tab) (tabM impl_unit_1_tab) (impl_unit_1_LO v236 v237) (codeOf Try.f136) ([.int .i64 v236, .int .i64 v237] ++ List.replicate (Try.f136.ntmps - ([.int .i64 v236, .int .i64 v237] : List DV).length) .undef) []).bind (retD TT Try.f136.results.toList 0) = (impl_unit_1_T v236 v237).bind fun y => .leaf (impl_unit_1_enc v236 v237 y) := by kernel_rfl
theorem impl_unit_1_fn (v236 : Int) (v237 : Int) (F : Fr) (hm : F.ids.length = 0) (h0 : St F [] F.H0) (hA : DVs.Ok F [] [.int .i64 v236, .int .i64 v237]) {y : Nat} (hy : impl_unit_1_g v236 v237 = some y) : ∃ H', FnOk Try.prog 136 (DVs.av F [.int .i64 v236, .int .i64 v237]) F.H0 ((impl_unit_1_enc v236 v237 y).1.av F) H' ∧ St F (impl_unit_1_enc v236 v237 y).2 H' ∧ (impl_unit_1_enc v236 v237 y).1.Ok F (impl_unit_1_enc v236 v237 y).2 :=
  fn_fin tok impl_unit_1_hO mixed Try.func136 Try.call136 (by kernel_rfl) (LoopsOk_eq (l := []) (by kernel_rfl) trivial) (impl_unit_1_den v236 v237) hy hm h0 hA
def impl_unit_1_v (v236 : Int) (v237 : Int) : Nat :=
  if (decide (v236 = v237)) = true then (
   (1065353216 : Nat)
  ) else (
   (0 : Nat)
  )
theorem impl_unit_1_tot (v236 : Int) (v237 : Int) : impl_unit_1_g v236 v237 = some (impl_unit_1_v v236 v237) := by
  unfold impl_unit_1_g impl_unit_1_T impl_unit_1_v
  simp only [Tree.run]
  repeat' (first | rfl | split)
noncomputable def impl_unit_1_F : DFn := fun args L =>
  match args with
  | [.int .i64 v236, .int .i64 v237] =>
    .leaf (.flt .f32 (impl_unit_1_v v236 v237), L)
  | _ => .fail
theorem impl_unit_1_Fok : COk Try.prog 136 impl_unit_1_F true := by
  intro F L H args r L' hs ha hr
  unfold impl_unit_1_F at hr
  split at hr
  · rename_i v236 v237
    have hy := impl_unit_1_tot v236 v237
    generalize impl_unit_1_v v236 v237 = y at hy hr
    simp only [Tree.run, Option.some.injEq, Prod.mk.injEq] at hr
    obtain ⟨rfl, rfl⟩ := hr
    exact call_ok0 hs (fun k => (([] : List AV)[k]?).getD .top) [.int .i64 v236, .int .i64 v237] [.int .i64 v236, .int .i64 v237] (fun F' h0 hi hρ => ⟨by simp [DVs.av, DV.av, BR.av, hρ], impl_unit_1_fn v236 v237 F' (by rw [hi]; rfl) (st_nil hi) ⟨trivial, trivial, trivial⟩ hy⟩) rfl
  · cases hr
/-! (impl.Matrix).set -/
noncomputable def impl_Matrix_set_LO (v244 : Int) (v245 : Int) (v246 : List Nat) (v247 : Int) (v248 : Int) (v249 : Nat) : LOr := fun id e L =>
  match id with
  | _ => .fail
noncomputable def impl_Matrix_set_tab : List (FuncId × DFn × Bool) := []
theorem impl_Matrix_set_hO : OrcOk Try.prog (tabD impl_Matrix_set_tab) (tabM impl_Matrix_set_tab) := tabD_nil _
noncomputable def impl_Matrix_set_T (v245 : Int) (v246 : List Nat) (v247 : Int) (v248 : Int) : Tree (Unit) :=
  (.grd (inb (IntKind.i64.wrap ((IntKind.i64.wrap (v247 * v245)) + v248)) v246.length) <|
  .leaf ())

noncomputable def impl_Matrix_set_g (v245 : Int) (v246 : List Nat) (v247 : Int) (v248 : Int) : Option (Unit) := (impl_Matrix_set_T v245 v246 v247 v248).run
def impl_Matrix_set_enc (v244 : Int) (v245 : Int) (v246 : List Nat) (v247 : Int) (v248 : Int) (v249 : Nat) (y : Unit) : Rs := (.tup [], [.row (.f32 (List.set v246 (Int.toNat (IntKind.i64.wrap ((IntKind.i64.wrap (v247 * v245)) + v248))) v249)) 0])
theorem impl_Matrix_set_den (v244 : Int) (v245 : Int) (v246 : List Nat) (v247 : Int) (v248 : Int) (v249 : Nat) : (den TT (tabD impl_Matrix_set_tab) (tabM impl_Matrix_set_tab) (impl_Matrix_set_LO v244 v245 v246 v247 v248 v249) (codeOf Try.f66) ([.agg [.int .i64 v244, .int .i64 v245, .own 0 0 v246.length], .int .i64 v247, .int .i64 v248, .flt .f32 v249] ++ List.replicate (Try.f66.ntmps - ([.agg [.int .i64 v244, .int .i64 v245, .own 0 0 v246.length], .int .i64 v247, .int .i64 v248, .flt .f32 v249] : List DV).length) .undef) [.row (.f32 v246) 0]).bind (retD TT Try.f66.results.toList 1) = (impl_Matrix_set_T v245 v246 v247 v248).bind fun y => .leaf (impl_Matrix_set_enc v244 v245 v246 v247 v248 v249 y) := by kernel_rfl
theorem impl_Matrix_set_fn (v244 : Int) (v245 : Int) (v246 : List Nat) (v247 : Int) (v248 : Int) (v249 : Nat) (F : Fr) (hm : F.ids.length = 1) (h0 : St F [.row (.f32 v246) 0] F.H0) (hA : DVs.Ok F [.row (.f32 v246) 0] [.agg [.int .i64 v244, .int .i64 v245, .own 0 0 v246.length], .int .i64 v247, .int .i64 v248, .flt .f32 v249]) {y : Unit} (hy : impl_Matrix_set_g v245 v246 v247 v248 = some y) : ∃ H', FnOk Try.prog 66 (DVs.av F [.agg [.int .i64 v244, .int .i64 v245, .own 0 0 v246.length], .int .i64 v247, .int .i64 v248, .flt .f32 v249]) F.H0 ((impl_Matrix_set_enc v244 v245 v246 v247 v248 v249 y).1.av F) H' ∧ St F (impl_Matrix_set_enc v244 v245 v246 v247 v248 v249 y).2 H' ∧ (impl_Matrix_set_enc v244 v245 v246 v247 v248 v249 y).1.Ok F (impl_Matrix_set_enc v244 v245 v246 v247 v248 v249 y).2 :=
  fn_fin tok impl_Matrix_set_hO mixed Try.func66 Try.call66 (by kernel_rfl) (LoopsOk_eq (l := []) (by kernel_rfl) trivial) (impl_Matrix_set_den v244 v245 v246 v247 v248 v249) hy hm h0 hA
noncomputable def impl_Matrix_set_F : DFn := fun args L =>
  match args with
  | [.agg [.int .i64 v244, .int .i64 v245, a1], .int .i64 v247, .int .i64 v248, .flt .f32 v249] =>
    optT (ownF32 L a1) fun qv246 =>
    (match sepB [qv246.1] [] with
    | true =>
    .call (impl_Matrix_set_g v245 qv246.2 v247 v248) fun y => .grd (decide ((List.set qv246.2 (Int.toNat (IntKind.i64.wrap ((IntKind.i64.wrap (v247 * v245)) + v248))) v249).length = qv246.2.length)) (.leaf (.tup [], setRows L ([qv246.1].zip [.f32 (List.set qv246.2 (Int.toNat (IntKind.i64.wrap ((IntKind.i64.wrap (v247 * v245)) + v248))) v249)])))
    | false => .fail)
  | _ => .fail
theorem impl_Matrix_set_Fok : COk Try.prog 66 impl_Matrix_set_F false := by
  intro F L H args r L' hs ha hr
  unfold impl_Matrix_set_F at hr
  split at hr
  · rename_i v244 v245 a1 v247 v248 v249
    obtain ⟨⟨jv246, v246⟩, hqv246, hr⟩ := optT_run hr
    simp only at hr
    split at hr
    · rename_i hsep
      obtain ⟨hnd, hsepv⟩ := sepB_spec hsep
      simp only [Tree.run] at hr
      obtain ⟨y, hy, hr⟩ := Option.bind_eq_some_iff.1 hr
      try simp only [Tree.run] at hr
      obtain ⟨hl0, hr⟩ := ite_run hr
      simp only [Option.some.injEq, Prod.mk.injEq] at hr
      obtain ⟨rfl, rfl⟩ := hr
      obtain ⟨hr0, hu0, ha0, hb0⟩ := (ownR_spec (DVs.okAt (DVs.okAt ha 0 rfl) 2 rfl) (ownF32_or hqv246))
      exact mut_ok hs (fun k => (([a1.av F] : List AV)[k]?).getD .top) [.agg [.int .i64 v244, .int .i64 v245, a1], .int .i64 v247, .int .i64 v248, .flt .f32 v249] [.agg [.int .i64 v244, .int .i64 v245, .own 0 0 v246.length], .int .i64 v247, .int .i64 v248, .flt .f32 v249] [jv246] [.f32 v246] [.f32 (List.set v246 (Int.toNat (IntKind.i64.wrap ((IntKind.i64.wrap (v247 * v245)) + v248))) v249)] hnd rfl rfl (fun i j q h1 h2 => by
          rcases i with _ | i
          · simp at h1 h2; subst h1; subst h2; exact hr0
          · simp at h1) (fun i q q' h1 h2 => by
          rcases i with _ | i
          · simp at h1 h2; subst h1; subst h2; exact of_decide_eq_true hl0
          · simp at h1) (fun j hj => by simp at hj; subst hj; simp [DVs.refs, DV.refs, hu0]) (fun F' h0 hi hρ hst hS => ⟨by (have ab0 : F'.abs 0 = F.abs jv246 := (by simp [Fr.abs, hi]); simp [DVs.av, DV.av, BR.av, hρ, Row.len, ha0, ab0]), by
          obtain ⟨H1, k1, k2, _⟩ := impl_Matrix_set_fn v244 v245 v246 v247 v248 v249 F' (by rw [hi]; rfl) hst ⟨⟨trivial, trivial, ⟨_, rfl, Nat.le_refl _, Nat.le_refl _, fun _ => rfl, (ownR_spec (DVs.okAt (DVs.okAt ha 0 rfl) 2 rfl) (ownF32_or hqv246)).2.2.2⟩, trivial⟩, trivial, trivial, trivial, trivial⟩ hy
          exact ⟨H1, k1, k2⟩⟩) (fun F' => rfl) (fun L' => trivial)
    · cases hr
  · cases hr
/-! impl.made -/
noncomputable def impl_made_l2_T (v225 : Int) (v303 : Int) (v305 : Int) (v306 : Int) (s : Int × (List Nat)) : Tree ((Int × (List Nat)) ⊕ ((List Nat))) :=
  (.br (decide (s.1 < v225)) (
   (.call (impl_Matrix_set_g v306 s.2 v303 s.1) fun v308 =>
   (.grd (decide ((List.set s.2 (Int.toNat (IntKind.i64.wrap ((IntKind.i64.wrap (v303 * v306)) + s.1))) (impl_unit_1_v v303 s.1)).length = s.2.length)) <|
   .leaf (.inl (IntKind.i64.wrap (s.1 + (1 : Int)), List.set s.2 (Int.toNat (IntKind.i64.wrap ((IntKind.i64.wrap (v303 * v306)) + s.1))) (impl_unit_1_v v303 s.1)))))
  ) (
   .leaf (.inr s.2)
  ))

noncomputable def impl_made_l2_g (v225 : Int) (v303 : Int) (v305 : Int) (v306 : Int) (s0 : Int × (List Nat)) : Option ((List Nat)) := whileM (fun s => (impl_made_l2_T v225 v303 v305 v306 s).run) s0
def impl_made_l2_E (v224 : Int) (v225 : Int) (v303 : Int) (v305 : Int) (v306 : Int) (s : Int × (List Nat)) : Sd := ([.top, .int .i64 v225, .fn 136 [], .top, .top, .top, .ptr 0 (0 : Nat) 0 (3 : Nat), .ptr 1 (0 : Nat) 0 (3 : Nat), .int .i64 v303, .top, .top, .top, .top, .int .i64 v224, .int .i64 v303, .top, .top, .int .i64 v225, .int .i64 s.1, .top, .top, .top, .top, .top, .top, .top, .top, .top, .top, .top, .top, .top], [.gen [.int .i64 (0 : Int), .int .i64 (0 : Int), .nilslc] false 0, .gen [.int .i64 v305, .int .i64 v306, .own 2 0 ((s.2).length)] false 0, .row (.f32 s.2) 0])
def impl_made_l2_X (v224 : Int) (v225 : Int) (v303 : Int) (v305 : Int) (v306 : Int) (x : (List Nat)) : Out := (.normal, [.top, .int .i64 v225, .fn 136 [], .top, .top, .top, .ptr 0 (0 : Nat) 0 (3 : Nat), .ptr 1 (0 : Nat) 0 (3 : Nat), .top, .top, .top, .top, .top, .int .i64 v224, .int .i64 v303, .top, .top, .top, .top, .top, .top, .top, .top, .top, .top, .top, .top, .top, .top, .top, .top, .top], [.gen [.int .i64 (0 : Int), .int .i64 (0 : Int), .nilslc] false 0, .gen [.int .i64 v305, .int .i64 v306, .own 2 0 ((x).length)] false 0, .row (.f32 x) 0])
def impl_made_l2_kill : List Nat := [1, 0, 0, 1, 1, 1, 0, 0, 0, 1, 1, 1, 1, 0, 0, 1, 1, 0, 0, 1, 1, 1, 1, 1, 1, 1, 1, 1, 1, 1, 1, 1]
def impl_made_l2_nx : Exit → List Nat
  | .exit 0 => [1, 1, 1, 1, 1, 1, 0, 0, 1, 1, 1, 1, 1, 1, 1, 1, 1, 1, 1, 1, 1, 1, 1, 1, 1, 1, 1, 1, 1, 1, 1, 1]
  | .exit 1 => [1, 0, 0, 1, 1, 1, 0, 0, 1, 1, 1, 1, 1, 0, 0, 1, 1, 1, 1, 1, 1, 1, 1, 1, 1, 1, 1, 1, 1, 1, 1, 1]
  | .exit 2 => [1, 0, 0, 1, 1, 1, 0, 0, 1, 1, 1, 1, 1, 0, 0, 1, 1, 1, 1, 1, 1, 1, 1, 1, 1, 1, 1, 1, 1, 1, 1, 1]
  | .ret => [1, 1, 1, 1, 1, 1, 0, 1, 1, 1, 1, 1, 1, 1, 1, 1, 1, 1, 1, 1, 1, 1, 1, 1, 1, 1, 1, 1, 1, 1, 1, 1]
  | _ => []
noncomputable def impl_made_l0_T (v224 : Int) (v225 : Int) (v288 : Int) (v289 : Int) (s : Int × (List Nat)) : Tree ((Int × (List Nat)) ⊕ ((List Nat))) :=
  (.br (decide (s.1 < v224)) (
   (.need (some (impl_made_l2_E v224 v225 s.1 v288 v289 ((0 : Int), s.2)) = some (impl_made_l2_E v224 v225 s.1 v288 v289 ((0 : Int), s.2))) <|
   (.call (impl_made_l2_g v225 s.1 v288 v289 ((0 : Int), s.2)) fun v309 =>
   .leaf (.inl (IntKind.i64.wrap (s.1 + (1 : Int)), v309))))
  ) (
   .leaf (.inr s.2)
  ))

noncomputable def impl_made_l0_g (v224 : Int) (v225 : Int) (v288 : Int) (v289 : Int) (s0 : Int × (List Nat)) : Option ((List Nat)) := whileM (fun s => (impl_made_l0_T v224 v225 v288 v289 s).run) s0
def impl_made_l0_E (v224 : Int) (v225 : Int) (v288 : Int) (v289 : Int) (s : Int × (List Nat)) : Sd := ([.top, .int .i64 v225, .fn 136 [], .top, .top, .top, .ptr 0 (0 : Nat) 0 (3 : Nat), .ptr 1 (0 : Nat) 0 (3 : Nat), .top, .top, .top, .top, .top, .int .i64 v224, .int .i64 s.1, .top, .top, .top, .top, .top, .top, .top, .top, .top, .top, .top, .top, .top, .top, .top, .top, .top], [.gen [.int .i64 (0 : Int), .int .i64 (0 : Int), .nilslc] false 0, .gen [.int .i64 v288, .int .i64 v289, .own 2 0 ((s.2).length)] false 0, .row (.f32 s.2) 0])
def impl_made_l0_X (v224 : Int) (v225 : Int) (v288 : Int) (v289 : Int) (x : (List Nat)) : Out := (.normal, [.top, .top, .top, .top, .top, .top, .ptr 0 (0 : Nat) 0 (3 : Nat), .ptr 1 (0 : Nat) 0 (3 : Nat), .top, .top, .top, .top, .top, .top, .top, .top, .top, .top, .top, .top, .top, .top, .top, .top, .top, .top, .top, .top, .top, .top, .top, .top], [.gen [.int .i64 (0 : Int), .int .i64 (0 : Int), .nilslc] false 0, .gen [.int .i64 v288, .int .i64 v289, .own 2 0 ((x).length)] false 0, .row (.f32 x) 0])
def impl_made_l0_kill : List Nat := [1, 0, 0, 1, 1, 1, 0, 0, 1, 1, 1, 1, 1, 0, 0, 1, 1, 1, 1, 1, 1, 1, 1, 1, 1, 1, 1, 1, 1, 1, 1, 1]
def impl_made_l0_nx : Exit → List Nat
  | .exit 0 => [1, 1, 1, 1, 1, 1, 0, 0, 1, 1, 1, 1, 1, 1, 1, 1, 1, 1, 1, 1, 1, 1, 1, 1, 1, 1, 1, 1, 1, 1, 1, 1]
  | .ret => [1, 1, 1, 1, 1, 1, 0, 1, 1, 1, 1, 1, 1, 1, 1, 1, 1, 1, 1, 1, 1, 1, 1, 1, 1, 1, 1, 1, 1, 1, 1, 1]
  | _ => []
noncomputable def impl_made_LO (v224 : Int) (v225 : Int) : LOr := fun id e L =>
  match id with
  | 2 => .need (normA 0 impl_made_l2_kill e L = some (impl_made_l2_E v224 v225 (gI (vAt e 8)) (gI (cAt L (vAt e 7) 0)) (gI (cAt L (vAt e 7) 1)) ((gI (vAt e 18)), (gRF L (cAt L (vAt e 7) 2))))) (.call (impl_made_l2_g v225 (gI (vAt e 8)) (gI (cAt L (vAt e 7) 0)) (gI (cAt L (vAt e 7) 1)) ((gI (vAt e 18)), (gRF L (cAt L (vAt e 7) 2)))) fun x => .leaf (impl_made_l2_X v224 v225 (gI (vAt e 8)) (gI (cAt L (vAt e 7) 0)) (gI (cAt L (vAt e 7) 1)) x))
  | 0 => .need (normA 0 impl_made_l0_kill e L = some (impl_made_l0_E v224 v225 (gI (cAt L (vAt e 7) 0)) (gI (cAt L (vAt e 7) 1)) ((gI (vAt e 14)), (gRF L (cAt L (vAt e 7) 2))))) (.call (impl_made_l0_g v224 v225 (gI (cAt L (vAt e 7) 0)) (gI (cAt L (vAt e 7) 1)) ((gI (vAt e 14)), (gRF L (cAt L (vAt e 7) 2)))) fun x => .leaf (impl_made_l0_X v224 v225 (gI (cAt L (vAt e 7) 0)) (gI (cAt L (vAt e 7) 1)) x))
  | _ => .fail
noncomputable def impl_made_tab : List (FuncId × DFn × Bool) := [(117, impl_newMatrix_F, true), (136, impl_unit_1_F, true), (66, impl_Matrix_set_F, false)]
theorem impl_made_hO : OrcOk Try.prog (tabD impl_made_tab) (tabM impl_made_tab) := tabD_cons impl_newMatrix_Fok (tabD_cons impl_unit_1_Fok (tabD_cons impl_Matrix_set_Fok (tabD_nil _)))
theorem impl_made_l2_be (v224 : Int) (v225 : Int) (v303 : Int) (v305 : Int) (v306 : Int) (s : Int × (List Nat)) : bodyT TT (tabD impl_made_tab) (tabM impl_made_tab) (impl_made_LO v224 v225) 0 impl_made_l2_kill impl_made_l2_nx (bodyOf Try.f78 2) 2 (impl_made_l2_E v224 v225 v303 v305 v306 s) = (impl_made_l2_T v225 v303 v305 v306 s).bind fun y => .leaf (outS (impl_made_l2_E v224 v225 v303 v305 v306) (impl_made_l2_X v224 v225 v303 v305 v306) y) := by kernel_rfl
theorem impl_made_l2_ok (v224 : Int) (v225 : Int) : LSound Try.prog 0 (impl_made_LO v224 v225) 2 (bodyOf Try.f78 2) := by
  intro e L out h
  exact lo_ok (E := impl_made_l2_E v224 v225 (gI (vAt e 8)) (gI (cAt L (vAt e 7) 0)) (gI (cAt L (vAt e 7) 1))) (gT := impl_made_l2_T v225 (gI (vAt e 8)) (gI (cAt L (vAt e 7) 0)) (gI (cAt L (vAt e 7) 1))) (X := impl_made_l2_X v224 v225 (gI (vAt e 8)) (gI (cAt L (vAt e 7) 0)) (gI (cAt L (vAt e 7) 1))) (s0 := ((gI (vAt e 18)), (gRF L (cAt L (vAt e 7) 2)))) tok impl_made_hO mixed (LoopsOk_eq (l := []) (by kernel_rfl) trivial) (impl_made_l2_be v224 v225 (gI (vAt e 8)) (gI (cAt L (vAt e 7) 0)) (gI (cAt L (vAt e 7) 1))) rfl (by intro x; rfl) h
theorem impl_made_l0_be (v224 : Int) (v225 : Int) (v288 : Int) (v289 : Int) (s : Int × (List Nat)) : bodyT TT (tabD impl_made_tab) (tabM impl_made_tab) (impl_made_LO v224 v225) 0 impl_made_l0_kill impl_made_l0_nx (bodyOf Try.f78 0) 0 (impl_made_l0_E v224 v225 v288 v289 s) = (impl_made_l0_T v224 v225 v288 v289 s).bind fun y => .leaf (outS (impl_made_l0_E v224 v225 v288 v289) (impl_made_l0_X v224 v225 v288 v289) y) := by kernel_rfl
theorem impl_made_l0_ok (v224 : Int) (v225 : Int) : LSound Try.prog 0 (impl_made_LO v224 v225) 0 (bodyOf Try.f78 0) := by
  intro e L out h
  exact lo_ok (E := impl_made_l0_E v224 v225 (gI (cAt L (vAt e 7) 0)) (gI (cAt L (vAt e 7) 1))) (gT := impl_made_l0_T v224 v225 (gI (cAt L (vAt e 7) 0)) (gI (cAt L (vAt e 7) 1))) (X := impl_made_l0_X v224 v225 (gI (cAt L (vAt e 7) 0)) (gI (cAt L (vAt e 7) 1))) (s0 := ((gI (vAt e 14)), (gRF L (cAt L (vAt e 7) 2)))) tok impl_made_hO mixed (LoopsOk_eq (l := [(2, bodyOf Try.f78 2)]) (by kernel_rfl) ⟨impl_made_l2_ok v224 v225, trivial⟩) (impl_made_l0_be v224 v225 (gI (cAt L (vAt e 7) 0)) (gI (cAt L (vAt e 7) 1))) rfl (by intro x; rfl) h
noncomputable def impl_made_T (v224 : Int) (v225 : Int) : Tree (Int × Int × (List Nat)) :=
  (.call (impl_newMatrix_g v224 v225) fun v228 =>
  (.need (some (impl_made_l0_E v224 v225 v228.1 v228.2 ((0 : Int), List.replicate (Int.toNat (IntKind.i64.wrap (v224 * v225))) (0 : Nat))) = some (impl_made_l0_E v224 v225 v228.1 v228.2 ((0 : Int), List.replicate (Int.toNat (IntKind.i64.wrap (v224 * v225))) (0 : Nat)))) <|
  (.call (impl_made_l0_g v224 v225 v228.1 v228.2 ((0 : Int), List.replicate (Int.toNat (IntKind.i64.wrap (v224 * v225))) (0 : Nat))) fun v310 =>
  .leaf (v228.1, v228.2, v310))))

noncomputable def impl_made_g (v224 : Int) (v225 : Int) : Option (Int × Int × (List Nat)) := (impl_made_T v224 v225).run
def impl_made_enc (v224 : Int) (v225 : Int) (y : Int × Int × (List Nat)) : Rs := (.agg [.int .i64 y.1, .int .i64 y.2.1, .own 0 0 ((y.2.2).length)], [.row (.f32 y.2.2) 0])
theorem impl_made_den (v224 : Int) (v225 : Int) : (den TT (tabD impl_made_tab) (tabM impl_made_tab) (impl_made_LO v224 v225) (codeOf Try.f78) ([.int .i64 v224, .int .i64 v225, .fn 136 []] ++ List.replicate (Try.f78.ntmps - ([.int .i64 v224, .int .i64 v225, .fn 136 []] : List DV).length) .undef) []).bind (retD TT Try.f78.results.toList 0) = (impl_made_T v224 v225).bind fun y => .leaf (impl_made_enc v224 v225 y) := by kernel_rfl
theorem impl_made_fn (v224 : Int) (v225 : Int) (F : Fr) (hm : F.ids.length = 0) (h0 : St F [] F.H0) (hA : DVs.Ok F [] [.int .i64 v224, .int .i64 v225, .fn 136 []]) {y : Int × Int × (List Nat)} (hy : impl_made_g v224 v225 = some y) : ∃ H', FnOk Try.prog 78 (DVs.av F [.int .i64 v224, .int .i64 v225, .fn 136 []]) F.H0 ((impl_made_enc v224 v225 y).1.av F) H' ∧ St F (impl_made_enc v224 v225 y).2 H' ∧ (impl_made_enc v224 v225 y).1.Ok F (impl_made_enc v224 v225 y).2 :=
  fn_fin tok impl_made_hO mixed Try.func78 Try.call78 (by kernel_rfl) (LoopsOk_eq (l := [(0, bodyOf Try.f78 0)]) (by kernel_rfl) ⟨impl_made_l0_ok v224 v225, trivial⟩) (impl_made_den v224 v225) hy hm h0 hA
noncomputable def impl_made_F : DFn := fun args L =>
  match args with
  | [.int .i64 v224, .int .i64 v225, .fn 136 []] =>
    .call (impl_made_g v224 v225) fun y => .leaf (.agg [.int .i64 y.1, .int .i64 y.2.1, .own (L.length + 0) 0 ((y.2.2).length)], L ++ [.row (.f32 y.2.2) 0])
  | _ => .fail
theorem impl_made_Fok : COk Try.prog 78 impl_made_F true := by
  intro F L H args r L' hs ha hr
  unfold impl_made_F at hr
  split at hr
  · rename_i v224 v225
    simp only [Tree.run] at hr
    obtain ⟨y, hy, hr⟩ := Option.bind_eq_some_iff.1 hr
    simp only [Tree.run, Option.some.injEq, Prod.mk.injEq] at hr
    obtain ⟨rfl, rfl⟩ := hr
    exact call_ok1 hs (fun k => (([] : List AV)[k]?).getD .top) [.int .i64 v224, .int .i64 v225, .fn 136 []] [.int .i64 v224, .int .i64 v225, .fn 136 []] (fun F' h0 hi hρ => ⟨by simp [DVs.av, DV.av, BR.av, hρ], impl_made_fn v224 v225 F' (by rw [hi]; rfl) (st_nil hi) ⟨trivial, trivial, trivial, trivial⟩ hy⟩) rfl rfl
  · cases hr
/-! impl.unit -/
noncomputable def impl_unit_LO (v223 : Int) : LOr := fun id e L =>
  match id with
  | _ => .fail
noncomputable def impl_unit_tab : List (FuncId × DFn × Bool) := [(78, impl_made_F, true)]
theorem impl_unit_hO : OrcOk Try.prog (tabD impl_unit_tab) (tabM impl_unit_tab) := tabD_cons impl_made_Fok (tabD_nil _)
noncomputable def impl_unit_T (v223 : Int) : Tree (Int × Int × (List Nat)) :=
  (.call (impl_made_g v223 v223) fun v311 =>
  .leaf (v311.1, v311.2.1, v311.2.2))

noncomputable def impl_unit_g (v223 : Int) : Option (Int × Int × (List Nat)) := (impl_unit_T v223).run
def impl_unit_enc (v223 : Int) (y : Int × Int × (List Nat)) : Rs := (.agg [.int .i64 y.1, .int .i64 y.2.1, .own 0 0 ((y.2.2).length)], [.row (.f32 y.2.2) 0])
theorem impl_unit_den (v223 : Int) : (den TT (tabD impl_unit_tab) (tabM impl_unit_tab) (impl_unit_LO v223) (codeOf Try.f63) ([.int .i64 v223] ++ List.replicate (Try.f63.ntmps - ([.int .i64 v223] : List DV).length) .undef) []).bind (retD TT Try.f63.results.toList 0) = (impl_unit_T v223).bind fun y => .leaf (impl_unit_enc v223 y) := by kernel_rfl
theorem impl_unit_fn (v223 : Int) (F : Fr) (hm : F.ids.length = 0) (h0 : St F [] F.H0) (hA : DVs.Ok F [] [.int .i64 v223]) {y : Int × Int × (List Nat)} (hy : impl_unit_g v223 = some y) : ∃ H', FnOk Try.prog 63 (DVs.av F [.int .i64 v223]) F.H0 ((impl_unit_enc v223 y).1.av F) H' ∧ St F (impl_unit_enc v223 y).2 H' ∧ (impl_unit_enc v223 y).1.Ok F (impl_unit_enc v223 y).2 :=
  fn_fin tok impl_unit_hO mixed Try.func63 Try.call63 (by kernel_rfl) (LoopsOk_eq (l := []) (by kernel_rfl) trivial) (impl_unit_den v223) hy hm h0 hA
noncomputable def impl_unit_F : DFn := fun args L =>
  match args with
  | [.int .i64 v223] =>
    .call (impl_unit_g v223) fun y => .leaf (.agg [.int .i64 y.1, .int .i64 y.2.1, .own (L.length + 0) 0 ((y.2.2).length)], L ++ [.row (.f32 y.2.2) 0])
  | _ => .fail
theorem impl_unit_Fok : COk Try.prog 63 impl_unit_F true := by
  intro F L H args r L' hs ha hr
  unfold impl_unit_F at hr
  split at hr
  · rename_i v223
    simp only [Tree.run] at hr
    obtain ⟨y, hy, hr⟩ := Option.bind_eq_some_iff.1 hr
    simp only [Tree.run, Option.some.injEq, Prod.mk.injEq] at hr
    obtain ⟨rfl, rfl⟩ := hr
    exact call_ok1 hs (fun k => (([] : List AV)[k]?).getD .top) [.int .i64 v223] [.int .i64 v223] (fun F' h0 hi hρ => ⟨by simp [DVs.av, DV.av, BR.av, hρ], impl_unit_fn v223 F' (by rw [hi]; rfl) (st_nil hi) ⟨trivial, trivial⟩ hy⟩) rfl rfl
  · cases hr
/-! impl.areFactors -/
noncomputable def impl_areFactors_LO (v323 : Int) (v324 : Int) (v325 : List Nat) (v326 : Int) (v327 : Int) (v328 : List Nat) : LOr := fun id e L =>
  match id with
  | _ => .fail
noncomputable def impl_areFactors_tab : List (FuncId × DFn × Bool) := [(67, impl_ValidMatrix_F, true)]
theorem impl_areFactors_hO : OrcOk Try.prog (tabD impl_areFactors_tab) (tabM impl_areFactors_tab) := tabD_cons impl_ValidMatrix_Fok (tabD_nil _)
noncomputable def impl_areFactors_T (v323 : Int) (v324 : Int) (v325 : List Nat) (v326 : Int) (v327 : Int) (v328 : List Nat) : Tree (Bool) :=
  (.call (impl_ValidMatrix_g v323 v324 v325) fun v329 =>
  (.br v329 (
   (.call (impl_ValidMatrix_g v326 v327 v328) fun v330 =>
   (.br v330 (
    .leaf (decide (v324 = v326))
   ) (
    .leaf false
   )))
  ) (
   .leaf false
  )))

noncomputable def impl_areFactors_g (v323 : Int) (v324 : Int) (v325 : List Nat) (v326 : Int) (v327 : Int) (v328 : List Nat) : Option (Bool) := (impl_areFactors_T v323 v324 v325 v326 v327 v328).run
def impl_areFactors_enc (v323 : Int) (v324 : Int) (v325 : List Nat) (v326 : Int) (v327 : Int) (v328 : List Nat) (y : Bool) : Rs := (.bool y, [])
theorem impl_areFactors_den (v323 : Int) (v324 : Int) (v325 : List Nat) (v326 : Int) (v327 : Int) (v328 : List Nat) : (den TT (tabD impl_areFactors_tab) (tabM impl_areFactors_tab) (impl_areFactors_LO v323 v324 v325 v326 v327 v328) (codeOf Try.f76) ([.agg [.int .i64 v323, .int .i64 v324, .bslc (BR.root 0) (.f32 v325)], .agg [.int .i64 v326, .int .i64 v327, .bslc (BR.root 1) (.f32 v328)]] ++ List.replicate (Try.f76.ntmps - ([.agg [.int .i64 v323, .int .i64 v324, .bslc (BR.root 0) (.f32 v325)], .agg [.int .i64 v326, .int .i64 v327, .bslc (BR.root 1) (.f32 v328)]] : List DV).length) .undef) []).bind (retD TT Try.f76.results.toList 0) = (impl_areFactors_T v323 v324 v325 v326 v327 v328).bind fun y => .leaf (impl_areFactors_enc v323 v324 v325 v326 v327 v328 y) := by kernel_rfl
theorem impl_areFactors_fn (v323 : Int) (v324 : Int) (v325 : List Nat) (v326 : Int) (v327 : Int) (v328 : List Nat) (F : Fr) (hm : F.ids.length = 0) (h0 : St F [] F.H0) (hA : DVs.Ok F [] [.agg [.int .i64 v323, .int .i64 v324, .bslc (BR.root 0) (.f32 v325)], .agg [.int .i64 v326, .int .i64 v327, .bslc (BR.root 1) (.f32 v328)]]) {y : Bool} (hy : impl_areFactors_g v323 v324 v325 v326 v327 v328 = some y) : ∃ H', FnOk Try.prog 76 (DVs.av F [.agg [.int .i64 v323, .int .i64 v324, .bslc (BR.root 0) (.f32 v325)], .agg [.int .i64 v326, .int .i64 v327, .bslc (BR.root 1) (.f32 v328)]]) F.H0 ((impl_areFactors_enc v323 v324 v325 v326 v327 v328 y).1.av F) H' ∧ St F (impl_areFactors_enc v323 v324 v325 v326 v327 v328 y).2 H' ∧ (impl_areFactors_enc v323 v324 v325 v326 v327 v328 y).1.Ok F (impl_areFactors_enc v323 v324 v325 v326 v327 v328 y).2 :=
  fn_fin tok impl_areFactors_hO mixed Try.func76 Try.call76 (by kernel_rfl) (LoopsOk_eq (l := []) (by kernel_rfl) trivial) (impl_areFactors_den v323 v324 v325 v326 v327 v328) hy hm h0 hA
noncomputable def impl_areFactors_F : DFn := fun args L =>
  match args with
  | [.agg [.int .i64 v323, .int .i64 v324, a1], .agg [.int .i64 v326, .int .i64 v327, a2]] =>
    optT (rowF32 L a1) fun v325 =>
    optT (rowF32 L a2) fun v328 =>
    .call (impl_areFactors_g v323 v324 v325 v326 v327 v328) fun y => .leaf (.bool y, L)
  | _ => .fail
theorem impl_areFactors_Fok : COk Try.prog 76 impl_areFactors_F true := by
  intro F L H args r L' hs ha hr
  unfold impl_areFactors_F at hr
  split at hr
  · rename_i v323 v324 a1 v326 v327 a2
    obtain ⟨v325, hv325, hr⟩ := optT_run hr
    obtain ⟨v328, hv328, hr⟩ := optT_run hr
    simp only [Tree.run] at hr
    obtain ⟨y, hy, hr⟩ := Option.bind_eq_some_iff.1 hr
    simp only [Tree.run, Option.some.injEq, Prod.mk.injEq] at hr
    obtain ⟨rfl, rfl⟩ := hr
    exact call_ok0 hs (fun k => (([a1.av F, a2.av F] : List AV)[k]?).getD .top) [.agg [.int .i64 v323, .int .i64 v324, a1], .agg [.int .i64 v326, .int .i64 v327, a2]] [.agg [.int .i64 v323, .int .i64 v324, .bslc (BR.root 0) (.f32 v325)], .agg [.int .i64 v326, .int .i64 v327, .bslc (BR.root 1) (.f32 v328)]] (fun F' h0 hi hρ => ⟨by simp [DVs.av, DV.av, BR.av, hρ], impl_areFactors_fn v323 v324 v325 v326 v327 v328 F' (by rw [hi]; rfl) (st_nil hi) ⟨⟨trivial, trivial, bslc_ok hi (by rw [h0, hρ]; exact rowF32_ok hs (DVs.okAt (DVs.okAt ha 0 rfl) 2 rfl) hv325), trivial⟩, ⟨trivial, trivial, bslc_ok hi (by rw [h0, hρ]; exact rowF32_ok hs (DVs.okAt (DVs.okAt ha 1 rfl) 2 rfl) hv328), trivial⟩, trivial⟩ hy⟩) rfl
  · cases hr
/-! slices.Clone[list of float32,float32] -/
noncomputable def slices_CloneF_LO (v366 : List Nat) : LOr := fun id e L =>
  match id with
  | _ => .fail
noncomputable def slices_CloneF_tab : List (FuncId × DFn × Bool) := []
theorem slices_CloneF_hO : OrcOk Try.prog (tabD slices_CloneF_tab) (tabM slices_CloneF_tab) := tabD_nil _
noncomputable def slices_CloneF_T (v366 : List Nat) : Tree (Unit) :=
  (.grd (decide (0 < v366.length)) <|
  (.grd (fits (([] : List Nat) ++ v366).length) <|
  .leaf ()))

noncomputable def slices_CloneF_g (v366 : List Nat) : Option (Unit) := (slices_CloneF_T v366).run
def slices_CloneF_enc (v366 : List Nat) (y : Unit) : Rs := (.own 0 0 ((([] : List Nat) ++ v366).length), [.row (.f32 (([] : List Nat) ++ v366)) 0])
theorem slices_CloneF_den (v366 : List Nat) : (den TT (tabD slices_CloneF_tab) (tabM slices_CloneF_tab) (slices_CloneF_LO v366) (codeOf Try.f105) ([.bslc (BR.root 0) (.f32 v366)] ++ List.replicate (Try.f105.ntmps - ([.bslc (BR.root 0) (.f32 v366)] : List DV).length) .undef) []).bind (retD TT Try.f105.results.toList 0) = (slices_CloneF_T v366).bind fun y => .leaf (slices_CloneF_enc v366 y) := by kernel_rfl
theorem slices_CloneF_fn (v366 : List Nat) (F : Fr) (hm : F.ids.length = 0) (h0 : St F [] F.H0) (hA : DVs.Ok F [] [.bslc (BR.root 0) (.f32 v366)]) {y : Unit} (hy : slices_CloneF_g v366 = some y) : ∃ H', FnOk Try.prog 105 (DVs.av F [.bslc (BR.root 0) (.f32 v366)]) F.H0 ((slices_CloneF_enc v366 y).1.av F) H' ∧ St F (slices_CloneF_enc v366 y).2 H' ∧ (slices_CloneF_enc v366 y).1.Ok F (slices_CloneF_enc v366 y).2 :=
  fn_fin tok slices_CloneF_hO mixed Try.func105 Try.call105 (by kernel_rfl) (LoopsOk_eq (l := []) (by kernel_rfl) trivial) (slices_CloneF_den v366) hy hm h0 hA
noncomputable def slices_CloneF_F : DFn := fun args L =>
  match args with
  | [a1] =>
    optT (rowF32 L a1) fun v366 =>
    .call (slices_CloneF_g v366) fun y => .leaf (.own (L.length + 0) 0 ((([] : List Nat) ++ v366).length), L ++ [.row (.f32 (([] : List Nat) ++ v366)) 0])
  | _ => .fail
theorem slices_CloneF_Fok : COk Try.prog 105 slices_CloneF_F true := by
  intro F L H args r L' hs ha hr
  unfold slices_CloneF_F at hr
  split at hr
  · rename_i a1
    obtain ⟨v366, hv366, hr⟩ := optT_run hr
    simp only [Tree.run] at hr
    obtain ⟨y, hy, hr⟩ := Option.bind_eq_some_iff.1 hr
    simp only [Tree.run, Option.some.injEq, Prod.mk.injEq] at hr
    obtain ⟨rfl, rfl⟩ := hr
    exact call_ok1 hs (fun k => (([a1.av F] : List AV)[k]?).getD .top) [a1] [.bslc (BR.root 0) (.f32 v366)] (fun F' h0 hi hρ => ⟨by simp [DVs.av, DV.av, BR.av, hρ], slices_CloneF_fn v366 F' (by rw [hi]; rfl) (st_nil hi) ⟨bslc_ok hi (by rw [h0, hρ]; exact rowF32_ok hs (DVs.okAt ha 0 rfl) hv366), trivial⟩ hy⟩) rfl rfl
  · cases hr
/-! (impl.Matrix).row -/
noncomputable def impl_Matrix_row_LO (v362 : Int) (v363 : Int) (v364 : List Nat) (v365 : Int) : LOr := fun id e L =>
  match id with
  | _ => .fail
noncomputable def impl_Matrix_row_tab : List (FuncId × DFn × Bool) := [(105, slices_CloneF_F, true)]
theorem impl_Matrix_row_hO : OrcOk Try.prog (tabD impl_Matrix_row_tab) (tabM impl_Matrix_row_tab) := tabD_cons slices_CloneF_Fok (tabD_nil _)
noncomputable def impl_Matrix_row_T (v363 : Int) (v364 : List Nat) (v365 : Int) : Tree (Unit) :=
  (.grd (sok (IntKind.i64.wrap (v365 * v363)) (IntKind.i64.wrap ((IntKind.i64.wrap (v365 + (1 : Int))) * v363)) v364.length) <|
  (.call (slices_CloneF_g (AM.sub v364 (IntKind.i64.wrap (v365 * v363)) (IntKind.i64.wrap ((IntKind.i64.wrap (v365 + (1 : Int))) * v363)))) fun v367 =>
  .leaf ()))

noncomputable def impl_Matrix_row_g (v363 : Int) (v364 : List Nat) (v365 : Int) : Option (Unit) := (impl_Matrix_row_T v363 v364 v365).run
def impl_Matrix_row_enc (v362 : Int) (v363 : Int) (v364 : List Nat) (v365 : Int) (y : Unit) : Rs := (.own 0 0 ((([] : List Nat) ++ (AM.sub v364 (IntKind.i64.wrap (v365 * v363)) (IntKind.i64.wrap ((IntKind.i64.wrap (v365 + (1 : Int))) * v363)))).length), [.row (.f32 (([] : List Nat) ++ (AM.sub v364 (IntKind.i64.wrap (v365 * v363)) (IntKind.i64.wrap ((IntKind.i64.wrap (v365 + (1 : Int))) * v363))))) 0])
theorem impl_Matrix_row_den (v362 : Int) (v363 : Int) (v364 : List Nat) (v365 : Int) : (den TT (tabD impl_Matrix_row_tab) (tabM impl_Matrix_row_tab) (impl_Matrix_row_LO v362 v363 v364 v365) (codeOf Try.f80) ([.agg [.int .i64 v362, .int .i64 v363, .bslc (BR.root 0) (.f32 v364)], .int .i64 v365] ++ List.replicate (Try.f80.ntmps - ([.agg [.int .i64 v362, .int .i64 v363, .bslc (BR.root 0) (.f32 v364)], .int .i64 v365] : List DV).length) .undef) []).bind (retD TT Try.f80.results.toList 0) = (impl_Matrix_row_T v363 v364 v365).bind fun y => .leaf (impl_Matrix_row_enc v362 v363 v364 v365 y) := by kernel_rfl
theorem impl_Matrix_row_fn (v362 : Int) (v363 : Int) (v364 : List Nat) (v365 : Int) (F : Fr) (hm : F.ids.length = 0) (h0 : St F [] F.H0) (hA : DVs.Ok F [] [.agg [.int .i64 v362, .int .i64 v363, .bslc (BR.root 0) (.f32 v364)], .int .i64 v365]) {y : Unit} (hy : impl_Matrix_row_g v363 v364 v365 = some y) : ∃ H', FnOk Try.prog 80 (DVs.av F [.agg [.int .i64 v362, .int .i64 v363, .bslc (BR.root 0) (.f32 v364)], .int .i64 v365]) F.H0 ((impl_Matrix_row_enc v362 v363 v364 v365 y).1.av F) H' ∧ St F (impl_Matrix_row_enc v362 v363 v364 v365 y).2 H' ∧ (impl_Matrix_row_enc v362 v363 v364 v365 y).1.Ok F (impl_Matrix_row_enc v362 v363 v364 v365 y).2 :=
  fn_fin tok impl_Matrix_row_hO mixed Try.func80 Try.call80 (by kernel_rfl) (LoopsOk_eq (l := []) (by kernel_rfl) trivial) (impl_Matrix_row_den v362 v363 v364 v365) hy hm h0 hA
noncomputable def impl_Matrix_row_F : DFn := fun args L =>
  match args with
  | [.agg [.int .i64 v362, .int .i64 v363, a1], .int .i64 v365] =>
    optT (rowF32 L a1) fun v364 =>
    .call (impl_Matrix_row_g v363 v364 v365) fun y => .leaf (.own (L.length + 0) 0 ((([] : List Nat) ++ (AM.sub v364 (IntKind.i64.wrap (v365 * v363)) (IntKind.i64.wrap ((IntKind.i64.wrap (v365 + (1 : Int))) * v363)))).length), L ++ [.row (.f32 (([] : List Nat) ++ (AM.sub v364 (IntKind.i64.wrap (v365 * v363)) (IntKind.i64.wrap ((IntKind.i64.wrap (v365 + (1 : Int))) * v363))))) 0])
  | _ => .fail
theorem impl_Matrix_row_Fok : COk Try.prog 80 impl_Matrix_row_F true := by
  intro F L H args r L' hs ha hr
  unfold impl_Matrix_row_F at hr
  split at hr
  · rename_i v362 v363 a1 v365
    obtain ⟨v364, hv364, hr⟩ := optT_run hr
    simp only [Tree.run] at hr
    obtain ⟨y, hy, hr⟩ := Option.bind_eq_some_iff.1 hr
    simp only [Tree.run, Option.some.injEq, Prod.mk.injEq] at hr
    obtain ⟨rfl, rfl⟩ := hr
    exact call_ok1 hs (fun k => (([a1.av F] : List AV)[k]?).getD .top) [.agg [.int .i64 v362, .int .i64 v363, a1], .int .i64 v365] [.agg [.int .i64 v362, .int .i64 v363, .bslc (BR.root 0) (.f32 v364)], .int .i64 v365] (fun F' h0 hi hρ => ⟨by simp [DVs.av, DV.av, BR.av, hρ], impl_Matrix_row_fn v362 v363 v364 v365 F' (by rw [hi]; rfl) (st_nil hi) ⟨⟨trivial, trivial, bslc_ok hi (by rw [h0, hρ]; exact rowF32_ok hs (DVs.okAt (DVs.okAt ha 0 rfl) 2 rfl) hv364), trivial⟩, trivial, trivial⟩ hy⟩) rfl rfl
  · cases hr
/-! (impl.Matrix).at -/
noncomputable def impl_Matrix_at_LO (v374 : Int) (v375 : Int) (v376 : List Nat) (v377 : Int) (v378 : Int) : LOr := fun id e L =>
  match id with
  | _ => .fail
noncomputable def impl_Matrix_at_tab : List (FuncId × DFn × Bool) := []
theorem impl_Matrix_at_hO : OrcOk Try.prog (tabD impl_Matrix_at_tab) (tabM impl_Matrix_at_tab) := tabD_nil _
noncomputable def impl_Matrix_at_T (v375 : Int) (v376 : List Nat) (v377 : Int) (v378 : Int) : Tree (Nat) :=
  (.grd (inb (IntKind.i64.wrap ((IntKind.i64.wrap (v377 * v375)) + v378)) v376.length) <|
  .leaf (nth v376 (Int.toNat (IntKind.i64.wrap ((IntKind.i64.wrap (v377 * v375)) + v378)))))

noncomputable def impl_Matrix_at_g (v375 : Int) (v376 : List Nat) (v377 : Int) (v378 : Int) : Option (Nat) := (impl_Matrix_at_T v375 v376 v377 v378).run
def impl_Matrix_at_enc (v374 : Int) (v375 : Int) (v376 : List Nat) (v377 : Int) (v378 : Int) (y : Nat) : Rs := (.flt .f32 y, [])
theorem impl_Matrix_at_den (v374 : Int) (v375 : Int) (v376 : List Nat) (v377 : Int) (v378 : Int) : (den TT (tabD impl_Matrix_at_tab) (tabM impl_Matrix_at_tab) (impl_Matrix_at_LO v374 v375 v376 v377 v378) (codeOf Try.f64) ([.agg [.int .i64 v374, .int .i64 v375, .bslc (BR.root 0) (.f32 v376)], .int .i64 v377, .int .i64 v378] ++ List.replicate (Try.f64.ntmps - ([.agg [.int .i64 v374, .int .i64 v375, .bslc (BR.root 0) (.f32 v376)], .int .i64 v377, .int .i64 v378] : List DV).length) .undef) []).bind (retD TT Try.f64.results.toList 0) = (impl_Matrix_at_T v375 v376 v377 v378).bind fun y => .leaf (impl_Matrix_at_enc v374 v375 v376 v377 v378 y) := by kernel_rfl
theorem impl_Matrix_at_fn (v374 : Int) (v375 : Int) (v376 : List Nat) (v377 : Int) (v378 : Int) (F : Fr) (hm : F.ids.length = 0) (h0 : St F [] F.H0) (hA : DVs.Ok F [] [.agg [.int .i64 v374, .int .i64 v375, .bslc (BR.root 0) (.f32 v376)], .int .i64 v377, .int .i64 v378]) {y : Nat} (hy : impl_Matrix_at_g v375 v376 v377 v378 = some y) : ∃ H', FnOk Try.prog 64 (DVs.av F [.agg [.int .i64 v374, .int .i64 v375, .bslc (BR.root 0) (.f32 v376)], .int .i64 v377, .int .i64 v378]) F.H0 ((impl_Matrix_at_enc v374 v375 v376 v377 v378 y).1.av F) H' ∧ St F (impl_Matrix_at_enc v374 v375 v376 v377 v378 y).2 H' ∧ (impl_Matrix_at_enc v374 v375 v376 v377 v378 y).1.Ok F (impl_Matrix_at_enc v374 v375 v376 v377 v378 y).2 :=
  fn_fin tok impl_Matrix_at_hO mixed Try.func64 Try.call64 (by kernel_rfl) (LoopsOk_eq (l := []) (by kernel_rfl) trivial) (impl_Matrix_at_den v374 v375 v376 v377 v378) hy hm h0 hA
noncomputable def impl_Matrix_at_F : DFn := fun args L =>
  match args with
  | [.agg [.int .i64 v374, .int .i64 v375, a1], .int .i64 v377, .int .i64 v378] =>
    optT (rowF32 L a1) fun v376 =>
    .call (impl_Matrix_at_g v375 v376 v377 v378) fun y => .leaf (.flt .f32 y, L)
  | _ => .fail
theorem impl_Matrix_at_Fok : COk Try.prog 64 impl_Matrix_at_F true := by
  intro F L H args r L' hs ha hr
  unfold impl_Matrix_at_F at hr
  split at hr
  · rename_i v374 v375 a1 v377 v378
    obtain ⟨v376, hv376, hr⟩ := optT_run hr
    simp only [Tree.run] at hr
    obtain ⟨y, hy, hr⟩ := Option.bind_eq_some_iff.1 hr
    simp only [Tree.run, Option.some.injEq, Prod.mk.injEq] at hr
    obtain ⟨rfl, rfl⟩ := hr
    exact call_ok0 hs (fun k => (([a1.av F] : List AV)[k]?).getD .top) [.agg [.int .i64 v374, .int .i64 v375, a1], .int .i64 v377, .int .i64 v378] [.agg [.int .i64 v374, .int .i64 v375, .bslc (BR.root 0) (.f32 v376)], .int .i64 v377, .int .i64 v378] (fun F' h0 hi hρ => ⟨by simp [DVs.av, DV.av, BR.av, hρ], impl_Matrix_at_fn v374 v375 v376 v377 v378 F' (by rw [hi]; rfl) (st_nil hi) ⟨⟨trivial, trivial, bslc_ok hi (by rw [h0, hρ]; exact rowF32_ok hs (DVs.okAt (DVs.okAt ha 0 rfl) 2 rfl) hv376), trivial⟩, trivial, trivial, trivial⟩ hy⟩) rfl
  · cases hr
/-! (impl.Matrix).column -/
noncomputable def impl_Matrix_column_l0_T (v369 : Int) (v370 : Int) (v371 : List Nat) (v372 : Int) (s : Int × (List Nat)) : Tree ((Int × (List Nat)) ⊕ ((List Nat))) :=
  (.br (decide (s.1 < v369)) (
   (.call (impl_Matrix_at_g v370 v371 s.1 v372) fun v385 =>
   (.grd (fits (s.2 ++ ([v385] : List Nat)).length) <|
   .leaf (.inl (IntKind.i64.wrap (s.1 + (1 : Int)), s.2 ++ ([v385] : List Nat)))))
  ) (
   .leaf (.inr s.2)
  ))

noncomputable def impl_Matrix_column_l0_g (v369 : Int) (v370 : Int) (v371 : List Nat) (v372 : Int) (s0 : Int × (List Nat)) : Option ((List Nat)) := whileM (fun s => (impl_Matrix_column_l0_T v369 v370 v371 v372 s).run) s0
def impl_Matrix_column_l0_E (v369 : Int) (v370 : Int) (v371 : List Nat) (v372 : Int) (s : Int × (List Nat)) : Sd := ([.top, .int .i64 v372, .ptr 0 (0 : Nat) 0 (3 : Nat), .top, .top, .own 1 0 ((s.2).length), .top, .top, .top, .int .i64 v369, .int .i64 s.1, .top, .top, .top, .top, .top, .top, .top, .top, .top, .top, .top], [.gen [.int .i64 v369, .int .i64 v370, .bslc (BR.root 0) (.f32 v371)] false 0, .row (.f32 s.2) 0])
def impl_Matrix_column_l0_X (v369 : Int) (v370 : Int) (v371 : List Nat) (v372 : Int) (x : (List Nat)) : Out := (.normal, [.top, .top, .top, .top, .top, .own 0 0 ((x).length), .top, .top, .top, .top, .top, .top, .top, .top, .top, .top, .top, .top, .top, .top, .top, .top], [.row (.f32 x) 0])
def impl_Matrix_column_l0_kill : List Nat := [1, 0, 0, 1, 1, 0, 1, 1, 1, 0, 0, 1, 1, 1, 1, 1, 1, 1, 1, 1, 1, 1]
def impl_Matrix_column_l0_nx : Exit → List Nat
  | .exit 0 => [1, 1, 1, 1, 1, 0, 1, 1, 1, 1, 1, 1, 1, 1, 1, 1, 1, 1, 1, 1, 1, 1]
  | .ret => [1, 1, 1, 1, 0, 1, 1, 1, 1, 1, 1, 1, 1, 1, 1, 1, 1, 1, 1, 1, 1, 1]
  | _ => []
noncomputable def impl_Matrix_column_LO (v369 : Int) (v370 : Int) (v371 : List Nat) (v372 : Int) : LOr := fun id e L =>
  match id with
  | 0 => .need (normA 0 impl_Matrix_column_l0_kill e L = some (impl_Matrix_column_l0_E v369 v370 v371 v372 ((gI (vAt e 10)), (gRF L (vAt e 5))))) (.call (impl_Matrix_column_l0_g v369 v370 v371 v372 ((gI (vAt e 10)), (gRF L (vAt e 5)))) fun x => .leaf (impl_Matrix_column_l0_X v369 v370 v371 v372 x))
  | _ => .fail
noncomputable def impl_Matrix_column_tab : List (FuncId × DFn × Bool) := [(64, impl_Matrix_at_F, true)]
theorem impl_Matrix_column_hO : OrcOk Try.prog (tabD impl_Matrix_column_tab) (tabM impl_Matrix_column_tab) := tabD_cons impl_Matrix_at_Fok (tabD_nil _)
theorem impl_Matrix_column_l0_be (v369 : Int) (v370 : Int) (v371 : List Nat) (v372 : Int) (s : Int × (List Nat)) : bodyT TT (tabD impl_Matrix_column_tab) (tabM impl_Matrix_column_tab) (impl_Matrix_column_LO v369 v370 v371 v372) 0 impl_Matrix_column_l0_kill impl_Matrix_column_l0_nx (bodyOf Try.f81 0) 0 (impl_Matrix_column_l0_E v369 v370 v371 v372 s) = (impl_Matrix_column_l0_T v369 v370 v371 v372 s).bind fun y => .leaf (outS (impl_Matrix_column_l0_E v369 v370 v371 v372) (impl_Matrix_column_l0_X v369 v370 v371 v372) y) := by kernel_rfl
theorem impl_Matrix_column_l0_ok (v369 : Int) (v370 : Int) (v371 : List Nat) (v372 : Int) : LSound Try.prog 0 (impl_Matrix_column_LO v369 v370 v371 v372) 0 (bodyOf Try.f81 0) := by
  intro e L out h
  exact lo_ok (E := impl_Matrix_column_l0_E v369 v370 v371 v372) (gT := impl_Matrix_column_l0_T v369 v370 v371 v372) (X := impl_Matrix_column_l0_X v369 v370 v371 v372) (s0 := ((gI (vAt e 10)), (gRF L (vAt e 5)))) tok impl_Matrix_column_hO mixed (LoopsOk_eq (l := []) (by kernel_rfl) trivial) (impl_Matrix_column_l0_be v369 v370 v371 v372) rfl (by intro x; rfl) h
noncomputable def impl_Matrix_column_T (v369 : Int) (v370 : Int) (v371 : List Nat) (v372 : Int) : Tree ((List Nat)) :=
  (.need (some (impl_Matrix_column_l0_E v369 v370 v371 v372 ((0 : Int), ([] : List Nat))) = some (impl_Matrix_column_l0_E v369 v370 v371 v372 ((0 : Int), ([] : List Nat)))) <|
  (.call (impl_Matrix_column_l0_g v369 v370 v371 v372 ((0 : Int), ([] : List Nat))) fun v386 =>
  .leaf v386))

noncomputable def impl_Matrix_column_g (v369 : Int) (v370 : Int) (v371 : List Nat) (v372 : Int) : Option ((List Nat)) := (impl_Matrix_column_T v369 v370 v371 v372).run
def impl_Matrix_column_enc (v369 : Int) (v370 : Int) (v371 : List Nat) (v372 : Int) (y : (List Nat)) : Rs := (.own 0 0 ((y).length), [.row (.f32 y) 0])
theorem impl_Matrix_column_den (v369 : Int) (v370 : Int) (v371 : List Nat) (v372 : Int) : (den TT (tabD impl_Matrix_column_tab) (tabM impl_Matrix_column_tab) (impl_Matrix_column_LO v369 v370 v371 v372) (codeOf Try.f81) ([.agg [.int .i64 v369, .int .i64 v370, .bslc (BR.root 0) (.f32 v371)], .int .i64 v372] ++ List.replicate (Try.f81.ntmps - ([.agg [.int .i64 v369, .int .i64 v370, .bslc (BR.root 0) (.f32 v371)], .int .i64 v372] : List DV).length) .undef) []).bind (retD TT Try.f81.results.toList 0) = (impl_Matrix_column_T v369 v370 v371 v372).bind fun y => .leaf (impl_Matrix_column_enc v369 v370 v371 v372 y) := by kernel_rfl
theorem impl_Matrix_column_fn (v369 : Int) (v370 : Int) (v371 : List Nat) (v372 : Int) (F : Fr) (hm : F.ids.length = 0) (h0 : St F [] F.H0) (hA : DVs.Ok F [] [.agg [.int .i64 v369, .int .i64 v370, .bslc (BR.root 0) (.f32 v371)], .int .i64 v372]) {y : (List Nat)} (hy : impl_Matrix_column_g v369 v370 v371 v372 = some y) : ∃ H', FnOk Try.prog 81 (DVs.av F [.agg [.int .i64 v369, .int .i64 v370, .bslc (BR.root 0) (.f32 v371)], .int .i64 v372]) F.H0 ((impl_Matrix_column_enc v369 v370 v371 v372 y).1.av F) H' ∧ St F (impl_Matrix_column_enc v369 v370 v371 v372 y).2 H' ∧ (impl_Matrix_column_enc v369 v370 v371 v372 y).1.Ok F (impl_Matrix_column_enc v369 v370 v371 v372 y).2 :=
  fn_fin tok impl_Matrix_column_hO mixed Try.func81 Try.call81 (by kernel_rfl) (LoopsOk_eq (l := [(0, bodyOf Try.f81 0)]) (by kernel_rfl) ⟨impl_Matrix_column_l0_ok v369 v370 v371 v372, trivial⟩) (impl_Matrix_column_den v369 v370 v371 v372) hy hm h0 hA
noncomputable def impl_Matrix_column_F : DFn := fun args L =>
  match args with
  | [.agg [.int .i64 v369, .int .i64 v370, a1], .int .i64 v372] =>
    optT (rowF32 L a1) fun v371 =>
    .call (impl_Matrix_column_g v369 v370 v371 v372) fun y => .leaf (.own (L.length + 0) 0 ((y).length), L ++ [.row (.f32 y) 0])
  | _ => .fail
theorem impl_Matrix_column_Fok : COk Try.prog 81 impl_Matrix_column_F true := by
  intro F L H args r L' hs ha hr
  unfold impl_Matrix_column_F at hr
  split at hr
  · rename_i v369 v370 a1 v372
    obtain ⟨v371, hv371, hr⟩ := optT_run hr
    simp only [Tree.run] at hr
    obtain ⟨y, hy, hr⟩ := Option.bind_eq_some_iff.1 hr
    simp only [Tree.run, Option.some.injEq, Prod.mk.injEq] at hr
    obtain ⟨rfl, rfl⟩ := hr
    exact call_ok1 hs (fun k => (([a1.av F] : List AV)[k]?).getD .top) [.agg [.int .i64 v369, .int .i64 v370, a1], .int .i64 v372] [.agg [.int .i64 v369, .int .i64 v370, .bslc (BR.root 0) (.f32 v371)], .int .i64 v372] (fun F' h0 hi hρ => ⟨by simp [DVs.av, DV.av, BR.av, hρ], impl_Matrix_column_fn v369 v370 v371 v372 F' (by rw [hi]; rfl) (st_nil hi) ⟨⟨trivial, trivial, bslc_ok hi (by rw [h0, hρ]; exact rowF32_ok hs (DVs.okAt (DVs.okAt ha 0 rfl) 2 rfl) hv371), trivial⟩, trivial, trivial⟩ hy⟩) rfl rfl
  · cases hr
/-! impl.mul -/
noncomputable def impl_mul_LO (v392 : Nat) (v393 : Nat) : LOr := fun id e L =>
  match id with
  | _ => .fail
noncomputable def impl_mul_tab : List (FuncId × DFn × Bool) := []
theorem impl_mul_hO : OrcOk Try.prog (tabD impl_mul_tab) (tabM impl_mul_tab) := tabD_nil _
noncomputable def impl_mul_T (v392 : Nat) (v393 : Nat) : Tree (Nat) :=
  .leaf (fmul .f32 v392 v393)

noncomputable def impl_mul_g (v392 : Nat) (v393 : Nat) : Option (Nat) := (impl_mul_T v392 v393).run
def impl_mul_enc (v392 : Nat) (v393 : Nat) (y : Nat) : Rs := (.flt .f32 y, [])
theorem impl_mul_den (v392 : Nat) (v393 : Nat) : (den TT (tabD impl_mul_tab) (tabM impl_mul_tab) (impl_mul_LO v392 v393) (codeOf Try.f65) ([.flt .f32 v392, .flt .f32 v393] ++ List.replicate (Try.f65.ntmps - ([.flt .f32 v392, .flt .f32 v393] : List DV).length) .undef) []).bind (retD TT Try.f65.results.toList 0) = (impl_mul_T v392 v393).bind fun y => .leaf (impl_mul_enc v392 v393 y) := by kernel_rfl
theorem impl_mul_fn (v392 : Nat) (v393 : Nat) (F : Fr) (hm : F.ids.length = 0) (h0 : St F [] F.H0) (hA : DVs.Ok F [] [.flt .f32 v392, .flt .f32 v393]) {y : Nat} (hy : impl_mul_g v392 v393 = some y) : ∃ H', FnOk Try.prog 65 (DVs.av F [.flt .f32 v392, .flt .f32 v393]) F.H0 ((impl_mul_enc v392 v393 y).1.av F) H' ∧ St F (impl_mul_enc v392 v393 y).2 H' ∧ (impl_mul_enc v392 v393 y).1.Ok F (impl_mul_enc v392 v393 y).2 :=
  fn_fin tok impl_mul_hO mixed Try.func65 Try.call65 (by kernel_rfl) (LoopsOk_eq (l := []) (by kernel_rfl) trivial) (impl_mul_den v392 v393) hy hm h0 hA
def impl_mul_v (v392 : Nat) (v393 : Nat) : Nat :=
  fmul .f32 v392 v393
theorem impl_mul_tot (v392 : Nat) (v393 : Nat) : impl_mul_g v392 v393 = some (impl_mul_v v392 v393) := by
  unfold impl_mul_g impl_mul_T impl_mul_v
  simp only [Tree.run]
  repeat' (first | rfl | split)
noncomputable def impl_mul_F : DFn := fun args L =>
  match args with
  | [.flt .f32 v392, .flt .f32 v393] =>
    .leaf (.flt .f32 (impl_mul_v v392 v393), L)
  | _ => .fail
theorem impl_mul_Fok : COk Try.prog 65 impl_mul_F true := by
  intro F L H args r L' hs ha hr
  unfold impl_mul_F at hr
  split at hr
  · rename_i v392 v393
    have hy := impl_mul_tot v392 v393
    generalize impl_mul_v v392 v393 = y at hy hr
    simp only [Tree.run, Option.some.injEq, Prod.mk.injEq] at hr
    obtain ⟨rfl, rfl⟩ := hr
    exact call_ok0 hs (fun k => (([] : List AV)[k]?).getD .top) [.flt .f32 v392, .flt .f32 v393] [.flt .f32 v392, .flt .f32 v393] (fun F' h0 hi hρ => ⟨by simp [DVs.av, DV.av, BR.av, hρ], impl_mul_fn v392 v393 F' (by rw [hi]; rfl) (st_nil hi) ⟨trivial, trivial, trivial⟩ hy⟩) rfl
  · cases hr
/-! impl.dot -/
noncomputable def impl_dot_l0_T (v388 : List Nat) (v389 : List Nat) (s : Nat × Int) : Tree ((Nat × Int) ⊕ (Nat)) :=
  (.br (decide (s.2 < ((v388.length : Nat) : Int))) (
   (.grd (inb s.2 v388.length) <|
   (.grd (inb s.2 v389.length) <|
   .leaf (.inl (fadd .f32 s.1 (impl_mul_v (nth v388 (Int.toNat s.2)) (nth v389 (Int.toNat s.2))), IntKind.i64.wrap (s.2 + (1 : Int))))))
  ) (
   .leaf (.inr s.1)
  ))

noncomputable def impl_dot_l0_g (v388 : List Nat) (v389 : List Nat) (s0 : Nat × Int) : Option (Nat) := whileM (fun s => (impl_dot_l0_T v388 v389 s).run) s0
def impl_dot_l0_E (v388 : List Nat) (v389 : List Nat) (s : Nat × Int) : Sd := ([.top, .bslc (BR.root 1) (.f32 v389), .top, .top, .top, .flt .f32 s.1, .top, .top, .bslc (BR.root 0) (.f32 v388), .int .i64 ((v388.length : Nat) : Int), .int .i64 s.2, .top, .top, .top, .top, .top, .top, .top, .top, .top, .top, .top, .top, .top, .top], [])
def impl_dot_l0_X (v388 : List Nat) (v389 : List Nat) (x : Nat) : Out := (.normal, [.top, .top, .top, .top, .top, .flt .f32 x, .top, .top, .top, .top, .top, .top, .top, .top, .top, .top, .top, .top, .top, .top, .top, .top, .top, .top, .top], [])
def impl_dot_l0_kill : List Nat := [1, 0, 1, 1, 1, 0, 1, 1, 0, 0, 0, 1, 1, 1, 1, 1, 1, 1, 1, 1, 1, 1, 1, 1, 1]
def impl_dot_l0_nx : Exit → List Nat
  | .exit 0 => [1, 1, 1, 1, 1, 0, 1, 1, 1, 1, 1, 1, 1, 1, 1, 1, 1, 1, 1, 1, 1, 1, 1, 1, 1]
  | .ret => [1, 1, 1, 1, 0, 1, 1, 1, 1, 1, 1, 1, 1, 1, 1, 1, 1, 1, 1, 1, 1, 1, 1, 1, 1]
  | _ => []
noncomputable def impl_dot_LO (v388 : List Nat) (v389 : List Nat) : LOr := fun id e L =>
  match id with
  | 0 => .need (normA 0 impl_dot_l0_kill e L = some (impl_dot_l0_E v388 v389 ((gF (vAt e 5)), (gI (vAt e 10))))) (.call (impl_dot_l0_g v388 v389 ((gF (vAt e 5)), (gI (vAt e 10)))) fun x => .leaf (impl_dot_l0_X v388 v389 x))
  | _ => .fail
noncomputable def impl_dot_tab : List (FuncId × DFn × Bool) := [(65, impl_mul_F, true)]
theorem impl_dot_hO : OrcOk Try.prog (tabD impl_dot_tab) (tabM impl_dot_tab) := tabD_cons impl_mul_Fok (tabD_nil _)
theorem impl_dot_l0_be (v388 : List Nat) (v389 : List Nat) (s : Nat × Int) : bodyT TT (tabD impl_dot_tab) (tabM impl_dot_tab) (impl_dot_LO v388 v389) 0 impl_dot_l0_kill impl_dot_l0_nx (bodyOf Try.f82 0) 0 (impl_dot_l0_E v388 v389 s) = (impl_dot_l0_T v388 v389 s).bind fun y => .leaf (outS (impl_dot_l0_E v388 v389) (impl_dot_l0_X v388 v389) y) := by kernel_rfl
theorem impl_dot_l0_ok (v388 : List Nat) (v389 : List Nat) : LSound Try.prog 0 (impl_dot_LO v388 v389) 0 (bodyOf Try.f82 0) := by
  intro e L out h
  exact lo_ok (E := impl_dot_l0_E v388 v389) (gT := impl_dot_l0_T v388 v389) (X := impl_dot_l0_X v388 v389) (s0 := ((gF (vAt e 5)), (gI (vAt e 10)))) tok impl_dot_hO mixed (LoopsOk_eq (l := []) (by kernel_rfl) trivial) (impl_dot_l0_be v388 v389) rfl (by intro x; rfl) h
noncomputable def impl_dot_T (v388 : List Nat) (v389 : List Nat) : Tree (Nat) :=
  (.need (some (impl_dot_l0_E v388 v389 ((0 : Nat), (0 : Int))) = some (impl_dot_l0_E v388 v389 ((0 : Nat), (0 : Int)))) <|
  (.call (impl_dot_l0_g v388 v389 ((0 : Nat), (0 : Int))) fun v398 =>
  .leaf v398))

noncomputable def impl_dot_g (v388 : List Nat) (v389 : List Nat) : Option (Nat) := (impl_dot_T v388 v389).run
def impl_dot_enc (v388 : List Nat) (v389 : List Nat) (y : Nat) : Rs := (.flt .f32 y, [])
theorem impl_dot_den (v388 : List Nat) (v389 : List Nat) : (den TT (tabD impl_dot_tab) (tabM impl_dot_tab) (impl_dot_LO v388 v389) (codeOf Try.f82) ([.bslc (BR.root 0) (.f32 v388), .bslc (BR.root 1) (.f32 v389)] ++ List.replicate (Try.f82.ntmps - ([.bslc (BR.root 0) (.f32 v388), .bslc (BR.root 1) (.f32 v389)] : List DV).length) .undef) []).bind (retD TT Try.f82.results.toList 0) = (impl_dot_T v388 v389).bind fun y => .leaf (impl_dot_enc v388 v389 y) := by kernel_rfl
theorem impl_dot_fn (v388 : List Nat) (v389 : List Nat) (F : Fr) (hm : F.ids.length = 0) (h0 : St F [] F.H0) (hA : DVs.Ok F [] [.bslc (BR.root 0) (.f32 v388), .bslc (BR.root 1) (.f32 v389)]) {y : Nat} (hy : impl_dot_g v388 v389 = some y) : ∃ H', FnOk Try.prog 82 (DVs.av F [.bslc (BR.root 0) (.f32 v388), .bslc (BR.root 1) (.f32 v389)]) F.H0 ((impl_dot_enc v388 v389 y).1.av F) H' ∧ St F (impl_dot_enc v388 v389 y).2 H' ∧ (impl_dot_enc v388 v389 y).1.Ok F (impl_dot_enc v388 v389 y).2 :=
  fn_fin tok impl_dot_hO mixed Try.func82 Try.call82 (by kernel_rfl) (LoopsOk_eq (l := [(0, bodyOf Try.f82 0)]) (by kernel_rfl) ⟨impl_dot_l0_ok v388 v389, trivial⟩) (impl_dot_den v388 v389) hy hm h0 hA
noncomputable def impl_dot_F : DFn := fun args L =>
  match args with
  | [a1, a2] =>
    optT (rowF32 L a1) fun v388 =>
    optT (rowF32 L a2) fun v389 =>
    .call (impl_dot_g v388 v389) fun y => .leaf (.flt .f32 y, L)
  | _ => .fail
theorem impl_dot_Fok : COk Try.prog 82 impl_dot_F true := by
  intro F L H args r L' hs ha hr
  unfold impl_dot_F at hr
  split at hr
  · rename_i a1 a2
    obtain ⟨v388, hv388, hr⟩ := optT_run hr
    obtain ⟨v389, hv389, hr⟩ := optT_run hr
    simp only [Tree.run] at hr
    obtain ⟨y, hy, hr⟩ := Option.bind_eq_some_iff.1 hr
    simp only [Tree.run, Option.some.injEq, Prod.mk.injEq] at hr
    obtain ⟨rfl, rfl⟩ := hr
    exact call_ok0 hs (fun k => (([a1.av F, a2.av F] : List AV)[k]?).getD .top) [a1, a2] [.bslc (BR.root 0) (.f32 v388), .bslc (BR.root 1) (.f32 v389)] (fun F' h0 hi hρ => ⟨by simp [DVs.av, DV.av, BR.av, hρ], impl_dot_fn v388 v389 F' (by rw [hi]; rfl) (st_nil hi) ⟨bslc_ok hi (by rw [h0, hρ]; exact rowF32_ok hs (DVs.okAt ha 0 rfl) hv388), bslc_ok hi (by rw [h0, hρ]; exact rowF32_ok hs (DVs.okAt ha 1 rfl) hv389), trivial⟩ hy⟩) rfl
  · cases hr
/-! impl.product$1 -/
noncomputable def impl_product_1_LO (v354 : Int) (v355 : Int) (v356 : Int) (v357 : Int) (v358 : List Nat) (v359 : Int) (v360 : Int) (v361 : List Nat) : LOr := fun id e L =>
  match id with
  | _ => .fail
noncomputable def impl_product_1_tab : List (FuncId × DFn × Bool) := [(80, impl_Matrix_row_F, true), (81, impl_Matrix_column_F, true), (82, impl_dot_F, true)]
theorem impl_product_1_hO : OrcOk Try.prog (tabD impl_product_1_tab) (tabM impl_product_1_tab) := tabD_cons impl_Matrix_row_Fok (tabD_cons impl_Matrix_column_Fok (tabD_cons impl_dot_Fok (tabD_nil _)))
noncomputable def impl_product_1_T (v354 : Int) (v355 : Int) (v357 : Int) (v358 : List Nat) (v359 : Int) (v360 : Int) (v361 : List Nat) : Tree (Nat) :=
  (.call (impl_Matrix_row_g v357 v358 v354) fun v368 =>
  (.call (impl_Matrix_column_g v359 v360 v361 v355) fun v387 =>
  (.call (impl_dot_g (([] : List Nat) ++ (AM.sub v358 (IntKind.i64.wrap (v354 * v357)) (IntKind.i64.wrap ((IntKind.i64.wrap (v354 + (1 : Int))) * v357)))) v387) fun v399 =>
  .leaf v399)))

noncomputable def impl_product_1_g (v354 : Int) (v355 : Int) (v357 : Int) (v358 : List Nat) (v359 : Int) (v360 : Int) (v361 : List Nat) : Option (Nat) := (impl_product_1_T v354 v355 v357 v358 v359 v360 v361).run
def impl_product_1_enc (v354 : Int) (v355 : Int) (v356 : Int) (v357 : Int) (v358 : List Nat) (v359 : Int) (v360 : Int) (v361 : List Nat) (y : Nat) : Rs := (.flt .f32 y, [])
theorem impl_product_1_den (v354 : Int) (v355 : Int) (v356 : Int) (v357 : Int) (v358 : List Nat) (v359 : Int) (v360 : Int) (v361 : List Nat) : (den TT (tabD impl_product_1_tab) (tabM impl_product_1_tab) (impl_product_1_LO v354 v355 v356 v357 v358 v359 v360 v361) (codeOf Try.f169) ([.int .i64 v354, .int .i64 v355, .bptr (BR.root 0) [.int .i64 v356, .int .i64 v357, .bslc (BR.root 1) (.f32 v358)], .bptr (BR.root 2) [.int .i64 v359, .int .i64 v360, .bslc (BR.root 3) (.f32 v361)]] ++ List.replicate (Try.f169.ntmps - ([.int .i64 v354, .int .i64 v355, .bptr (BR.root 0) [.int .i64 v356, .int .i64 v357, .bslc (BR.root 1) (.f32 v358)], .bptr (BR.root 2) [.int .i64 v359, .int .i64 v360, .bslc (BR.root 3) (.f32 v361)]] : List DV).length) .undef) []).bind (retD TT Try.f169.results.toList 0) = (impl_product_1_T v354 v355 v357 v358 v359 v360 v361).bind fun y => .leaf (impl_product_1_enc v354 v355 v356 v357 v358 v359 v360 v361 y) := by kernel_rfl
theorem impl_product_1_fn (v354 : Int) (v355 : Int) (v356 : Int) (v357 : Int) (v358 : List Nat) (v359 : Int) (v360 : Int) (v361 : List Nat) (F : Fr) (hm : F.ids.length = 0) (h0 : St F [] F.H0) (hA : DVs.Ok F [] [.int .i64 v354, .int .i64 v355, .bptr (BR.root 0) [.int .i64 v356, .int .i64 v357, .bslc (BR.root 1) (.f32 v358)], .bptr (BR.root 2) [.int .i64 v359, .int .i64 v360, .bslc (BR.root 3) (.f32 v361)]]) {y : Nat} (hy : impl_product_1_g v354 v355 v357 v358 v359 v360 v361 = some y) : ∃ H', FnOk Try.prog 169 (DVs.av F [.int .i64 v354, .int .i64 v355, .bptr (BR.root 0) [.int .i64 v356, .int .i64 v357, .bslc (BR.root 1) (.f32 v358)], .bptr (BR.root 2) [.int .i64 v359, .int .i64 v360, .bslc (BR.root 3) (.f32 v361)]]) F.H0 ((impl_product_1_enc v354 v355 v356 v357 v358 v359 v360 v361 y).1.av F) H' ∧ St F (impl_product_1_enc v354 v355 v356 v357 v358 v359 v360 v361 y).2 H' ∧ (impl_product_1_enc v354 v355 v356 v357 v358 v359 v360 v361 y).1.Ok F (impl_product_1_enc v354 v355 v356 v357 v358 v359 v360 v361 y).2 :=
  fn_fin tok impl_product_1_hO mixed Try.func169 Try.call169 (by kernel_rfl) (LoopsOk_eq (l := []) (by kernel_rfl) trivial) (impl_product_1_den v354 v355 v356 v357 v358 v359 v360 v361) hy hm h0 hA
noncomputable def impl_product_1_F : DFn := fun args L =>
  match args with
  | [.int .i64 v354, .int .i64 v355, a1, a3] =>
    optT (cellsOf L 3 a1) fun cs0 =>
    (match cs0 with
    | [.int .i64 v356, .int .i64 v357, a2] =>
    optT (rowF32 L a2) fun v358 =>
    optT (cellsOf L 3 a3) fun cs2 =>
    (match cs2 with
    | [.int .i64 v359, .int .i64 v360, a4] =>
    optT (rowF32 L a4) fun v361 =>
    .call (impl_product_1_g v354 v355 v357 v358 v359 v360 v361) fun y => .leaf (.flt .f32 y, L)
    | _ => .fail)
    | _ => .fail)
  | _ => .fail
theorem impl_product_1_Fok : COk Try.prog 169 impl_product_1_F true := by
  intro F L H args r L' hs ha hr
  unfold impl_product_1_F at hr
  split at hr
  · rename_i v354 v355 a1 a3
    obtain ⟨cs0, hcp0, hr⟩ := optT_run hr
    split at hr
    · rename_i v356 v357 a2
      obtain ⟨v358, hv358, hr⟩ := optT_run hr
      obtain ⟨cs2, hcp2, hr⟩ := optT_run hr
      split at hr
      · rename_i v359 v360 a4
        obtain ⟨v361, hv361, hr⟩ := optT_run hr
        simp only [Tree.run] at hr
        obtain ⟨y, hy, hr⟩ := Option.bind_eq_some_iff.1 hr
        simp only [Tree.run, Option.some.injEq, Prod.mk.injEq] at hr
        obtain ⟨rfl, rfl⟩ := hr
        exact call_ok0 hs (fun k => (([a1.av F, a2.av F, a3.av F, a4.av F] : List AV)[k]?).getD .top) [.int .i64 v354, .int .i64 v355, a1, a3] [.int .i64 v354, .int .i64 v355, .bptr (BR.root 0) [.int .i64 v356, .int .i64 v357, .bslc (BR.root 1) (.f32 v358)], .bptr (BR.root 2) [.int .i64 v359, .int .i64 v360, .bslc (BR.root 3) (.f32 v361)]] (fun F' h0 hi hρ => ⟨by simp [DVs.av, DV.av, BR.av, hρ], impl_product_1_fn v354 v355 v356 v357 v358 v359 v360 v361 F' (by rw [hi]; rfl) (st_nil hi) ⟨trivial, trivial, bptr_ok hi (by rw [h0]; simpa [DVs.av, DV.av, BR.av, hρ] using (cellsOf_ok hs (DVs.okAt ha 2 rfl) hcp0).1) ⟨trivial, trivial, bslc_ok hi (by rw [h0, hρ]; exact rowF32_ok hs (DVs.okAt (cellsOf_ok hs (DVs.okAt ha 2 rfl) hcp0).2 2 rfl) hv358), trivial⟩, bptr_ok hi (by rw [h0]; simpa [DVs.av, DV.av, BR.av, hρ] using (cellsOf_ok hs (DVs.okAt ha 3 rfl) hcp2).1) ⟨trivial, trivial, bslc_ok hi (by rw [h0, hρ]; exact rowF32_ok hs (DVs.okAt (cellsOf_ok hs (DVs.okAt ha 3 rfl) hcp2).2 2 rfl) hv361), trivial⟩, trivial⟩ hy⟩) rfl
      · cases hr
    · cases hr
  · cases hr
end Go.Proofs.Ytooakheodgndaaa.AM
