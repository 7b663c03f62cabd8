/- Functions: what they come to. -/
import Derived.Test.YtooakheodgndaaaBase
set_option maxRecDepth 100000
set_option maxHeartbeats 4000000
set_option linter.unusedSimpArgs false
set_option linter.unusedVariables false
namespace Go.Proofs.Ytooakheodgndaaa.AM
open Go.Proofs
/-! laws.szFloat32S -/
noncomputable def laws_szFloat32S_LO (v12 : List Nat) (v13 : Int) : LOr := fun id e L =>
  match id with
  | _ => .fail
noncomputable def laws_szFloat32S_tab : List (FuncId × DFn × Bool) := []
theorem laws_szFloat32S_hO : OrcOk Try.prog (tabD laws_szFloat32S_tab) (tabM laws_szFloat32S_tab) := tabD_nil _
noncomputable def laws_szFloat32S_T (v12 : List Nat) (v13 : Int) : Tree (Int) :=
  (.br (decide (IntKind.i64.wrap (v13 - ((v12.length : Nat) : Int)) < (0 : Int))) (
   .leaf (-1 : Int)
  ) (
   .leaf (IntKind.i64.wrap (v13 - ((v12.length : Nat) : Int)))
  ))

noncomputable def laws_szFloat32S_g (v12 : List Nat) (v13 : Int) : Option (Int) := (laws_szFloat32S_T v12 v13).run
def laws_szFloat32S_enc (v12 : List Nat) (v13 : Int) (y : Int) : Rs := (.int .i64 y, [])
theorem laws_szFloat32S_den (v12 : List Nat) (v13 : Int) : (den TT (tabD laws_szFloat32S_tab) (tabM laws_szFloat32S_tab) (laws_szFloat32S_LO v12 v13) (codeOf Try.f56) ([.bslc (BR.root 0) (.f32 v12), .int .i64 v13] ++ List.replicate (Try.f56.ntmps - ([.bslc (BR.root 0) (.f32 v12), .int .i64 v13] : List DV).length) .undef) []).bind (retD TT Try.f56.results.toList 0) = (laws_szFloat32S_T v12 v13).bind fun y => .leaf (laws_szFloat32S_enc v12 v13 y) := by kernel_rfl
theorem laws_szFloat32S_fn (v12 : List Nat) (v13 : Int) (F : Fr) (hm : F.ids.length = 0) (h0 : St F [] F.H0) (hA : DVs.Ok F [] [.bslc (BR.root 0) (.f32 v12), .int .i64 v13]) {y : Int} (hy : laws_szFloat32S_g v12 v13 = some y) : ∃ H', FnOk Try.prog 56 (DVs.av F [.bslc (BR.root 0) (.f32 v12), .int .i64 v13]) F.H0 ((laws_szFloat32S_enc v12 v13 y).1.av F) H' ∧ St F (laws_szFloat32S_enc v12 v13 y).2 H' ∧ (laws_szFloat32S_enc v12 v13 y).1.Ok F (laws_szFloat32S_enc v12 v13 y).2 :=
  fn_fin tok laws_szFloat32S_hO mixed Try.func56 Try.call56 (by kernel_rfl) (LoopsOk_eq (l := []) (by kernel_rfl) trivial) (laws_szFloat32S_den v12 v13) hy hm h0 hA
def laws_szFloat32S_v (v12 : List Nat) (v13 : Int) : Int :=
  if (decide (IntKind.i64.wrap (v13 - ((v12.length : Nat) : Int)) < (0 : Int))) = true then (
   (-1 : Int)
  ) else (
   IntKind.i64.wrap (v13 - ((v12.length : Nat) : Int))
  )
theorem laws_szFloat32S_tot (v12 : List Nat) (v13 : Int) : laws_szFloat32S_g v12 v13 = some (laws_szFloat32S_v v12 v13) := by
  unfold laws_szFloat32S_g laws_szFloat32S_T laws_szFloat32S_v
  simp only [Tree.run]
  repeat' (first | rfl | split)
noncomputable def laws_szFloat32S_F : DFn := fun args L =>
  match args with
  | [a1, .int .i64 v13] =>
    optT (rowF32 L a1) fun v12 =>
    .leaf (.int .i64 (laws_szFloat32S_v v12 v13), L)
  | _ => .fail
theorem laws_szFloat32S_Fok : COk Try.prog 56 laws_szFloat32S_F true := by
  intro F L H args r L' hs ha hr
  unfold laws_szFloat32S_F at hr
  split at hr
  · rename_i a1 v13
    obtain ⟨v12, hv12, hr⟩ := optT_run hr
    have hy := laws_szFloat32S_tot v12 v13
    generalize laws_szFloat32S_v v12 v13 = y at hy hr
    simp only [Tree.run, Option.some.injEq, Prod.mk.injEq] at hr
    obtain ⟨rfl, rfl⟩ := hr
    exact call_ok0 hs (fun k => (([a1.av F] : List AV)[k]?).getD .top) [a1, .int .i64 v13] [.bslc (BR.root 0) (.f32 v12), .int .i64 v13] (fun F' h0 hi hρ => ⟨by simp [DVs.av, DV.av, BR.av, hρ], laws_szFloat32S_fn v12 v13 F' (by rw [hi]; rfl) (st_nil hi) ⟨bslc_ok hi (by rw [h0, hρ]; exact rowF32_ok hs (DVs.okAt ha 0 rfl) hv12), trivial, trivial⟩ hy⟩) rfl
  · cases hr
/-! laws.szMatrix -/
noncomputable def laws_szMatrix_LO (v8 : Int) (v9 : Int) (v10 : List Nat) (v11 : Int) : LOr := fun id e L =>
  match id with
  | _ => .fail
noncomputable def laws_szMatrix_tab : List (FuncId × DFn × Bool) := [(56, laws_szFloat32S_F, true)]
theorem laws_szMatrix_hO : OrcOk Try.prog (tabD laws_szMatrix_tab) (tabM laws_szMatrix_tab) := tabD_cons laws_szFloat32S_Fok (tabD_nil _)
noncomputable def laws_szMatrix_T (v10 : List Nat) (v11 : Int) : Tree (Int) :=
  (.br (decide ((laws_szFloat32S_v v10 v11) < (0 : Int))) (
   .leaf (-1 : Int)
  ) (
   .leaf (laws_szFloat32S_v v10 v11)
  ))

noncomputable def laws_szMatrix_g (v10 : List Nat) (v11 : Int) : Option (Int) := (laws_szMatrix_T v10 v11).run
def laws_szMatrix_enc (v8 : Int) (v9 : Int) (v10 : List Nat) (v11 : Int) (y : Int) : Rs := (.int .i64 y, [])
theorem laws_szMatrix_den (v8 : Int) (v9 : Int) (v10 : List Nat) (v11 : Int) : (den TT (tabD laws_szMatrix_tab) (tabM laws_szMatrix_tab) (laws_szMatrix_LO v8 v9 v10 v11) (codeOf Try.f15) ([.agg [.int .i64 v8, .int .i64 v9, .bslc (BR.root 0) (.f32 v10)], .int .i64 v11] ++ List.replicate (Try.f15.ntmps - ([.agg [.int .i64 v8, .int .i64 v9, .bslc (BR.root 0) (.f32 v10)], .int .i64 v11] : List DV).length) .undef) []).bind (retD TT Try.f15.results.toList 0) = (laws_szMatrix_T v10 v11).bind fun y => .leaf (laws_szMatrix_enc v8 v9 v10 v11 y) := by kernel_rfl
theorem laws_szMatrix_fn (v8 : Int) (v9 : Int) (v10 : List Nat) (v11 : Int) (F : Fr) (hm : F.ids.length = 0) (h0 : St F [] F.H0) (hA : DVs.Ok F [] [.agg [.int .i64 v8, .int .i64 v9, .bslc (BR.root 0) (.f32 v10)], .int .i64 v11]) {y : Int} (hy : laws_szMatrix_g v10 v11 = some y) : ∃ H', FnOk Try.prog 15 (DVs.av F [.agg [.int .i64 v8, .int .i64 v9, .bslc (BR.root 0) (.f32 v10)], .int .i64 v11]) F.H0 ((laws_szMatrix_enc v8 v9 v10 v11 y).1.av F) H' ∧ St F (laws_szMatrix_enc v8 v9 v10 v11 y).2 H' ∧ (laws_szMatrix_enc v8 v9 v10 v11 y).1.Ok F (laws_szMatrix_enc v8 v9 v10 v11 y).2 :=
  fn_fin tok laws_szMatrix_hO mixed Try.func15 Try.call15 (by kernel_rfl) (LoopsOk_eq (l := []) (by kernel_rfl) trivial) (laws_szMatrix_den v8 v9 v10 v11) hy hm h0 hA
def laws_szMatrix_v (v10 : List Nat) (v11 : Int) : Int :=
  if (decide ((laws_szFloat32S_v v10 v11) < (0 : Int))) = true then (
   (-1 : Int)
  ) else (
   (laws_szFloat32S_v v10 v11)
  )
theorem laws_szMatrix_tot (v10 : List Nat) (v11 : Int) : laws_szMatrix_g v10 v11 = some (laws_szMatrix_v v10 v11) := by
  unfold laws_szMatrix_g laws_szMatrix_T laws_szMatrix_v
  simp only [Tree.run]
  repeat' (first | rfl | split)
noncomputable def laws_szMatrix_F : DFn := fun args L =>
  match args with
  | [.agg [.int .i64 v8, .int .i64 v9, a1], .int .i64 v11] =>
    optT (rowF32 L a1) fun v10 =>
    .leaf (.int .i64 (laws_szMatrix_v v10 v11), L)
  | _ => .fail
theorem laws_szMatrix_Fok : COk Try.prog 15 laws_szMatrix_F true := by
  intro F L H args r L' hs ha hr
  unfold laws_szMatrix_F at hr
  split at hr
  · rename_i v8 v9 a1 v11
    obtain ⟨v10, hv10, hr⟩ := optT_run hr
    have hy := laws_szMatrix_tot v10 v11
    generalize laws_szMatrix_v v10 v11 = y at hy hr
    simp only [Tree.run, Option.some.injEq, Prod.mk.injEq] at hr
    obtain ⟨rfl, rfl⟩ := hr
    exact call_ok0 hs (fun k => (([a1.av F] : List AV)[k]?).getD .top) [.agg [.int .i64 v8, .int .i64 v9, a1], .int .i64 v11] [.agg [.int .i64 v8, .int .i64 v9, .bslc (BR.root 0) (.f32 v10)], .int .i64 v11] (fun F' h0 hi hρ => ⟨by simp [DVs.av, DV.av, BR.av, hρ], laws_szMatrix_fn v8 v9 v10 v11 F' (by rw [hi]; rfl) (st_nil hi) ⟨⟨trivial, trivial, bslc_ok hi (by rw [h0, hρ]; exact rowF32_ok hs (DVs.okAt (DVs.okAt ha 0 rfl) 2 rfl) hv10), trivial⟩, trivial, trivial⟩ hy⟩) rfl
  · cases hr
/-! laws.toFloat32S -/
noncomputable def laws_toFloat32S_l0_T (v17 : List Nat) (s : Int × (List Nat)) : Tree ((Int × (List Nat)) ⊕ ((List Nat))) :=
  (.br (decide (s.1 < ((v17.length : Nat) : Int))) (
   (.grd (inb s.1 v17.length) <|
   (.grd (inb s.1 ((s.2).length)) <|
   .leaf (.inl (IntKind.i64.wrap (s.1 + (1 : Int)), List.set s.2 (Int.toNat s.1) (nth v17 (Int.toNat s.1))))))
  ) (
   .leaf (.inr s.2)
  ))

noncomputable def laws_toFloat32S_l0_g (v17 : List Nat) (s0 : Int × (List Nat)) : Option ((List Nat)) := whileM (fun s => (laws_toFloat32S_l0_T v17 s).run) s0
def laws_toFloat32S_l0_E (v17 : List Nat) (s : Int × (List Nat)) : Sd := ([.bslc (BR.root 0) (.f32 v17), .top, .top, .own 0 0 ((s.2).length), .int .i64 s.1, .top, .top, .top, .top, .top, .top, .top, .top, .top, .top, .top, .top, .top, .top, .top, .top, .top], [.row (.f32 s.2) 0])
def laws_toFloat32S_l0_X (v17 : List Nat) (x : (List Nat)) : Out := (.normal, [.top, .top, .top, .own 0 0 ((x).length), .top, .top, .top, .top, .top, .top, .top, .top, .top, .top, .top, .top, .top, .top, .top, .top, .top, .top], [.row (.f32 x) 0])
def laws_toFloat32S_l0_kill : List Nat := [0, 1, 1, 0, 0, 1, 1, 1, 1, 1, 1, 1, 1, 1, 1, 1, 1, 1, 1, 1, 1, 1]
def laws_toFloat32S_l0_nx : Exit → List Nat
  | .exit 0 => [1, 1, 1, 0, 1, 1, 1, 1, 1, 1, 1, 1, 1, 1, 1, 1, 1, 1, 1, 1, 1, 1]
  | .ret => [1, 1, 0, 1, 1, 1, 1, 1, 1, 1, 1, 1, 1, 1, 1, 1, 1, 1, 1, 1, 1, 1]
  | _ => []
noncomputable def laws_toFloat32S_LO (v17 : List Nat) : LOr := fun id e L =>
  match id with
  | 0 => .need (normA 0 laws_toFloat32S_l0_kill e L = some (laws_toFloat32S_l0_E v17 ((gI (vAt e 4)), (gRF L (vAt e 3))))) (.call (laws_toFloat32S_l0_g v17 ((gI (vAt e 4)), (gRF L (vAt e 3)))) fun x => .leaf (laws_toFloat32S_l0_X v17 x))
  | _ => .fail
noncomputable def laws_toFloat32S_tab : List (FuncId × DFn × Bool) := []
theorem laws_toFloat32S_hO : OrcOk Try.prog (tabD laws_toFloat32S_tab) (tabM laws_toFloat32S_tab) := tabD_nil _
theorem laws_toFloat32S_l0_be (v17 : List Nat) (s : Int × (List Nat)) : bodyT TT (tabD laws_toFloat32S_tab) (tabM laws_toFloat32S_tab) (laws_toFloat32S_LO v17) 0 laws_toFloat32S_l0_kill laws_toFloat32S_l0_nx (bodyOf Try.f33 0) 0 (laws_toFloat32S_l0_E v17 s) = (laws_toFloat32S_l0_T v17 s).bind fun y => .leaf (outS (laws_toFloat32S_l0_E v17) (laws_toFloat32S_l0_X v17) y) := by kernel_rfl
theorem laws_toFloat32S_l0_ok (v17 : List Nat) : LSound Try.prog 0 (laws_toFloat32S_LO v17) 0 (bodyOf Try.f33 0) := by
  intro e L out h
  exact lo_ok (E := laws_toFloat32S_l0_E v17) (gT := laws_toFloat32S_l0_T v17) (X := laws_toFloat32S_l0_X v17) (s0 := ((gI (vAt e 4)), (gRF L (vAt e 3)))) tok laws_toFloat32S_hO mixed (LoopsOk_eq (l := []) (by kernel_rfl) trivial) (laws_toFloat32S_l0_be v17) rfl (by intro x; rfl) h
noncomputable def laws_toFloat32S_T (v17 : List Nat) : Tree ((List Nat)) :=
  (.need (((v17.length : Nat) : Int) = ((v17.length : Nat) : Int)) <|
  (.grd (inb ((v17.length : Nat) : Int) (maxN + 1)) <|
  (.need (some (laws_toFloat32S_l0_E v17 ((0 : Int), List.replicate (Int.toNat ((v17.length : Nat) : Int)) (0 : Nat))) = some (laws_toFloat32S_l0_E v17 ((0 : Int), List.replicate (Int.toNat ((v17.length : Nat) : Int)) (0 : Nat)))) <|
  (.call (laws_toFloat32S_l0_g v17 ((0 : Int), List.replicate (Int.toNat ((v17.length : Nat) : Int)) (0 : Nat))) fun v23 =>
  .leaf v23))))

noncomputable def laws_toFloat32S_g (v17 : List Nat) : Option ((List Nat)) := (laws_toFloat32S_T v17).run
def laws_toFloat32S_enc (v17 : List Nat) (y : (List Nat)) : Rs := (.own 0 0 ((y).length), [.row (.f32 y) 0])
theorem laws_toFloat32S_den (v17 : List Nat) : (den TT (tabD laws_toFloat32S_tab) (tabM laws_toFloat32S_tab) (laws_toFloat32S_LO v17) (codeOf Try.f33) ([.bslc (BR.root 0) (.f32 v17)] ++ List.replicate (Try.f33.ntmps - ([.bslc (BR.root 0) (.f32 v17)] : List DV).length) .undef) []).bind (retD TT Try.f33.results.toList 0) = (laws_toFloat32S_T v17).bind fun y => .leaf (laws_toFloat32S_enc v17 y) := by kernel_rfl
theorem laws_toFloat32S_fn (v17 : List Nat) (F : Fr) (hm : F.ids.length = 0) (h0 : St F [] F.H0) (hA : DVs.Ok F [] [.bslc (BR.root 0) (.f32 v17)]) {y : (List Nat)} (hy : laws_toFloat32S_g v17 = some y) : ∃ H', FnOk Try.prog 33 (DVs.av F [.bslc (BR.root 0) (.f32 v17)]) F.H0 ((laws_toFloat32S_enc v17 y).1.av F) H' ∧ St F (laws_toFloat32S_enc v17 y).2 H' ∧ (laws_toFloat32S_enc v17 y).1.Ok F (laws_toFloat32S_enc v17 y).2 :=
  fn_fin tok laws_toFloat32S_hO mixed Try.func33 Try.call33 (by kernel_rfl) (LoopsOk_eq (l := [(0, bodyOf Try.f33 0)]) (by kernel_rfl) ⟨laws_toFloat32S_l0_ok v17, trivial⟩) (laws_toFloat32S_den v17) hy hm h0 hA
noncomputable def laws_toFloat32S_F : DFn := fun args L =>
  match args with
  | [a1] =>
    optT (rowF32 L a1) fun v17 =>
    .call (laws_toFloat32S_g v17) fun y => .leaf (.own (L.length + 0) 0 ((y).length), L ++ [.row (.f32 y) 0])
  | _ => .fail
theorem laws_toFloat32S_Fok : COk Try.prog 33 laws_toFloat32S_F true := by
  intro F L H args r L' hs ha hr
  unfold laws_toFloat32S_F at hr
  split at hr
  · rename_i a1
    obtain ⟨v17, hv17, hr⟩ := optT_run hr
    simp only [Tree.run] at hr
    obtain ⟨y, hy, hr⟩ := Option.bind_eq_some_iff.1 hr
    simp only [Tree.run, Option.some.injEq, Prod.mk.injEq] at hr
    obtain ⟨rfl, rfl⟩ := hr
    exact call_ok1 hs (fun k => (([a1.av F] : List AV)[k]?).getD .top) [a1] [.bslc (BR.root 0) (.f32 v17)] (fun F' h0 hi hρ => ⟨by simp [DVs.av, DV.av, BR.av, hρ], laws_toFloat32S_fn v17 F' (by rw [hi]; rfl) (st_nil hi) ⟨bslc_ok hi (by rw [h0, hρ]; exact rowF32_ok hs (DVs.okAt ha 0 rfl) hv17), trivial⟩ hy⟩) rfl rfl
  · cases hr
/-! laws.toMatrix -/
noncomputable def laws_toMatrix_LO (v14 : Int) (v15 : Int) (v16 : List Nat) : LOr := fun id e L =>
  match id with
  | _ => .fail
noncomputable def laws_toMatrix_tab : List (FuncId × DFn × Bool) := [(33, laws_toFloat32S_F, true)]
theorem laws_toMatrix_hO : OrcOk Try.prog (tabD laws_toMatrix_tab) (tabM laws_toMatrix_tab) := tabD_cons laws_toFloat32S_Fok (tabD_nil _)
noncomputable def laws_toMatrix_T (v14 : Int) (v15 : Int) (v16 : List Nat) : Tree (Int × Int × (List Nat)) :=
  (.call (laws_toFloat32S_g v16) fun v24 =>
  .leaf (v14, v15, v24))

noncomputable def laws_toMatrix_g (v14 : Int) (v15 : Int) (v16 : List Nat) : Option (Int × Int × (List Nat)) := (laws_toMatrix_T v14 v15 v16).run
def laws_toMatrix_enc (v14 : Int) (v15 : Int) (v16 : List Nat) (y : Int × Int × (List Nat)) : Rs := (.agg [.int .i64 y.1, .int .i64 y.2.1, .own 0 0 ((y.2.2).length)], [.row (.f32 y.2.2) 0])
theorem laws_toMatrix_den (v14 : Int) (v15 : Int) (v16 : List Nat) : (den TT (tabD laws_toMatrix_tab) (tabM laws_toMatrix_tab) (laws_toMatrix_LO v14 v15 v16) (codeOf Try.f17) ([.agg [.int .i64 v14, .int .i64 v15, .bslc (BR.root 0) (.f32 v16)]] ++ List.replicate (Try.f17.ntmps - ([.agg [.int .i64 v14, .int .i64 v15, .bslc (BR.root 0) (.f32 v16)]] : List DV).length) .undef) []).bind (retD TT Try.f17.results.toList 0) = (laws_toMatrix_T v14 v15 v16).bind fun y => .leaf (laws_toMatrix_enc v14 v15 v16 y) := by kernel_rfl
theorem laws_toMatrix_fn (v14 : Int) (v15 : Int) (v16 : List Nat) (F : Fr) (hm : F.ids.length = 0) (h0 : St F [] F.H0) (hA : DVs.Ok F [] [.agg [.int .i64 v14, .int .i64 v15, .bslc (BR.root 0) (.f32 v16)]]) {y : Int × Int × (List Nat)} (hy : laws_toMatrix_g v14 v15 v16 = some y) : ∃ H', FnOk Try.prog 17 (DVs.av F [.agg [.int .i64 v14, .int .i64 v15, .bslc (BR.root 0) (.f32 v16)]]) F.H0 ((laws_toMatrix_enc v14 v15 v16 y).1.av F) H' ∧ St F (laws_toMatrix_enc v14 v15 v16 y).2 H' ∧ (laws_toMatrix_enc v14 v15 v16 y).1.Ok F (laws_toMatrix_enc v14 v15 v16 y).2 :=
  fn_fin tok laws_toMatrix_hO mixed Try.func17 Try.call17 (by kernel_rfl) (LoopsOk_eq (l := []) (by kernel_rfl) trivial) (laws_toMatrix_den v14 v15 v16) hy hm h0 hA
noncomputable def laws_toMatrix_F : DFn := fun args L =>
  match args with
  | [.agg [.int .i64 v14, .int .i64 v15, a1]] =>
    optT (rowF32 L a1) fun v16 =>
    .call (laws_toMatrix_g v14 v15 v16) fun y => .leaf (.agg [.int .i64 y.1, .int .i64 y.2.1, .own (L.length + 0) 0 ((y.2.2).length)], L ++ [.row (.f32 y.2.2) 0])
  | _ => .fail
theorem laws_toMatrix_Fok : COk Try.prog 17 laws_toMatrix_F true := by
  intro F L H args r L' hs ha hr
  unfold laws_toMatrix_F at hr
  split at hr
  · rename_i v14 v15 a1
    obtain ⟨v16, hv16, hr⟩ := optT_run hr
    simp only [Tree.run] at hr
    obtain ⟨y, hy, hr⟩ := Option.bind_eq_some_iff.1 hr
    simp only [Tree.run, Option.some.injEq, Prod.mk.injEq] at hr
    obtain ⟨rfl, rfl⟩ := hr
    exact call_ok1 hs (fun k => (([a1.av F] : List AV)[k]?).getD .top) [.agg [.int .i64 v14, .int .i64 v15, a1]] [.agg [.int .i64 v14, .int .i64 v15, .bslc (BR.root 0) (.f32 v16)]] (fun F' h0 hi hρ => ⟨by simp [DVs.av, DV.av, BR.av, hρ], laws_toMatrix_fn v14 v15 v16 F' (by rw [hi]; rfl) (st_nil hi) ⟨⟨trivial, trivial, bslc_ok hi (by rw [h0, hρ]; exact rowF32_ok hs (DVs.okAt (DVs.okAt ha 0 rfl) 2 rfl) hv16), trivial⟩, trivial⟩ hy⟩) rfl rfl
  · cases hr
/-! spec.l00In -/
noncomputable def spec_l00In_LO (v45 : Int) (v46 : Int) (v47 : Int) : LOr := fun id e L =>
  match id with
  | _ => .fail
noncomputable def spec_l00In_tab : List (FuncId × DFn × Bool) := []
theorem spec_l00In_hO : OrcOk Try.prog (tabD spec_l00In_tab) (tabM spec_l00In_tab) := tabD_nil _
noncomputable def spec_l00In_T (v45 : Int) (v46 : Int) (v47 : Int) : Tree (Bool) :=
  (.br (decide (v46 ≤ v45)) (
   .leaf (decide (v45 ≤ v47))
  ) (
   .leaf false
  ))

noncomputable def spec_l00In_g (v45 : Int) (v46 : Int) (v47 : Int) : Option (Bool) := (spec_l00In_T v45 v46 v47).run
def spec_l00In_enc (v45 : Int) (v46 : Int) (v47 : Int) (y : Bool) : Rs := (.bool y, [])
theorem spec_l00In_den (v45 : Int) (v46 : Int) (v47 : Int) : (den TT (tabD spec_l00In_tab) (tabM spec_l00In_tab) (spec_l00In_LO v45 v46 v47) (codeOf Try.f70) ([.int .i64 v45, .int .i64 v46, .int .i64 v47] ++ List.replicate (Try.f70.ntmps - ([.int .i64 v45, .int .i64 v46, .int .i64 v47] : List DV).length) .undef) []).bind (retD TT Try.f70.results.toList 0) = (spec_l00In_T v45 v46 v47).bind fun y => .leaf (spec_l00In_enc v45 v46 v47 y) := by kernel_rfl
theorem spec_l00In_fn (v45 : Int) (v46 : Int) (v47 : Int) (F : Fr) (hm : F.ids.length = 0) (h0 : St F [] F.H0) (hA : DVs.Ok F [] [.int .i64 v45, .int .i64 v46, .int .i64 v47]) {y : Bool} (hy : spec_l00In_g v45 v46 v47 = some y) : ∃ H', FnOk Try.prog 70 (DVs.av F [.int .i64 v45, .int .i64 v46, .int .i64 v47]) F.H0 ((spec_l00In_enc v45 v46 v47 y).1.av F) H' ∧ St F (spec_l00In_enc v45 v46 v47 y).2 H' ∧ (spec_l00In_enc v45 v46 v47 y).1.Ok F (spec_l00In_enc v45 v46 v47 y).2 :=
  fn_fin tok spec_l00In_hO mixed Try.func70 Try.call70 (by kernel_rfl) (LoopsOk_eq (l := []) (by kernel_rfl) trivial) (spec_l00In_den v45 v46 v47) hy hm h0 hA
def spec_l00In_v (v45 : Int) (v46 : Int) (v47 : Int) : Bool :=
  if (decide (v46 ≤ v45)) = true then (
   decide (v45 ≤ v47)
  ) else (
   false
  )
theorem spec_l00In_tot (v45 : Int) (v46 : Int) (v47 : Int) : spec_l00In_g v45 v46 v47 = some (spec_l00In_v v45 v46 v47) := by
  unfold spec_l00In_g spec_l00In_T spec_l00In_v
  simp only [Tree.run]
  repeat' (first | rfl | split)
noncomputable def spec_l00In_F : DFn := fun args L =>
  match args with
  | [.int .i64 v45, .int .i64 v46, .int .i64 v47] =>
    .leaf (.bool (spec_l00In_v v45 v46 v47), L)
  | _ => .fail
theorem spec_l00In_Fok : COk Try.prog 70 spec_l00In_F true := by
  intro F L H args r L' hs ha hr
  unfold spec_l00In_F at hr
  split at hr
  · rename_i v45 v46 v47
    have hy := spec_l00In_tot v45 v46 v47
    generalize spec_l00In_v v45 v46 v47 = y at hy hr
    simp only [Tree.run, Option.some.injEq, Prod.mk.injEq] at hr
    obtain ⟨rfl, rfl⟩ := hr
    exact call_ok0 hs (fun k => (([] : List AV)[k]?).getD .top) [.int .i64 v45, .int .i64 v46, .int .i64 v47] [.int .i64 v45, .int .i64 v46, .int .i64 v47] (fun F' h0 hi hρ => ⟨by simp [DVs.av, DV.av, BR.av, hρ], spec_l00In_fn v45 v46 v47 F' (by rw [hi]; rfl) (st_nil hi) ⟨trivial, trivial, trivial, trivial⟩ hy⟩) rfl
  · cases hr
/-! spec.l02Sides -/
noncomputable def spec_l02Sides_LO (v43 : Int) (v44 : Int) : LOr := fun id e L =>
  match id with
  | _ => .fail
noncomputable def spec_l02Sides_tab : List (FuncId × DFn × Bool) := [(70, spec_l00In_F, true)]
theorem spec_l02Sides_hO : OrcOk Try.prog (tabD spec_l02Sides_tab) (tabM spec_l02Sides_tab) := tabD_cons spec_l00In_Fok (tabD_nil _)
noncomputable def spec_l02Sides_T (v43 : Int) (v44 : Int) : Tree (Bool) :=
  (.br (spec_l00In_v v43 (1 : Int) (12 : Int)) (
   .leaf (spec_l00In_v v44 (1 : Int) (12 : Int))
  ) (
   .leaf false
  ))

noncomputable def spec_l02Sides_g (v43 : Int) (v44 : Int) : Option (Bool) := (spec_l02Sides_T v43 v44).run
def spec_l02Sides_enc (v43 : Int) (v44 : Int) (y : Bool) : Rs := (.bool y, [])
theorem spec_l02Sides_den (v43 : Int) (v44 : Int) : (den TT (tabD spec_l02Sides_tab) (tabM spec_l02Sides_tab) (spec_l02Sides_LO v43 v44) (codeOf Try.f134) ([.int .i64 v43, .int .i64 v44] ++ List.replicate (Try.f134.ntmps - ([.int .i64 v43, .int .i64 v44] : List DV).length) .undef) []).bind (retD TT Try.f134.results.toList 0) = (spec_l02Sides_T v43 v44).bind fun y => .leaf (spec_l02Sides_enc v43 v44 y) := by kernel_rfl
theorem spec_l02Sides_fn (v43 : Int) (v44 : Int) (F : Fr) (hm : F.ids.length = 0) (h0 : St F [] F.H0) (hA : DVs.Ok F [] [.int .i64 v43, .int .i64 v44]) {y : Bool} (hy : spec_l02Sides_g v43 v44 = some y) : ∃ H', FnOk Try.prog 134 (DVs.av F [.int .i64 v43, .int .i64 v44]) F.H0 ((spec_l02Sides_enc v43 v44 y).1.av F) H' ∧ St F (spec_l02Sides_enc v43 v44 y).2 H' ∧ (spec_l02Sides_enc v43 v44 y).1.Ok F (spec_l02Sides_enc v43 v44 y).2 :=
  fn_fin tok spec_l02Sides_hO mixed Try.func134 Try.call134 (by kernel_rfl) (LoopsOk_eq (l := []) (by kernel_rfl) trivial) (spec_l02Sides_den v43 v44) hy hm h0 hA
def spec_l02Sides_v (v43 : Int) (v44 : Int) : Bool :=
  if (spec_l00In_v v43 (1 : Int) (12 : Int)) = true then (
   (spec_l00In_v v44 (1 : Int) (12 : Int))
  ) else (
   false
  )
theorem spec_l02Sides_tot (v43 : Int) (v44 : Int) : spec_l02Sides_g v43 v44 = some (spec_l02Sides_v v43 v44) := by
  unfold spec_l02Sides_g spec_l02Sides_T spec_l02Sides_v
  simp only [Tree.run]
  repeat' (first | rfl | split)
noncomputable def spec_l02Sides_F : DFn := fun args L =>
  match args with
  | [.int .i64 v43, .int .i64 v44] =>
    .leaf (.bool (spec_l02Sides_v v43 v44), L)
  | _ => .fail
theorem spec_l02Sides_Fok : COk Try.prog 134 spec_l02Sides_F true := by
  intro F L H args r L' hs ha hr
  unfold spec_l02Sides_F at hr
  split at hr
  · rename_i v43 v44
    have hy := spec_l02Sides_tot v43 v44
    generalize spec_l02Sides_v v43 v44 = y at hy hr
    simp only [Tree.run, Option.some.injEq, Prod.mk.injEq] at hr
    obtain ⟨rfl, rfl⟩ := hr
    exact call_ok0 hs (fun k => (([] : List AV)[k]?).getD .top) [.int .i64 v43, .int .i64 v44] [.int .i64 v43, .int .i64 v44] (fun F' h0 hi hρ => ⟨by simp [DVs.av, DV.av, BR.av, hρ], spec_l02Sides_fn v43 v44 F' (by rw [hi]; rfl) (st_nil hi) ⟨trivial, trivial, trivial⟩ hy⟩) rfl
  · cases hr
/-! spec.l01Finite -/
noncomputable def spec_l01Finite_LO (v50 : Nat) : LOr := fun id e L =>
  match id with
  | _ => .fail
noncomputable def spec_l01Finite_tab : List (FuncId × DFn × Bool) := []
theorem spec_l01Finite_hO : OrcOk Try.prog (tabD spec_l01Finite_tab) (tabM spec_l01Finite_tab) := tabD_nil _
noncomputable def spec_l01Finite_T (v50 : Nat) : Tree (Bool) :=
  .leaf (feq .f32 (fsub .f32 v50 v50) (0 : Nat))

noncomputable def spec_l01Finite_g (v50 : Nat) : Option (Bool) := (spec_l01Finite_T v50).run
def spec_l01Finite_enc (v50 : Nat) (y : Bool) : Rs := (.bool y, [])
theorem spec_l01Finite_den (v50 : Nat) : (den TT (tabD spec_l01Finite_tab) (tabM spec_l01Finite_tab) (spec_l01Finite_LO v50) (codeOf Try.f60) ([.flt .f32 v50] ++ List.replicate (Try.f60.ntmps - ([.flt .f32 v50] : List DV).length) .undef) []).bind (retD TT Try.f60.results.toList 0) = (spec_l01Finite_T v50).bind fun y => .leaf (spec_l01Finite_enc v50 y) := by kernel_rfl
theorem spec_l01Finite_fn (v50 : Nat) (F : Fr) (hm : F.ids.length = 0) (h0 : St F [] F.H0) (hA : DVs.Ok F [] [.flt .f32 v50]) {y : Bool} (hy : spec_l01Finite_g v50 = some y) : ∃ H', FnOk Try.prog 60 (DVs.av F [.flt .f32 v50]) F.H0 ((spec_l01Finite_enc v50 y).1.av F) H' ∧ St F (spec_l01Finite_enc v50 y).2 H' ∧ (spec_l01Finite_enc v50 y).1.Ok F (spec_l01Finite_enc v50 y).2 :=
  fn_fin tok spec_l01Finite_hO mixed Try.func60 Try.call60 (by kernel_rfl) (LoopsOk_eq (l := []) (by kernel_rfl) trivial) (spec_l01Finite_den v50) hy hm h0 hA
def spec_l01Finite_v (v50 : Nat) : Bool :=
  feq .f32 (fsub .f32 v50 v50) (0 : Nat)
theorem spec_l01Finite_tot (v50 : Nat) : spec_l01Finite_g v50 = some (spec_l01Finite_v v50) := by
  unfold spec_l01Finite_g spec_l01Finite_T spec_l01Finite_v
  simp only [Tree.run]
  repeat' (first | rfl | split)
noncomputable def spec_l01Finite_F : DFn := fun args L =>
  match args with
  | [.flt .f32 v50] =>
    .leaf (.bool (spec_l01Finite_v v50), L)
  | _ => .fail
theorem spec_l01Finite_Fok : COk Try.prog 60 spec_l01Finite_F true := by
  intro F L H args r L' hs ha hr
  unfold spec_l01Finite_F at hr
  split at hr
  · rename_i v50
    have hy := spec_l01Finite_tot v50
    generalize spec_l01Finite_v v50 = y at hy hr
    simp only [Tree.run, Option.some.injEq, Prod.mk.injEq] at hr
    obtain ⟨rfl, rfl⟩ := hr
    exact call_ok0 hs (fun k => (([] : List AV)[k]?).getD .top) [.flt .f32 v50] [.flt .f32 v50] (fun F' h0 hi hρ => ⟨by simp [DVs.av, DV.av, BR.av, hρ], spec_l01Finite_fn v50 F' (by rw [hi]; rfl) (st_nil hi) ⟨trivial, trivial⟩ hy⟩) rfl
  · cases hr
/-! spec.l02Finite -/
noncomputable def spec_l02Finite_l0_T (v48 : List Nat) (s : Int) : Tree ((Int) ⊕ ((Unit) ⊕ (Unit))) :=
  (.br (decide (s < ((v48.length : Nat) : Int))) (
   (.grd (inb s v48.length) <|
   (.br (!(spec_l01Finite_v (nth v48 (Int.toNat s)))) (
    .leaf (.inr (.inl ()))
   ) (
    .leaf (.inl (IntKind.i64.wrap (s + (1 : Int))))
   )))
  ) (
   .leaf (.inr (.inr ()))
  ))

noncomputable def spec_l02Finite_l0_g (v48 : List Nat) (s0 : Int) : Option ((Unit) ⊕ (Unit)) := whileM (fun s => (spec_l02Finite_l0_T v48 s).run) s0
def spec_l02Finite_l0_E (v48 : List Nat) (s : Int) : Sd := ([.bslc (BR.root 0) (.f32 v48), .top, .top, .int .i64 s, .top, .top, .top, .top, .top, .top, .top, .top, .top, .top, .top, .top], [])
def spec_l02Finite_l0_X (v48 : List Nat) (x : (Unit) ⊕ (Unit)) : Out := (match x with | .inl x => (.ret, [.top, .top, .lit false, .top, .top, .top, .top, .top, .top, .top, .top, .top, .top, .top, .top, .top], []) | .inr x => (.normal, [.top, .top, .top, .top, .top, .top, .top, .top, .top, .top, .top, .top, .top, .top, .top, .top], []))
def spec_l02Finite_l0_kill : List Nat := [0, 1, 1, 0, 1, 1, 1, 1, 1, 1, 1, 1, 1, 1, 1, 1]
def spec_l02Finite_l0_nx : Exit → List Nat
  | .exit 0 => [1, 1, 1, 1, 1, 1, 1, 1, 1, 1, 1, 1, 1, 1, 1, 1]
  | .ret => [1, 1, 0, 1, 1, 1, 1, 1, 1, 1, 1, 1, 1, 1, 1, 1]
  | _ => []
noncomputable def spec_l02Finite_LO (v48 : List Nat) : LOr := fun id e L =>
  match id with
  | 0 => .need (normA 0 spec_l02Finite_l0_kill e L = some (spec_l02Finite_l0_E v48 (gI (vAt e 3)))) (.call (spec_l02Finite_l0_g v48 (gI (vAt e 3))) fun x => .sum x (fun b0 => .leaf (spec_l02Finite_l0_X v48 (.inl b0))) (fun c0 => .leaf (spec_l02Finite_l0_X v48 (.inr c0))))
  | _ => .fail
noncomputable def spec_l02Finite_tab : List (FuncId × DFn × Bool) := [(60, spec_l01Finite_F, true)]
theorem spec_l02Finite_hO : OrcOk Try.prog (tabD spec_l02Finite_tab) (tabM spec_l02Finite_tab) := tabD_cons spec_l01Finite_Fok (tabD_nil _)
theorem spec_l02Finite_l0_be (v48 : List Nat) (s : Int) : bodyT TT (tabD spec_l02Finite_tab) (tabM spec_l02Finite_tab) (spec_l02Finite_LO v48) 0 spec_l02Finite_l0_kill spec_l02Finite_l0_nx (bodyOf Try.f135 0) 0 (spec_l02Finite_l0_E v48 s) = (spec_l02Finite_l0_T v48 s).bind fun y => .leaf (outS (spec_l02Finite_l0_E v48) (spec_l02Finite_l0_X v48) y) := by kernel_rfl
theorem spec_l02Finite_l0_ok (v48 : List Nat) : LSound Try.prog 0 (spec_l02Finite_LO v48) 0 (bodyOf Try.f135 0) := by
  intro e L out h
  exact lo_ok (E := spec_l02Finite_l0_E v48) (gT := spec_l02Finite_l0_T v48) (X := spec_l02Finite_l0_X v48) (s0 := (gI (vAt e 3))) tok spec_l02Finite_hO mixed (LoopsOk_eq (l := []) (by kernel_rfl) trivial) (spec_l02Finite_l0_be v48) rfl (by intro x; (cases x with | inl b => rfl | inr x => exact rfl)) h
noncomputable def spec_l02Finite_T (v48 : List Nat) : Tree (Bool) :=
  (.need (some (spec_l02Finite_l0_E v48 (0 : Int)) = some (spec_l02Finite_l0_E v48 (0 : Int))) <|
  (.call (spec_l02Finite_l0_g v48 (0 : Int)) fun v53 =>
  (.sum v53 (fun v54 =>
   .leaf false
  ) (fun v55 =>
   .leaf true
  ))))

noncomputable def spec_l02Finite_g (v48 : List Nat) : Option (Bool) := (spec_l02Finite_T v48).run
def spec_l02Finite_enc (v48 : List Nat) (y : Bool) : Rs := (.bool y, [])
theorem spec_l02Finite_den (v48 : List Nat) : (den TT (tabD spec_l02Finite_tab) (tabM spec_l02Finite_tab) (spec_l02Finite_LO v48) (codeOf Try.f135) ([.bslc (BR.root 0) (.f32 v48)] ++ List.replicate (Try.f135.ntmps - ([.bslc (BR.root 0) (.f32 v48)] : List DV).length) .undef) []).bind (retD TT Try.f135.results.toList 0) = (spec_l02Finite_T v48).bind fun y => .leaf (spec_l02Finite_enc v48 y) := by kernel_rfl
theorem spec_l02Finite_fn (v48 : List Nat) (F : Fr) (hm : F.ids.length = 0) (h0 : St F [] F.H0) (hA : DVs.Ok F [] [.bslc (BR.root 0) (.f32 v48)]) {y : Bool} (hy : spec_l02Finite_g v48 = some y) : ∃ H', FnOk Try.prog 135 (DVs.av F [.bslc (BR.root 0) (.f32 v48)]) F.H0 ((spec_l02Finite_enc v48 y).1.av F) H' ∧ St F (spec_l02Finite_enc v48 y).2 H' ∧ (spec_l02Finite_enc v48 y).1.Ok F (spec_l02Finite_enc v48 y).2 :=
  fn_fin tok spec_l02Finite_hO mixed Try.func135 Try.call135 (by kernel_rfl) (LoopsOk_eq (l := [(0, bodyOf Try.f135 0)]) (by kernel_rfl) ⟨spec_l02Finite_l0_ok v48, trivial⟩) (spec_l02Finite_den v48) hy hm h0 hA
noncomputable def spec_l02Finite_F : DFn := fun args L =>
  match args with
  | [a1] =>
    optT (rowF32 L a1) fun v48 =>
    .call (spec_l02Finite_g v48) fun y => .leaf (.bool y, L)
  | _ => .fail
theorem spec_l02Finite_Fok : COk Try.prog 135 spec_l02Finite_F true := by
  intro F L H args r L' hs ha hr
  unfold spec_l02Finite_F at hr
  split at hr
  · rename_i a1
    obtain ⟨v48, hv48, hr⟩ := optT_run hr
    simp only [Tree.run] at hr
    obtain ⟨y, hy, hr⟩ := Option.bind_eq_some_iff.1 hr
    simp only [Tree.run, Option.some.injEq, Prod.mk.injEq] at hr
    obtain ⟨rfl, rfl⟩ := hr
    exact call_ok0 hs (fun k => (([a1.av F] : List AV)[k]?).getD .top) [a1] [.bslc (BR.root 0) (.f32 v48)] (fun F' h0 hi hρ => ⟨by simp [DVs.av, DV.av, BR.av, hρ], spec_l02Finite_fn v48 F' (by rw [hi]; rfl) (st_nil hi) ⟨bslc_ok hi (by rw [h0, hρ]; exact rowF32_ok hs (DVs.okAt ha 0 rfl) hv48), trivial⟩ hy⟩) rfl
  · cases hr
/-! spec.l02Is -/
noncomputable def spec_l02Is_LO (v40 : Int) (v41 : Int) (v42 : List Nat) : LOr := fun id e L =>
  match id with
  | _ => .fail
noncomputable def spec_l02Is_tab : List (FuncId × DFn × Bool) := [(134, spec_l02Sides_F, true), (135, spec_l02Finite_F, true)]
theorem spec_l02Is_hO : OrcOk Try.prog (tabD spec_l02Is_tab) (tabM spec_l02Is_tab) := tabD_cons spec_l02Sides_Fok (tabD_cons spec_l02Finite_Fok (tabD_nil _))
noncomputable def spec_l02Is_T (v40 : Int) (v41 : Int) (v42 : List Nat) : Tree (Bool) :=
  (.br (spec_l02Sides_v v40 v41) (
   (.br (decide (((v42.length : Nat) : Int) = IntKind.i64.wrap (v40 * v41))) (
    (.call (spec_l02Finite_g v42) fun v56 =>
    .leaf v56)
   ) (
    .leaf false
   ))
  ) (
   .leaf false
  ))

noncomputable def spec_l02Is_g (v40 : Int) (v41 : Int) (v42 : List Nat) : Option (Bool) := (spec_l02Is_T v40 v41 v42).run
def spec_l02Is_enc (v40 : Int) (v41 : Int) (v42 : List Nat) (y : Bool) : Rs := (.bool y, [])
theorem spec_l02Is_den (v40 : Int) (v41 : Int) (v42 : List Nat) : (den TT (tabD spec_l02Is_tab) (tabM spec_l02Is_tab) (spec_l02Is_LO v40 v41 v42) (codeOf Try.f61) ([.bptr (BR.root 0) [.int .i64 v40, .int .i64 v41, .bslc (BR.root 1) (.f32 v42)]] ++ List.replicate (Try.f61.ntmps - ([.bptr (BR.root 0) [.int .i64 v40, .int .i64 v41, .bslc (BR.root 1) (.f32 v42)]] : List DV).length) .undef) []).bind (retD TT Try.f61.results.toList 0) = (spec_l02Is_T v40 v41 v42).bind fun y => .leaf (spec_l02Is_enc v40 v41 v42 y) := by kernel_rfl
theorem spec_l02Is_fn (v40 : Int) (v41 : Int) (v42 : List Nat) (F : Fr) (hm : F.ids.length = 0) (h0 : St F [] F.H0) (hA : DVs.Ok F [] [.bptr (BR.root 0) [.int .i64 v40, .int .i64 v41, .bslc (BR.root 1) (.f32 v42)]]) {y : Bool} (hy : spec_l02Is_g v40 v41 v42 = some y) : ∃ H', FnOk Try.prog 61 (DVs.av F [.bptr (BR.root 0) [.int .i64 v40, .int .i64 v41, .bslc (BR.root 1) (.f32 v42)]]) F.H0 ((spec_l02Is_enc v40 v41 v42 y).1.av F) H' ∧ St F (spec_l02Is_enc v40 v41 v42 y).2 H' ∧ (spec_l02Is_enc v40 v41 v42 y).1.Ok F (spec_l02Is_enc v40 v41 v42 y).2 :=
  fn_fin tok spec_l02Is_hO mixed Try.func61 Try.call61 (by kernel_rfl) (LoopsOk_eq (l := []) (by kernel_rfl) trivial) (spec_l02Is_den v40 v41 v42) hy hm h0 hA
noncomputable def spec_l02Is_F : DFn := fun args L =>
  match args with
  | [a1] =>
    optT (cellsOf L 3 a1) fun cs0 =>
    (match cs0 with
    | [.int .i64 v40, .int .i64 v41, a2] =>
    optT (rowF32 L a2) fun v42 =>
    .call (spec_l02Is_g v40 v41 v42) fun y => .leaf (.bool y, L)
    | _ => .fail)
  | _ => .fail
theorem spec_l02Is_Fok : COk Try.prog 61 spec_l02Is_F true := by
  intro F L H args r L' hs ha hr
  unfold spec_l02Is_F at hr
  split at hr
  · rename_i a1
    obtain ⟨cs0, hcp0, hr⟩ := optT_run hr
    split at hr
    · rename_i v40 v41 a2
      obtain ⟨v42, hv42, hr⟩ := optT_run hr
      simp only [Tree.run] at hr
      obtain ⟨y, hy, hr⟩ := Option.bind_eq_some_iff.1 hr
      simp only [Tree.run, Option.some.injEq, Prod.mk.injEq] at hr
      obtain ⟨rfl, rfl⟩ := hr
      exact call_ok0 hs (fun k => (([a1.av F, a2.av F] : List AV)[k]?).getD .top) [a1] [.bptr (BR.root 0) [.int .i64 v40, .int .i64 v41, .bslc (BR.root 1) (.f32 v42)]] (fun F' h0 hi hρ => ⟨by simp [DVs.av, DV.av, BR.av, hρ], spec_l02Is_fn v40 v41 v42 F' (by rw [hi]; rfl) (st_nil hi) ⟨bptr_ok hi (by rw [h0]; simpa [DVs.av, DV.av, BR.av, hρ] using (cellsOf_ok hs (DVs.okAt ha 0 rfl) hcp0).1) ⟨trivial, trivial, bslc_ok hi (by rw [h0, hρ]; exact rowF32_ok hs (DVs.okAt (cellsOf_ok hs (DVs.okAt ha 0 rfl) hcp0).2 2 rfl) hv42), trivial⟩, trivial⟩ hy⟩) rfl
    · cases hr
  · cases hr
/-! spec.l02Fit -/
noncomputable def spec_l02Fit_LO (v34 : Int) (v35 : Int) (v36 : List Nat) (v37 : Int) (v38 : Int) (v39 : List Nat) : LOr := fun id e L =>
  match id with
  | _ => .fail
noncomputable def spec_l02Fit_tab : List (FuncId × DFn × Bool) := [(61, spec_l02Is_F, true)]
theorem spec_l02Fit_hO : OrcOk Try.prog (tabD spec_l02Fit_tab) (tabM spec_l02Fit_tab) := tabD_cons spec_l02Is_Fok (tabD_nil _)
noncomputable def spec_l02Fit_T (v34 : Int) (v35 : Int) (v36 : List Nat) (v37 : Int) (v38 : Int) (v39 : List Nat) : Tree (Bool) :=
  (.call (spec_l02Is_g v34 v35 v36) fun v57 =>
  (.br v57 (
   (.call (spec_l02Is_g v37 v38 v39) fun v58 =>
   (.br v58 (
    .leaf (decide (v35 = v37))
   ) (
    .leaf false
   )))
  ) (
   .leaf false
  )))

noncomputable def spec_l02Fit_g (v34 : Int) (v35 : Int) (v36 : List Nat) (v37 : Int) (v38 : Int) (v39 : List Nat) : Option (Bool) := (spec_l02Fit_T v34 v35 v36 v37 v38 v39).run
def spec_l02Fit_enc (v34 : Int) (v35 : Int) (v36 : List Nat) (v37 : Int) (v38 : Int) (v39 : List Nat) (y : Bool) : Rs := (.bool y, [])
theorem spec_l02Fit_den (v34 : Int) (v35 : Int) (v36 : List Nat) (v37 : Int) (v38 : Int) (v39 : List Nat) : (den TT (tabD spec_l02Fit_tab) (tabM spec_l02Fit_tab) (spec_l02Fit_LO v34 v35 v36 v37 v38 v39) (codeOf Try.f69) ([.bptr (BR.root 0) [.int .i64 v34, .int .i64 v35, .bslc (BR.root 1) (.f32 v36)], .bptr (BR.root 2) [.int .i64 v37, .int .i64 v38, .bslc (BR.root 3) (.f32 v39)]] ++ List.replicate (Try.f69.ntmps - ([.bptr (BR.root 0) [.int .i64 v34, .int .i64 v35, .bslc (BR.root 1) (.f32 v36)], .bptr (BR.root 2) [.int .i64 v37, .int .i64 v38, .bslc (BR.root 3) (.f32 v39)]] : List DV).length) .undef) []).bind (retD TT Try.f69.results.toList 0) = (spec_l02Fit_T v34 v35 v36 v37 v38 v39).bind fun y => .leaf (spec_l02Fit_enc v34 v35 v36 v37 v38 v39 y) := by kernel_rfl
theorem spec_l02Fit_fn (v34 : Int) (v35 : Int) (v36 : List Nat) (v37 : Int) (v38 : Int) (v39 : List Nat) (F : Fr) (hm : F.ids.length = 0) (h0 : St F [] F.H0) (hA : DVs.Ok F [] [.bptr (BR.root 0) [.int .i64 v34, .int .i64 v35, .bslc (BR.root 1) (.f32 v36)], .bptr (BR.root 2) [.int .i64 v37, .int .i64 v38, .bslc (BR.root 3) (.f32 v39)]]) {y : Bool} (hy : spec_l02Fit_g v34 v35 v36 v37 v38 v39 = some y) : ∃ H', FnOk Try.prog 69 (DVs.av F [.bptr (BR.root 0) [.int .i64 v34, .int .i64 v35, .bslc (BR.root 1) (.f32 v36)], .bptr (BR.root 2) [.int .i64 v37, .int .i64 v38, .bslc (BR.root 3) (.f32 v39)]]) F.H0 ((spec_l02Fit_enc v34 v35 v36 v37 v38 v39 y).1.av F) H' ∧ St F (spec_l02Fit_enc v34 v35 v36 v37 v38 v39 y).2 H' ∧ (spec_l02Fit_enc v34 v35 v36 v37 v38 v39 y).1.Ok F (spec_l02Fit_enc v34 v35 v36 v37 v38 v39 y).2 :=
  fn_fin tok spec_l02Fit_hO mixed Try.func69 Try.call69 (by kernel_rfl) (LoopsOk_eq (l := []) (by kernel_rfl) trivial) (spec_l02Fit_den v34 v35 v36 v37 v38 v39) hy hm h0 hA
noncomputable def spec_l02Fit_F : DFn := fun args L =>
  match args with
  | [a1, a3] =>
    optT (cellsOf L 3 a1) fun cs0 =>
    (match cs0 with
    | [.int .i64 v34, .int .i64 v35, a2] =>
    optT (rowF32 L a2) fun v36 =>
    optT (cellsOf L 3 a3) fun cs2 =>
    (match cs2 with
    | [.int .i64 v37, .int .i64 v38, a4] =>
    optT (rowF32 L a4) fun v39 =>
    .call (spec_l02Fit_g v34 v35 v36 v37 v38 v39) fun y => .leaf (.bool y, L)
    | _ => .fail)
    | _ => .fail)
  | _ => .fail
theorem spec_l02Fit_Fok : COk Try.prog 69 spec_l02Fit_F true := by
  intro F L H args r L' hs ha hr
  unfold spec_l02Fit_F at hr
  split at hr
  · rename_i a1 a3
    obtain ⟨cs0, hcp0, hr⟩ := optT_run hr
    split at hr
    · rename_i v34 v35 a2
      obtain ⟨v36, hv36, hr⟩ := optT_run hr
      obtain ⟨cs2, hcp2, hr⟩ := optT_run hr
      split at hr
      · rename_i v37 v38 a4
        obtain ⟨v39, hv39, hr⟩ := optT_run hr
        simp only [Tree.run] at hr
        obtain ⟨y, hy, hr⟩ := Option.bind_eq_some_iff.1 hr
        simp only [Tree.run, Option.some.injEq, Prod.mk.injEq] at hr
        obtain ⟨rfl, rfl⟩ := hr
        exact call_ok0 hs (fun k => (([a1.av F, a2.av F, a3.av F, a4.av F] : List AV)[k]?).getD .top) [a1, a3] [.bptr (BR.root 0) [.int .i64 v34, .int .i64 v35, .bslc (BR.root 1) (.f32 v36)], .bptr (BR.root 2) [.int .i64 v37, .int .i64 v38, .bslc (BR.root 3) (.f32 v39)]] (fun F' h0 hi hρ => ⟨by simp [DVs.av, DV.av, BR.av, hρ], spec_l02Fit_fn v34 v35 v36 v37 v38 v39 F' (by rw [hi]; rfl) (st_nil hi) ⟨bptr_ok hi (by rw [h0]; simpa [DVs.av, DV.av, BR.av, hρ] using (cellsOf_ok hs (DVs.okAt ha 0 rfl) hcp0).1) ⟨trivial, trivial, bslc_ok hi (by rw [h0, hρ]; exact rowF32_ok hs (DVs.okAt (cellsOf_ok hs (DVs.okAt ha 0 rfl) hcp0).2 2 rfl) hv36), trivial⟩, bptr_ok hi (by rw [h0]; simpa [DVs.av, DV.av, BR.av, hρ] using (cellsOf_ok hs (DVs.okAt ha 1 rfl) hcp2).1) ⟨trivial, trivial, bslc_ok hi (by rw [h0, hρ]; exact rowF32_ok hs (DVs.okAt (cellsOf_ok hs (DVs.okAt ha 1 rfl) hcp2).2 2 rfl) hv39), trivial⟩, trivial⟩ hy⟩) rfl
      · cases hr
    · cases hr
  · cases hr
/-! spec.l02Blank -/
noncomputable def spec_l02Blank_LO (v67 : Int) (v68 : Int) : LOr := fun id e L =>
  match id with
  | _ => .fail
noncomputable def spec_l02Blank_tab : List (FuncId × DFn × Bool) := []
theorem spec_l02Blank_hO : OrcOk Try.prog (tabD spec_l02Blank_tab) (tabM spec_l02Blank_tab) := tabD_nil _
noncomputable def spec_l02Blank_T (v67 : Int) (v68 : Int) : Tree (Int × Int) :=
  .leaf (v67, v68)

noncomputable def spec_l02Blank_g (v67 : Int) (v68 : Int) : Option (Int × Int) := (spec_l02Blank_T v67 v68).run
def spec_l02Blank_enc (v67 : Int) (v68 : Int) (y : Int × Int) : Rs := (.agg [.int .i64 y.1, .int .i64 y.2, .own 0 0 ((([] : List Nat)).length)], [.row (.f32 ([] : List Nat)) 0])
theorem spec_l02Blank_den (v67 : Int) (v68 : Int) : (den TT (tabD spec_l02Blank_tab) (tabM spec_l02Blank_tab) (spec_l02Blank_LO v67 v68) (codeOf Try.f139) ([.int .i64 v67, .int .i64 v68] ++ List.replicate (Try.f139.ntmps - ([.int .i64 v67, .int .i64 v68] : List DV).length) .undef) []).bind (retD TT Try.f139.results.toList 0) = (spec_l02Blank_T v67 v68).bind fun y => .leaf (spec_l02Blank_enc v67 v68 y) := by kernel_rfl
theorem spec_l02Blank_fn (v67 : Int) (v68 : Int) (F : Fr) (hm : F.ids.length = 0) (h0 : St F [] F.H0) (hA : DVs.Ok F [] [.int .i64 v67, .int .i64 v68]) {y : Int × Int} (hy : spec_l02Blank_g v67 v68 = some y) : ∃ H', FnOk Try.prog 139 (DVs.av F [.int .i64 v67, .int .i64 v68]) F.H0 ((spec_l02Blank_enc v67 v68 y).1.av F) H' ∧ St F (spec_l02Blank_enc v67 v68 y).2 H' ∧ (spec_l02Blank_enc v67 v68 y).1.Ok F (spec_l02Blank_enc v67 v68 y).2 :=
  fn_fin tok spec_l02Blank_hO mixed Try.func139 Try.call139 (by kernel_rfl) (LoopsOk_eq (l := []) (by kernel_rfl) trivial) (spec_l02Blank_den v67 v68) hy hm h0 hA
def spec_l02Blank_v (v67 : Int) (v68 : Int) : Int × Int :=
  (v67, v68)
theorem spec_l02Blank_tot (v67 : Int) (v68 : Int) : spec_l02Blank_g v67 v68 = some (spec_l02Blank_v v67 v68) := by
  unfold spec_l02Blank_g spec_l02Blank_T spec_l02Blank_v
  simp only [Tree.run]
  repeat' (first | rfl | split)
noncomputable def spec_l02Blank_F : DFn := fun args L =>
  match args with
  | [.int .i64 v67, .int .i64 v68] =>
    .leaf (.agg [.int .i64 ((spec_l02Blank_v v67 v68).1), .int .i64 ((spec_l02Blank_v v67 v68).2), .own (L.length + 0) 0 ((([] : List Nat)).length)], L ++ [.row (.f32 ([] : List Nat)) 0])
  | _ => .fail
theorem spec_l02Blank_Fok : COk Try.prog 139 spec_l02Blank_F true := by
  intro F L H args r L' hs ha hr
  unfold spec_l02Blank_F at hr
  split at hr
  · rename_i v67 v68
    have hy := spec_l02Blank_tot v67 v68
    generalize spec_l02Blank_v v67 v68 = y at hy hr
    simp only [Tree.run, Option.some.injEq, Prod.mk.injEq] at hr
    obtain ⟨rfl, rfl⟩ := hr
    exact call_ok1 hs (fun k => (([] : List AV)[k]?).getD .top) [.int .i64 v67, .int .i64 v68] [.int .i64 v67, .int .i64 v68] (fun F' h0 hi hρ => ⟨by simp [DVs.av, DV.av, BR.av, hρ], spec_l02Blank_fn v67 v68 F' (by rw [hi]; rfl) (st_nil hi) ⟨trivial, trivial, trivial⟩ hy⟩) rfl rfl
  · cases hr
/-! spec.l02At -/
noncomputable def spec_l02At_LO (v78 : Int) (v79 : Int) (v80 : List Nat) (v81 : Int) (v82 : Int) : LOr := fun id e L =>
  match id with
  | _ => .fail
noncomputable def spec_l02At_tab : List (FuncId × DFn × Bool) := []
theorem spec_l02At_hO : OrcOk Try.prog (tabD spec_l02At_tab) (tabM spec_l02At_tab) := tabD_nil _
noncomputable def spec_l02At_T (v79 : Int) (v80 : List Nat) (v81 : Int) (v82 : Int) : Tree (Nat) :=
  (.grd (inb (IntKind.i64.wrap ((IntKind.i64.wrap (v81 * v79)) + v82)) v80.length) <|
  .leaf (nth v80 (Int.toNat (IntKind.i64.wrap ((IntKind.i64.wrap (v81 * v79)) + v82)))))

noncomputable def spec_l02At_g (v79 : Int) (v80 : List Nat) (v81 : Int) (v82 : Int) : Option (Nat) := (spec_l02At_T v79 v80 v81 v82).run
def spec_l02At_enc (v78 : Int) (v79 : Int) (v80 : List Nat) (v81 : Int) (v82 : Int) (y : Nat) : Rs := (.flt .f32 y, [])
theorem spec_l02At_den (v78 : Int) (v79 : Int) (v80 : List Nat) (v81 : Int) (v82 : Int) : (den TT (tabD spec_l02At_tab) (tabM spec_l02At_tab) (spec_l02At_LO v78 v79 v80 v81 v82) (codeOf Try.f59) ([.bptr (BR.root 0) [.int .i64 v78, .int .i64 v79, .bslc (BR.root 1) (.f32 v80)], .int .i64 v81, .int .i64 v82] ++ List.replicate (Try.f59.ntmps - ([.bptr (BR.root 0) [.int .i64 v78, .int .i64 v79, .bslc (BR.root 1) (.f32 v80)], .int .i64 v81, .int .i64 v82] : List DV).length) .undef) []).bind (retD TT Try.f59.results.toList 0) = (spec_l02At_T v79 v80 v81 v82).bind fun y => .leaf (spec_l02At_enc v78 v79 v80 v81 v82 y) := by kernel_rfl
theorem spec_l02At_fn (v78 : Int) (v79 : Int) (v80 : List Nat) (v81 : Int) (v82 : Int) (F : Fr) (hm : F.ids.length = 0) (h0 : St F [] F.H0) (hA : DVs.Ok F [] [.bptr (BR.root 0) [.int .i64 v78, .int .i64 v79, .bslc (BR.root 1) (.f32 v80)], .int .i64 v81, .int .i64 v82]) {y : Nat} (hy : spec_l02At_g v79 v80 v81 v82 = some y) : ∃ H', FnOk Try.prog 59 (DVs.av F [.bptr (BR.root 0) [.int .i64 v78, .int .i64 v79, .bslc (BR.root 1) (.f32 v80)], .int .i64 v81, .int .i64 v82]) F.H0 ((spec_l02At_enc v78 v79 v80 v81 v82 y).1.av F) H' ∧ St F (spec_l02At_enc v78 v79 v80 v81 v82 y).2 H' ∧ (spec_l02At_enc v78 v79 v80 v81 v82 y).1.Ok F (spec_l02At_enc v78 v79 v80 v81 v82 y).2 :=
  fn_fin tok spec_l02At_hO mixed Try.func59 Try.call59 (by kernel_rfl) (LoopsOk_eq (l := []) (by kernel_rfl) trivial) (spec_l02At_den v78 v79 v80 v81 v82) hy hm h0 hA
noncomputable def spec_l02At_F : DFn := fun args L =>
  match args with
  | [a1, .int .i64 v81, .int .i64 v82] =>
    optT (cellsOf L 3 a1) fun cs0 =>
    (match cs0 with
    | [.int .i64 v78, .int .i64 v79, a2] =>
    optT (rowF32 L a2) fun v80 =>
    .call (spec_l02At_g v79 v80 v81 v82) fun y => .leaf (.flt .f32 y, L)
    | _ => .fail)
  | _ => .fail
theorem spec_l02At_Fok : COk Try.prog 59 spec_l02At_F true := by
  intro F L H args r L' hs ha hr
  unfold spec_l02At_F at hr
  split at hr
  · rename_i a1 v81 v82
    obtain ⟨cs0, hcp0, hr⟩ := optT_run hr
    split at hr
    · rename_i v78 v79 a2
      obtain ⟨v80, hv80, hr⟩ := optT_run hr
      simp only [Tree.run] at hr
      obtain ⟨y, hy, hr⟩ := Option.bind_eq_some_iff.1 hr
      simp only [Tree.run, Option.some.injEq, Prod.mk.injEq] at hr
      obtain ⟨rfl, rfl⟩ := hr
      exact call_ok0 hs (fun k => (([a1.av F, a2.av F] : List AV)[k]?).getD .top) [a1, .int .i64 v81, .int .i64 v82] [.bptr (BR.root 0) [.int .i64 v78, .int .i64 v79, .bslc (BR.root 1) (.f32 v80)], .int .i64 v81, .int .i64 v82] (fun F' h0 hi hρ => ⟨by simp [DVs.av, DV.av, BR.av, hρ], spec_l02At_fn v78 v79 v80 v81 v82 F' (by rw [hi]; rfl) (st_nil hi) ⟨bptr_ok hi (by rw [h0]; simpa [DVs.av, DV.av, BR.av, hρ] using (cellsOf_ok hs (DVs.okAt ha 0 rfl) hcp0).1) ⟨trivial, trivial, bslc_ok hi (by rw [h0, hρ]; exact rowF32_ok hs (DVs.okAt (cellsOf_ok hs (DVs.okAt ha 0 rfl) hcp0).2 2 rfl) hv80), trivial⟩, trivial, trivial, trivial⟩ hy⟩) rfl
    · cases hr
  · cases hr
/-! spec.l02Blocks -/
noncomputable def spec_l02Blocks_l4_T (v61 : Int) (v62 : List Nat) (v64 : Int) (v65 : List Nat) (v66 : Int) (v321 : Int) (v322 : Nat) (v323 : Int) (v326 : List Nat) (s : Nat × Int) : Tree ((Nat × Int) ⊕ (Nat)) :=
  (.br (decide (s.2 < IntKind.i64.wrap (v323 + v66))) (
   (.br (decide (s.2 < v61)) (
    (.grd (!decide (v64 = 0)) <|
    (.call (spec_l02At_g v61 v62 (IntKind.i64.wrap (Int.tdiv v321 v64)) s.2) fun v327 =>
    (.grd (!decide (v64 = 0)) <|
    (.call (spec_l02At_g v64 v65 s.2 (Int.tmod v321 v64)) fun v328 =>
    .leaf (.inl (fadd .f32 s.1 (fmul .f32 v327 v328), IntKind.i64.wrap (s.2 + (1 : Int))))))))
   ) (
    .leaf (.inr s.1)
   ))
  ) (
   .leaf (.inr s.1)
  ))

noncomputable def spec_l02Blocks_l4_g (v61 : Int) (v62 : List Nat) (v64 : Int) (v65 : List Nat) (v66 : Int) (v321 : Int) (v322 : Nat) (v323 : Int) (v326 : List Nat) (s0 : Nat × Int) : Option (Nat) := whileM (fun s => (spec_l02Blocks_l4_T v61 v62 v64 v65 v66 v321 v322 v323 v326 s).run) s0
def spec_l02Blocks_l4_E (v60 : Int) (v61 : Int) (v62 : List Nat) (v63 : Int) (v64 : Int) (v65 : List Nat) (v66 : Int) (v321 : Int) (v322 : Nat) (v323 : Int) (v326 : List Nat) (s : Nat × Int) : Sd := ([.bptr (BR.root 0) [.int .i64 v60, .int .i64 v61, .bslc (BR.root 1) (.f32 v62)], .bptr (BR.root 2) [.int .i64 v63, .int .i64 v64, .bslc (BR.root 3) (.f32 v65)], .int .i64 v66, .top, .top, .top, .ptr 0 (0 : Nat) 0 (3 : Nat), .ptr 1 (0 : Nat) 0 (3 : Nat), .int .i64 v321, .flt .f32 v322, .int .i64 v323, .flt .f32 s.1, .int .i64 s.2, .top, .top, .top, .top, .top, .top, .top, .top, .top, .top, .top, .top, .top, .top, .top, .top, .top, .top, .top, .top, .top, .top, .top, .top, .top, .top, .top, .top, .top, .top, .top, .top, .top, .top, .top, .top, .top, .top, .top, .top, .top, .top, .top, .top, .top, .top, .top, .top, .top, .top, .top, .top, .top, .top, .top, .top, .top, .top, .top, .top, .top, .top, .top, .top, .top, .top, .top, .top, .top, .top, .top, .top, .top, .top, .top, .top, .top, .top], [.gen [.int .i64 (0 : Int), .int .i64 (0 : Int), .nilslc] false 0, .gen [.int .i64 ((spec_l02Blank_v v60 v64).1), .int .i64 ((spec_l02Blank_v v60 v64).2), .own 2 0 ((v326).length)] false 0, .row (.f32 v326) 0])
def spec_l02Blocks_l4_X (v60 : Int) (v61 : Int) (v62 : List Nat) (v63 : Int) (v64 : Int) (v65 : List Nat) (v66 : Int) (v321 : Int) (v322 : Nat) (v323 : Int) (v326 : List Nat) (x : Nat) : Out := (.normal, [.bptr (BR.root 0) [.int .i64 v60, .int .i64 v61, .bslc (BR.root 1) (.f32 v62)], .bptr (BR.root 2) [.int .i64 v63, .int .i64 v64, .bslc (BR.root 3) (.f32 v65)], .int .i64 v66, .top, .top, .top, .ptr 0 (0 : Nat) 0 (3 : Nat), .ptr 1 (0 : Nat) 0 (3 : Nat), .int .i64 v321, .flt .f32 v322, .int .i64 v323, .flt .f32 x, .top, .top, .top, .top, .top, .top, .top, .top, .top, .top, .top, .top, .top, .top, .top, .top, .top, .top, .top, .top, .top, .top, .top, .top, .top, .top, .top, .top, .top, .top, .top, .top, .top, .top, .top, .top, .top, .top, .top, .top, .top, .top, .top, .top, .top, .top, .top, .top, .top, .top, .top, .top, .top, .top, .top, .top, .top, .top, .top, .top, .top, .top, .top, .top, .top, .top, .top, .top, .top, .top, .top, .top, .top, .top, .top, .top, .top, .top, .top], [.gen [.int .i64 (0 : Int), .int .i64 (0 : Int), .nilslc] false 0, .gen [.int .i64 ((spec_l02Blank_v v60 v64).1), .int .i64 ((spec_l02Blank_v v60 v64).2), .own 2 0 ((v326).length)] false 0, .row (.f32 v326) 0])
def spec_l02Blocks_l4_kill : List Nat := [0, 0, 0, 1, 1, 1, 0, 0, 0, 0, 0, 0, 0, 1, 1, 1, 1, 1, 1, 1, 1, 1, 1, 1, 1, 1, 1, 1, 1, 1, 1, 1, 1, 1, 1, 1, 1, 1, 1, 1, 1, 1, 1, 1, 1, 1, 1, 1, 1, 1, 1, 1, 1, 1, 1, 1, 1, 1, 1, 1, 1, 1, 1, 1, 1, 1, 1, 1, 1, 1, 1, 1, 1, 1, 1, 1, 1, 1, 1, 1, 1, 1, 1, 1, 1, 1, 1, 1, 1, 1, 1]
def spec_l02Blocks_l4_nx : Exit → List Nat
  | .exit 0 => [1, 1, 1, 1, 1, 1, 0, 0, 1, 1, 1, 1, 1, 1, 1, 1, 1, 1, 1, 1, 1, 1, 1, 1, 1, 1, 1, 1, 1, 1, 1, 1, 1, 1, 1, 1, 1, 1, 1, 1, 1, 1, 1, 1, 1, 1, 1, 1, 1, 1, 1, 1, 1, 1, 1, 1, 1, 1, 1, 1, 1, 1, 1, 1, 1, 1, 1, 1, 1, 1, 1, 1, 1, 1, 1, 1, 1, 1, 1, 1, 1, 1, 1, 1, 1, 1, 1, 1, 1, 1, 1]
  | .exit 1 => [0, 0, 0, 1, 1, 1, 0, 0, 0, 1, 1, 1, 1, 1, 1, 1, 1, 1, 1, 1, 1, 1, 1, 1, 1, 1, 1, 1, 1, 1, 1, 1, 1, 1, 1, 1, 1, 1, 1, 1, 1, 1, 1, 1, 1, 1, 1, 1, 1, 1, 1, 1, 1, 1, 1, 1, 1, 1, 1, 1, 1, 1, 1, 1, 1, 1, 1, 1, 1, 1, 1, 1, 1, 1, 1, 1, 1, 1, 1, 1, 1, 1, 1, 1, 1, 1, 1, 1, 1, 1, 1]
  | .exit 2 => [0, 0, 0, 1, 1, 1, 0, 0, 0, 0, 1, 1, 1, 1, 1, 1, 1, 1, 1, 1, 1, 1, 1, 1, 1, 1, 1, 1, 1, 1, 1, 1, 1, 1, 1, 1, 1, 1, 1, 1, 1, 1, 1, 1, 1, 1, 1, 1, 1, 1, 1, 1, 1, 1, 1, 1, 1, 1, 1, 1, 1, 1, 1, 1, 1, 1, 1, 1, 1, 1, 1, 1, 1, 1, 1, 1, 1, 1, 1, 1, 1, 1, 1, 1, 1, 1, 1, 1, 1, 1, 1]
  | .exit 3 => [0, 0, 0, 1, 1, 1, 0, 0, 0, 0, 0, 1, 1, 1, 1, 1, 1, 1, 1, 1, 1, 1, 1, 1, 1, 1, 1, 1, 1, 1, 1, 1, 1, 1, 1, 1, 1, 1, 1, 1, 1, 1, 1, 1, 1, 1, 1, 1, 1, 1, 1, 1, 1, 1, 1, 1, 1, 1, 1, 1, 1, 1, 1, 1, 1, 1, 1, 1, 1, 1, 1, 1, 1, 1, 1, 1, 1, 1, 1, 1, 1, 1, 1, 1, 1, 1, 1, 1, 1, 1, 1]
  | .exit 4 => [0, 0, 0, 1, 1, 1, 0, 0, 0, 0, 0, 0, 1, 1, 1, 1, 1, 1, 1, 1, 1, 1, 1, 1, 1, 1, 1, 1, 1, 1, 1, 1, 1, 1, 1, 1, 1, 1, 1, 1, 1, 1, 1, 1, 1, 1, 1, 1, 1, 1, 1, 1, 1, 1, 1, 1, 1, 1, 1, 1, 1, 1, 1, 1, 1, 1, 1, 1, 1, 1, 1, 1, 1, 1, 1, 1, 1, 1, 1, 1, 1, 1, 1, 1, 1, 1, 1, 1, 1, 1, 1]
  | .ret => [1, 1, 1, 1, 1, 1, 0, 1, 1, 1, 1, 1, 1, 1, 1, 1, 1, 1, 1, 1, 1, 1, 1, 1, 1, 1, 1, 1, 1, 1, 1, 1, 1, 1, 1, 1, 1, 1, 1, 1, 1, 1, 1, 1, 1, 1, 1, 1, 1, 1, 1, 1, 1, 1, 1, 1, 1, 1, 1, 1, 1, 1, 1, 1, 1, 1, 1, 1, 1, 1, 1, 1, 1, 1, 1, 1, 1, 1, 1, 1, 1, 1, 1, 1, 1, 1, 1, 1, 1, 1, 1]
  | _ => []
noncomputable def spec_l02Blocks_l2_T (v60 : Int) (v61 : Int) (v62 : List Nat) (v63 : Int) (v64 : Int) (v65 : List Nat) (v66 : Int) (v301 : Int) (v304 : List Nat) (s : Nat × Int) : Tree ((Nat × Int) ⊕ (Nat)) :=
  (.br (decide (s.2 < v61)) (
   (.need (some (spec_l02Blocks_l4_E v60 v61 v62 v63 v64 v65 v66 v301 s.1 s.2 v304 ((0 : Nat), s.2)) = some (spec_l02Blocks_l4_E v60 v61 v62 v63 v64 v65 v66 v301 s.1 s.2 v304 ((0 : Nat), s.2))) <|
   (.call (spec_l02Blocks_l4_g v61 v62 v64 v65 v66 v301 s.1 s.2 v304 ((0 : Nat), s.2)) fun v329 =>
   .leaf (.inl (fadd .f32 s.1 v329, IntKind.i64.wrap (s.2 + v66)))))
  ) (
   .leaf (.inr s.1)
  ))

noncomputable def spec_l02Blocks_l2_g (v60 : Int) (v61 : Int) (v62 : List Nat) (v63 : Int) (v64 : Int) (v65 : List Nat) (v66 : Int) (v301 : Int) (v304 : List Nat) (s0 : Nat × Int) : Option (Nat) := whileM (fun s => (spec_l02Blocks_l2_T v60 v61 v62 v63 v64 v65 v66 v301 v304 s).run) s0
def spec_l02Blocks_l2_E (v60 : Int) (v61 : Int) (v62 : List Nat) (v63 : Int) (v64 : Int) (v65 : List Nat) (v66 : Int) (v301 : Int) (v304 : List Nat) (s : Nat × Int) : Sd := ([.bptr (BR.root 0) [.int .i64 v60, .int .i64 v61, .bslc (BR.root 1) (.f32 v62)], .bptr (BR.root 2) [.int .i64 v63, .int .i64 v64, .bslc (BR.root 3) (.f32 v65)], .int .i64 v66, .top, .top, .top, .ptr 0 (0 : Nat) 0 (3 : Nat), .ptr 1 (0 : Nat) 0 (3 : Nat), .int .i64 v301, .flt .f32 s.1, .int .i64 s.2, .top, .top, .top, .top, .top, .top, .top, .top, .top, .top, .top, .top, .top, .top, .top, .top, .top, .top, .top, .top, .top, .top, .top, .top, .top, .top, .top, .top, .top, .top, .top, .top, .top, .top, .top, .top, .top, .top, .top, .top, .top, .top, .top, .top, .top, .top, .top, .top, .top, .top, .top, .top, .top, .top, .top, .top, .top, .top, .top, .top, .top, .top, .top, .top, .top, .top, .top, .top, .top, .top, .top, .top, .top, .top, .top, .top, .top, .top, .top, .top], [.gen [.int .i64 (0 : Int), .int .i64 (0 : Int), .nilslc] false 0, .gen [.int .i64 ((spec_l02Blank_v v60 v64).1), .int .i64 ((spec_l02Blank_v v60 v64).2), .own 2 0 ((v304).length)] false 0, .row (.f32 v304) 0])
def spec_l02Blocks_l2_X (v60 : Int) (v61 : Int) (v62 : List Nat) (v63 : Int) (v64 : Int) (v65 : List Nat) (v66 : Int) (v301 : Int) (v304 : List Nat) (x : Nat) : Out := (.normal, [.bptr (BR.root 0) [.int .i64 v60, .int .i64 v61, .bslc (BR.root 1) (.f32 v62)], .bptr (BR.root 2) [.int .i64 v63, .int .i64 v64, .bslc (BR.root 3) (.f32 v65)], .int .i64 v66, .top, .top, .top, .ptr 0 (0 : Nat) 0 (3 : Nat), .ptr 1 (0 : Nat) 0 (3 : Nat), .int .i64 v301, .flt .f32 x, .top, .top, .top, .top, .top, .top, .top, .top, .top, .top, .top, .top, .top, .top, .top, .top, .top, .top, .top, .top, .top, .top, .top, .top, .top, .top, .top, .top, .top, .top, .top, .top, .top, .top, .top, .top, .top, .top, .top, .top, .top, .top, .top, .top, .top, .top, .top, .top, .top, .top, .top, .top, .top, .top, .top, .top, .top, .top, .top, .top, .top, .top, .top, .top, .top, .top, .top, .top, .top, .top, .top, .top, .top, .top, .top, .top, .top, .top, .top, .top, .top], [.gen [.int .i64 (0 : Int), .int .i64 (0 : Int), .nilslc] false 0, .gen [.int .i64 ((spec_l02Blank_v v60 v64).1), .int .i64 ((spec_l02Blank_v v60 v64).2), .own 2 0 ((v304).length)] false 0, .row (.f32 v304) 0])
def spec_l02Blocks_l2_kill : List Nat := [0, 0, 0, 1, 1, 1, 0, 0, 0, 0, 0, 1, 1, 1, 1, 1, 1, 1, 1, 1, 1, 1, 1, 1, 1, 1, 1, 1, 1, 1, 1, 1, 1, 1, 1, 1, 1, 1, 1, 1, 1, 1, 1, 1, 1, 1, 1, 1, 1, 1, 1, 1, 1, 1, 1, 1, 1, 1, 1, 1, 1, 1, 1, 1, 1, 1, 1, 1, 1, 1, 1, 1, 1, 1, 1, 1, 1, 1, 1, 1, 1, 1, 1, 1, 1, 1, 1, 1, 1, 1, 1]
def spec_l02Blocks_l2_nx : Exit → List Nat
  | .exit 0 => [1, 1, 1, 1, 1, 1, 0, 0, 1, 1, 1, 1, 1, 1, 1, 1, 1, 1, 1, 1, 1, 1, 1, 1, 1, 1, 1, 1, 1, 1, 1, 1, 1, 1, 1, 1, 1, 1, 1, 1, 1, 1, 1, 1, 1, 1, 1, 1, 1, 1, 1, 1, 1, 1, 1, 1, 1, 1, 1, 1, 1, 1, 1, 1, 1, 1, 1, 1, 1, 1, 1, 1, 1, 1, 1, 1, 1, 1, 1, 1, 1, 1, 1, 1, 1, 1, 1, 1, 1, 1, 1]
  | .exit 1 => [0, 0, 0, 1, 1, 1, 0, 0, 0, 1, 1, 1, 1, 1, 1, 1, 1, 1, 1, 1, 1, 1, 1, 1, 1, 1, 1, 1, 1, 1, 1, 1, 1, 1, 1, 1, 1, 1, 1, 1, 1, 1, 1, 1, 1, 1, 1, 1, 1, 1, 1, 1, 1, 1, 1, 1, 1, 1, 1, 1, 1, 1, 1, 1, 1, 1, 1, 1, 1, 1, 1, 1, 1, 1, 1, 1, 1, 1, 1, 1, 1, 1, 1, 1, 1, 1, 1, 1, 1, 1, 1]
  | .exit 2 => [0, 0, 0, 1, 1, 1, 0, 0, 0, 0, 1, 1, 1, 1, 1, 1, 1, 1, 1, 1, 1, 1, 1, 1, 1, 1, 1, 1, 1, 1, 1, 1, 1, 1, 1, 1, 1, 1, 1, 1, 1, 1, 1, 1, 1, 1, 1, 1, 1, 1, 1, 1, 1, 1, 1, 1, 1, 1, 1, 1, 1, 1, 1, 1, 1, 1, 1, 1, 1, 1, 1, 1, 1, 1, 1, 1, 1, 1, 1, 1, 1, 1, 1, 1, 1, 1, 1, 1, 1, 1, 1]
  | .ret => [1, 1, 1, 1, 1, 1, 0, 1, 1, 1, 1, 1, 1, 1, 1, 1, 1, 1, 1, 1, 1, 1, 1, 1, 1, 1, 1, 1, 1, 1, 1, 1, 1, 1, 1, 1, 1, 1, 1, 1, 1, 1, 1, 1, 1, 1, 1, 1, 1, 1, 1, 1, 1, 1, 1, 1, 1, 1, 1, 1, 1, 1, 1, 1, 1, 1, 1, 1, 1, 1, 1, 1, 1, 1, 1, 1, 1, 1, 1, 1, 1, 1, 1, 1, 1, 1, 1, 1, 1, 1, 1]
  | _ => []
noncomputable def spec_l02Blocks_l0_T (v60 : Int) (v61 : Int) (v62 : List Nat) (v63 : Int) (v64 : Int) (v65 : List Nat) (v66 : Int) (s : Int × (List Nat)) : Tree ((Int × (List Nat)) ⊕ ((List Nat))) :=
  (.br (decide (s.1 < IntKind.i64.wrap (v60 * v64))) (
   (.need (some (spec_l02Blocks_l2_E v60 v61 v62 v63 v64 v65 v66 s.1 s.2 ((0 : Nat), (0 : Int))) = some (spec_l02Blocks_l2_E v60 v61 v62 v63 v64 v65 v66 s.1 s.2 ((0 : Nat), (0 : Int)))) <|
   (.call (spec_l02Blocks_l2_g v60 v61 v62 v63 v64 v65 v66 s.1 s.2 ((0 : Nat), (0 : Int))) fun v330 =>
   (.grd (fits (s.2 ++ ([v330] : List Nat)).length) <|
   .leaf (.inl (IntKind.i64.wrap (s.1 + (1 : Int)), s.2 ++ ([v330] : List Nat))))))
  ) (
   .leaf (.inr s.2)
  ))

noncomputable def spec_l02Blocks_l0_g (v60 : Int) (v61 : Int) (v62 : List Nat) (v63 : Int) (v64 : Int) (v65 : List Nat) (v66 : Int) (s0 : Int × (List Nat)) : Option ((List Nat)) := whileM (fun s => (spec_l02Blocks_l0_T v60 v61 v62 v63 v64 v65 v66 s).run) s0
def spec_l02Blocks_l0_E (v60 : Int) (v61 : Int) (v62 : List Nat) (v63 : Int) (v64 : Int) (v65 : List Nat) (v66 : Int) (s : Int × (List Nat)) : Sd := ([.bptr (BR.root 0) [.int .i64 v60, .int .i64 v61, .bslc (BR.root 1) (.f32 v62)], .bptr (BR.root 2) [.int .i64 v63, .int .i64 v64, .bslc (BR.root 3) (.f32 v65)], .int .i64 v66, .top, .top, .top, .ptr 0 (0 : Nat) 0 (3 : Nat), .ptr 1 (0 : Nat) 0 (3 : Nat), .int .i64 s.1, .top, .top, .top, .top, .top, .top, .top, .top, .top, .top, .top, .top, .top, .top, .top, .top, .top, .top, .top, .top, .top, .top, .top, .top, .top, .top, .top, .top, .top, .top, .top, .top, .top, .top, .top, .top, .top, .top, .top, .top, .top, .top, .top, .top, .top, .top, .top, .top, .top, .top, .top, .top, .top, .top, .top, .top, .top, .top, .top, .top, .top, .top, .top, .top, .top, .top, .top, .top, .top, .top, .top, .top, .top, .top, .top, .top, .top, .top, .top, .top, .top, .top], [.gen [.int .i64 (0 : Int), .int .i64 (0 : Int), .nilslc] false 0, .gen [.int .i64 ((spec_l02Blank_v v60 v64).1), .int .i64 ((spec_l02Blank_v v60 v64).2), .own 2 0 ((s.2).length)] false 0, .row (.f32 s.2) 0])
def spec_l02Blocks_l0_X (v60 : Int) (v61 : Int) (v62 : List Nat) (v63 : Int) (v64 : Int) (v65 : List Nat) (v66 : Int) (x : (List Nat)) : Out := (.normal, [.top, .top, .top, .top, .top, .top, .ptr 0 (0 : Nat) 0 (3 : Nat), .ptr 1 (0 : Nat) 0 (3 : Nat), .top, .top, .top, .top, .top, .top, .top, .top, .top, .top, .top, .top, .top, .top, .top, .top, .top, .top, .top, .top, .top, .top, .top, .top, .top, .top, .top, .top, .top, .top, .top, .top, .top, .top, .top, .top, .top, .top, .top, .top, .top, .top, .top, .top, .top, .top, .top, .top, .top, .top, .top, .top, .top, .top, .top, .top, .top, .top, .top, .top, .top, .top, .top, .top, .top, .top, .top, .top, .top, .top, .top, .top, .top, .top, .top, .top, .top, .top, .top, .top, .top, .top, .top], [.gen [.int .i64 (0 : Int), .int .i64 (0 : Int), .nilslc] false 0, .gen [.int .i64 ((spec_l02Blank_v v60 v64).1), .int .i64 ((spec_l02Blank_v v60 v64).2), .own 2 0 ((x).length)] false 0, .row (.f32 x) 0])
def spec_l02Blocks_l0_kill : List Nat := [0, 0, 0, 1, 1, 1, 0, 0, 0, 1, 1, 1, 1, 1, 1, 1, 1, 1, 1, 1, 1, 1, 1, 1, 1, 1, 1, 1, 1, 1, 1, 1, 1, 1, 1, 1, 1, 1, 1, 1, 1, 1, 1, 1, 1, 1, 1, 1, 1, 1, 1, 1, 1, 1, 1, 1, 1, 1, 1, 1, 1, 1, 1, 1, 1, 1, 1, 1, 1, 1, 1, 1, 1, 1, 1, 1, 1, 1, 1, 1, 1, 1, 1, 1, 1, 1, 1, 1, 1, 1, 1]
def spec_l02Blocks_l0_nx : Exit → List Nat
  | .exit 0 => [1, 1, 1, 1, 1, 1, 0, 0, 1, 1, 1, 1, 1, 1, 1, 1, 1, 1, 1, 1, 1, 1, 1, 1, 1, 1, 1, 1, 1, 1, 1, 1, 1, 1, 1, 1, 1, 1, 1, 1, 1, 1, 1, 1, 1, 1, 1, 1, 1, 1, 1, 1, 1, 1, 1, 1, 1, 1, 1, 1, 1, 1, 1, 1, 1, 1, 1, 1, 1, 1, 1, 1, 1, 1, 1, 1, 1, 1, 1, 1, 1, 1, 1, 1, 1, 1, 1, 1, 1, 1, 1]
  | .ret => [1, 1, 1, 1, 1, 1, 0, 1, 1, 1, 1, 1, 1, 1, 1, 1, 1, 1, 1, 1, 1, 1, 1, 1, 1, 1, 1, 1, 1, 1, 1, 1, 1, 1, 1, 1, 1, 1, 1, 1, 1, 1, 1, 1, 1, 1, 1, 1, 1, 1, 1, 1, 1, 1, 1, 1, 1, 1, 1, 1, 1, 1, 1, 1, 1, 1, 1, 1, 1, 1, 1, 1, 1, 1, 1, 1, 1, 1, 1, 1, 1, 1, 1, 1, 1, 1, 1, 1, 1, 1, 1]
  | _ => []
noncomputable def spec_l02Blocks_LO (v60 : Int) (v61 : Int) (v62 : List Nat) (v63 : Int) (v64 : Int) (v65 : List Nat) (v66 : Int) : LOr := fun id e L =>
  match id with
  | 4 => .need (normA 0 spec_l02Blocks_l4_kill e L = some (spec_l02Blocks_l4_E v60 v61 v62 v63 v64 v65 v66 (gI (vAt e 8)) (gF (vAt e 9)) (gI (vAt e 10)) (gRF L (cAt L (vAt e 7) 2)) ((gF (vAt e 11)), (gI (vAt e 12))))) (.call (spec_l02Blocks_l4_g v61 v62 v64 v65 v66 (gI (vAt e 8)) (gF (vAt e 9)) (gI (vAt e 10)) (gRF L (cAt L (vAt e 7) 2)) ((gF (vAt e 11)), (gI (vAt e 12)))) fun x => .leaf (spec_l02Blocks_l4_X v60 v61 v62 v63 v64 v65 v66 (gI (vAt e 8)) (gF (vAt e 9)) (gI (vAt e 10)) (gRF L (cAt L (vAt e 7) 2)) x))
  | 2 => .need (normA 0 spec_l02Blocks_l2_kill e L = some (spec_l02Blocks_l2_E v60 v61 v62 v63 v64 v65 v66 (gI (vAt e 8)) (gRF L (cAt L (vAt e 7) 2)) ((gF (vAt e 9)), (gI (vAt e 10))))) (.call (spec_l02Blocks_l2_g v60 v61 v62 v63 v64 v65 v66 (gI (vAt e 8)) (gRF L (cAt L (vAt e 7) 2)) ((gF (vAt e 9)), (gI (vAt e 10)))) fun x => .leaf (spec_l02Blocks_l2_X v60 v61 v62 v63 v64 v65 v66 (gI (vAt e 8)) (gRF L (cAt L (vAt e 7) 2)) x))
  | 0 => .need (normA 0 spec_l02Blocks_l0_kill e L = some (spec_l02Blocks_l0_E v60 v61 v62 v63 v64 v65 v66 ((gI (vAt e 8)), (gRF L (cAt L (vAt e 7) 2))))) (.call (spec_l02Blocks_l0_g v60 v61 v62 v63 v64 v65 v66 ((gI (vAt e 8)), (gRF L (cAt L (vAt e 7) 2)))) fun x => .leaf (spec_l02Blocks_l0_X v60 v61 v62 v63 v64 v65 v66 x))
  | _ => .fail
noncomputable def spec_l02Blocks_tab : List (FuncId × DFn × Bool) := [(139, spec_l02Blank_F, true), (59, spec_l02At_F, true)]
theorem spec_l02Blocks_hO : OrcOk Try.prog (tabD spec_l02Blocks_tab) (tabM spec_l02Blocks_tab) := tabD_cons spec_l02Blank_Fok (tabD_cons spec_l02At_Fok (tabD_nil _))
theorem spec_l02Blocks_l4_be (v60 : Int) (v61 : Int) (v62 : List Nat) (v63 : Int) (v64 : Int) (v65 : List Nat) (v66 : Int) (v321 : Int) (v322 : Nat) (v323 : Int) (v326 : List Nat) (s : Nat × Int) : bodyT TT (tabD spec_l02Blocks_tab) (tabM spec_l02Blocks_tab) (spec_l02Blocks_LO v60 v61 v62 v63 v64 v65 v66) 0 spec_l02Blocks_l4_kill spec_l02Blocks_l4_nx (bodyOf Try.f75 4) 4 (spec_l02Blocks_l4_E v60 v61 v62 v63 v64 v65 v66 v321 v322 v323 v326 s) = (spec_l02Blocks_l4_T v61 v62 v64 v65 v66 v321 v322 v323 v326 s).bind fun y => .leaf (outS (spec_l02Blocks_l4_E v60 v61 v62 v63 v64 v65 v66 v321 v322 v323 v326) (spec_l02Blocks_l4_X v60 v61 v62 v63 v64 v65 v66 v321 v322 v323 v326) y) := by kernel_rfl
theorem spec_l02Blocks_l4_ok (v60 : Int) (v61 : Int) (v62 : List Nat) (v63 : Int) (v64 : Int) (v65 : List Nat) (v66 : Int) : LSound Try.prog 0 (spec_l02Blocks_LO v60 v61 v62 v63 v64 v65 v66) 4 (bodyOf Try.f75 4) := by
  intro e L out h
  exact lo_ok (E := spec_l02Blocks_l4_E v60 v61 v62 v63 v64 v65 v66 (gI (vAt e 8)) (gF (vAt e 9)) (gI (vAt e 10)) (gRF L (cAt L (vAt e 7) 2))) (gT := spec_l02Blocks_l4_T v61 v62 v64 v65 v66 (gI (vAt e 8)) (gF (vAt e 9)) (gI (vAt e 10)) (gRF L (cAt L (vAt e 7) 2))) (X := spec_l02Blocks_l4_X v60 v61 v62 v63 v64 v65 v66 (gI (vAt e 8)) (gF (vAt e 9)) (gI (vAt e 10)) (gRF L (cAt L (vAt e 7) 2))) (s0 := ((gF (vAt e 11)), (gI (vAt e 12)))) tok spec_l02Blocks_hO mixed (LoopsOk_eq (l := []) (by kernel_rfl) trivial) (spec_l02Blocks_l4_be v60 v61 v62 v63 v64 v65 v66 (gI (vAt e 8)) (gF (vAt e 9)) (gI (vAt e 10)) (gRF L (cAt L (vAt e 7) 2))) rfl (by intro x; rfl) h
theorem spec_l02Blocks_l2_be (v60 : Int) (v61 : Int) (v62 : List Nat) (v63 : Int) (v64 : Int) (v65 : List Nat) (v66 : Int) (v301 : Int) (v304 : List Nat) (s : Nat × Int) : bodyT TT (tabD spec_l02Blocks_tab) (tabM spec_l02Blocks_tab) (spec_l02Blocks_LO v60 v61 v62 v63 v64 v65 v66) 0 spec_l02Blocks_l2_kill spec_l02Blocks_l2_nx (bodyOf Try.f75 2) 2 (spec_l02Blocks_l2_E v60 v61 v62 v63 v64 v65 v66 v301 v304 s) = (spec_l02Blocks_l2_T v60 v61 v62 v63 v64 v65 v66 v301 v304 s).bind fun y => .leaf (outS (spec_l02Blocks_l2_E v60 v61 v62 v63 v64 v65 v66 v301 v304) (spec_l02Blocks_l2_X v60 v61 v62 v63 v64 v65 v66 v301 v304) y) := by kernel_rfl
theorem spec_l02Blocks_l2_ok (v60 : Int) (v61 : Int) (v62 : List Nat) (v63 : Int) (v64 : Int) (v65 : List Nat) (v66 : Int) : LSound Try.prog 0 (spec_l02Blocks_LO v60 v61 v62 v63 v64 v65 v66) 2 (bodyOf Try.f75 2) := by
  intro e L out h
  exact lo_ok (E := spec_l02Blocks_l2_E v60 v61 v62 v63 v64 v65 v66 (gI (vAt e 8)) (gRF L (cAt L (vAt e 7) 2))) (gT := spec_l02Blocks_l2_T v60 v61 v62 v63 v64 v65 v66 (gI (vAt e 8)) (gRF L (cAt L (vAt e 7) 2))) (X := spec_l02Blocks_l2_X v60 v61 v62 v63 v64 v65 v66 (gI (vAt e 8)) (gRF L (cAt L (vAt e 7) 2))) (s0 := ((gF (vAt e 9)), (gI (vAt e 10)))) tok spec_l02Blocks_hO mixed (LoopsOk_eq (l := [(4, bodyOf Try.f75 4)]) (by kernel_rfl) ⟨spec_l02Blocks_l4_ok v60 v61 v62 v63 v64 v65 v66, trivial⟩) (spec_l02Blocks_l2_be v60 v61 v62 v63 v64 v65 v66 (gI (vAt e 8)) (gRF L (cAt L (vAt e 7) 2))) rfl (by intro x; rfl) h
theorem spec_l02Blocks_l0_be (v60 : Int) (v61 : Int) (v62 : List Nat) (v63 : Int) (v64 : Int) (v65 : List Nat) (v66 : Int) (s : Int × (List Nat)) : bodyT TT (tabD spec_l02Blocks_tab) (tabM spec_l02Blocks_tab) (spec_l02Blocks_LO v60 v61 v62 v63 v64 v65 v66) 0 spec_l02Blocks_l0_kill spec_l02Blocks_l0_nx (bodyOf Try.f75 0) 0 (spec_l02Blocks_l0_E v60 v61 v62 v63 v64 v65 v66 s) = (spec_l02Blocks_l0_T v60 v61 v62 v63 v64 v65 v66 s).bind fun y => .leaf (outS (spec_l02Blocks_l0_E v60 v61 v62 v63 v64 v65 v66) (spec_l02Blocks_l0_X v60 v61 v62 v63 v64 v65 v66) y) := by kernel_rfl
theorem spec_l02Blocks_l0_ok (v60 : Int) (v61 : Int) (v62 : List Nat) (v63 : Int) (v64 : Int) (v65 : List Nat) (v66 : Int) : LSound Try.prog 0 (spec_l02Blocks_LO v60 v61 v62 v63 v64 v65 v66) 0 (bodyOf Try.f75 0) := by
  intro e L out h
  exact lo_ok (E := spec_l02Blocks_l0_E v60 v61 v62 v63 v64 v65 v66) (gT := spec_l02Blocks_l0_T v60 v61 v62 v63 v64 v65 v66) (X := spec_l02Blocks_l0_X v60 v61 v62 v63 v64 v65 v66) (s0 := ((gI (vAt e 8)), (gRF L (cAt L (vAt e 7) 2)))) tok spec_l02Blocks_hO mixed (LoopsOk_eq (l := [(2, bodyOf Try.f75 2)]) (by kernel_rfl) ⟨spec_l02Blocks_l2_ok v60 v61 v62 v63 v64 v65 v66, trivial⟩) (spec_l02Blocks_l0_be v60 v61 v62 v63 v64 v65 v66) rfl (by intro x; rfl) h
noncomputable def spec_l02Blocks_T (v60 : Int) (v61 : Int) (v62 : List Nat) (v63 : Int) (v64 : Int) (v65 : List Nat) (v66 : Int) : Tree (Int × Int × (List Nat)) :=
  (.need (some (spec_l02Blocks_l0_E v60 v61 v62 v63 v64 v65 v66 ((0 : Int), ([] : List Nat))) = some (spec_l02Blocks_l0_E v60 v61 v62 v63 v64 v65 v66 ((0 : Int), ([] : List Nat)))) <|
  (.call (spec_l02Blocks_l0_g v60 v61 v62 v63 v64 v65 v66 ((0 : Int), ([] : List Nat))) fun v331 =>
  .leaf ((spec_l02Blank_v v60 v64).1, (spec_l02Blank_v v60 v64).2, v331)))

noncomputable def spec_l02Blocks_g (v60 : Int) (v61 : Int) (v62 : List Nat) (v63 : Int) (v64 : Int) (v65 : List Nat) (v66 : Int) : Option (Int × Int × (List Nat)) := (spec_l02Blocks_T v60 v61 v62 v63 v64 v65 v66).run
def spec_l02Blocks_enc (v60 : Int) (v61 : Int) (v62 : List Nat) (v63 : Int) (v64 : Int) (v65 : List Nat) (v66 : Int) (y : Int × Int × (List Nat)) : Rs := (.agg [.int .i64 y.1, .int .i64 y.2.1, .own 0 0 ((y.2.2).length)], [.row (.f32 y.2.2) 0])
theorem spec_l02Blocks_den (v60 : Int) (v61 : Int) (v62 : List Nat) (v63 : Int) (v64 : Int) (v65 : List Nat) (v66 : Int) : (den TT (tabD spec_l02Blocks_tab) (tabM spec_l02Blocks_tab) (spec_l02Blocks_LO v60 v61 v62 v63 v64 v65 v66) (codeOf Try.f75) ([.bptr (BR.root 0) [.int .i64 v60, .int .i64 v61, .bslc (BR.root 1) (.f32 v62)], .bptr (BR.root 2) [.int .i64 v63, .int .i64 v64, .bslc (BR.root 3) (.f32 v65)], .int .i64 v66] ++ List.replicate (Try.f75.ntmps - ([.bptr (BR.root 0) [.int .i64 v60, .int .i64 v61, .bslc (BR.root 1) (.f32 v62)], .bptr (BR.root 2) [.int .i64 v63, .int .i64 v64, .bslc (BR.root 3) (.f32 v65)], .int .i64 v66] : List DV).length) .undef) []).bind (retD TT Try.f75.results.toList 0) = (spec_l02Blocks_T v60 v61 v62 v63 v64 v65 v66).bind fun y => .leaf (spec_l02Blocks_enc v60 v61 v62 v63 v64 v65 v66 y) := by kernel_rfl
theorem spec_l02Blocks_fn (v60 : Int) (v61 : Int) (v62 : List Nat) (v63 : Int) (v64 : Int) (v65 : List Nat) (v66 : Int) (F : Fr) (hm : F.ids.length = 0) (h0 : St F [] F.H0) (hA : DVs.Ok F [] [.bptr (BR.root 0) [.int .i64 v60, .int .i64 v61, .bslc (BR.root 1) (.f32 v62)], .bptr (BR.root 2) [.int .i64 v63, .int .i64 v64, .bslc (BR.root 3) (.f32 v65)], .int .i64 v66]) {y : Int × Int × (List Nat)} (hy : spec_l02Blocks_g v60 v61 v62 v63 v64 v65 v66 = some y) : ∃ H', FnOk Try.prog 75 (DVs.av F [.bptr (BR.root 0) [.int .i64 v60, .int .i64 v61, .bslc (BR.root 1) (.f32 v62)], .bptr (BR.root 2) [.int .i64 v63, .int .i64 v64, .bslc (BR.root 3) (.f32 v65)], .int .i64 v66]) F.H0 ((spec_l02Blocks_enc v60 v61 v62 v63 v64 v65 v66 y).1.av F) H' ∧ St F (spec_l02Blocks_enc v60 v61 v62 v63 v64 v65 v66 y).2 H' ∧ (spec_l02Blocks_enc v60 v61 v62 v63 v64 v65 v66 y).1.Ok F (spec_l02Blocks_enc v60 v61 v62 v63 v64 v65 v66 y).2 :=
  fn_fin tok spec_l02Blocks_hO mixed Try.func75 Try.call75 (by kernel_rfl) (LoopsOk_eq (l := [(0, bodyOf Try.f75 0)]) (by kernel_rfl) ⟨spec_l02Blocks_l0_ok v60 v61 v62 v63 v64 v65 v66, trivial⟩) (spec_l02Blocks_den v60 v61 v62 v63 v64 v65 v66) hy hm h0 hA
noncomputable def spec_l02Blocks_F : DFn := fun args L =>
  match args with
  | [a1, a3, .int .i64 v66] =>
    optT (cellsOf L 3 a1) fun cs0 =>
    (match cs0 with
    | [.int .i64 v60, .int .i64 v61, a2] =>
    optT (rowF32 L a2) fun v62 =>
    optT (cellsOf L 3 a3) fun cs2 =>
    (match cs2 with
    | [.int .i64 v63, .int .i64 v64, a4] =>
    optT (rowF32 L a4) fun v65 =>
    .call (spec_l02Blocks_g v60 v61 v62 v63 v64 v65 v66) fun y => .leaf (.agg [.int .i64 y.1, .int .i64 y.2.1, .own (L.length + 0) 0 ((y.2.2).length)], L ++ [.row (.f32 y.2.2) 0])
    | _ => .fail)
    | _ => .fail)
  | _ => .fail
theorem spec_l02Blocks_Fok : COk Try.prog 75 spec_l02Blocks_F true := by
  intro F L H args r L' hs ha hr
  unfold spec_l02Blocks_F at hr
  split at hr
  · rename_i a1 a3 v66
    obtain ⟨cs0, hcp0, hr⟩ := optT_run hr
    split at hr
    · rename_i v60 v61 a2
      obtain ⟨v62, hv62, hr⟩ := optT_run hr
      obtain ⟨cs2, hcp2, hr⟩ := optT_run hr
      split at hr
      · rename_i v63 v64 a4
        obtain ⟨v65, hv65, hr⟩ := optT_run hr
        simp only [Tree.run] at hr
        obtain ⟨y, hy, hr⟩ := Option.bind_eq_some_iff.1 hr
        simp only [Tree.run, Option.some.injEq, Prod.mk.injEq] at hr
        obtain ⟨rfl, rfl⟩ := hr
        exact call_ok1 hs (fun k => (([a1.av F, a2.av F, a3.av F, a4.av F] : List AV)[k]?).getD .top) [a1, a3, .int .i64 v66] [.bptr (BR.root 0) [.int .i64 v60, .int .i64 v61, .bslc (BR.root 1) (.f32 v62)], .bptr (BR.root 2) [.int .i64 v63, .int .i64 v64, .bslc (BR.root 3) (.f32 v65)], .int .i64 v66] (fun F' h0 hi hρ => ⟨by simp [DVs.av, DV.av, BR.av, hρ], spec_l02Blocks_fn v60 v61 v62 v63 v64 v65 v66 F' (by rw [hi]; rfl) (st_nil hi) ⟨bptr_ok hi (by rw [h0]; simpa [DVs.av, DV.av, BR.av, hρ] using (cellsOf_ok hs (DVs.okAt ha 0 rfl) hcp0).1) ⟨trivial, trivial, bslc_ok hi (by rw [h0, hρ]; exact rowF32_ok hs (DVs.okAt (cellsOf_ok hs (DVs.okAt ha 0 rfl) hcp0).2 2 rfl) hv62), trivial⟩, bptr_ok hi (by rw [h0]; simpa [DVs.av, DV.av, BR.av, hρ] using (cellsOf_ok hs (DVs.okAt ha 1 rfl) hcp2).1) ⟨trivial, trivial, bslc_ok hi (by rw [h0, hρ]; exact rowF32_ok hs (DVs.okAt (cellsOf_ok hs (DVs.okAt ha 1 rfl) hcp2).2 2 rfl) hv65), trivial⟩, trivial, trivial⟩ hy⟩) rfl rfl
      · cases hr
    · cases hr
  · cases hr
/-! spec.l02Give -/
noncomputable def spec_l02Give_LO (v333 : Int) (v334 : Int) (v335 : List Nat) : LOr := fun id e L =>
  match id with
  | _ => .fail
noncomputable def spec_l02Give_tab : List (FuncId × DFn × Bool) := [(61, spec_l02Is_F, true)]
theorem spec_l02Give_hO : OrcOk Try.prog (tabD spec_l02Give_tab) (tabM spec_l02Give_tab) := tabD_cons spec_l02Is_Fok (tabD_nil _)
noncomputable def spec_l02Give_T (v333 : Int) (v334 : Int) (v335 : List Nat) : Tree ((Unit) ⊕ (Int × Int)) :=
  (.call (spec_l02Is_g v333 v334 v335) fun v336 =>
  (.br (!v336) (
   .leaf (.inl ())
  ) (
   .leaf (.inr (v333, v334))
  )))

noncomputable def spec_l02Give_g (v333 : Int) (v334 : Int) (v335 : List Nat) : Option ((Unit) ⊕ (Int × Int)) := (spec_l02Give_T v333 v334 v335).run
def spec_l02Give_enc (v333 : Int) (v334 : Int) (v335 : List Nat) (y : (Unit) ⊕ (Int × Int)) : Rs := (match y with | .inl y => (.tup [.agg [.int .i64 (0 : Int), .int .i64 (0 : Int), .nilslc], .lit false], []) | .inr y => (.tup [.agg [.int .i64 y.1, .int .i64 y.2, .bslc (BR.root 0) (.f32 v335)], .lit true], []))
theorem spec_l02Give_den (v333 : Int) (v334 : Int) (v335 : List Nat) : (den TT (tabD spec_l02Give_tab) (tabM spec_l02Give_tab) (spec_l02Give_LO v333 v334 v335) (codeOf Try.f71) ([.agg [.int .i64 v333, .int .i64 v334, .bslc (BR.root 0) (.f32 v335)]] ++ List.replicate (Try.f71.ntmps - ([.agg [.int .i64 v333, .int .i64 v334, .bslc (BR.root 0) (.f32 v335)]] : List DV).length) .undef) []).bind (retD TT Try.f71.results.toList 0) = (spec_l02Give_T v333 v334 v335).bind fun y => .leaf (spec_l02Give_enc v333 v334 v335 y) := by kernel_rfl
theorem spec_l02Give_fn (v333 : Int) (v334 : Int) (v335 : List Nat) (F : Fr) (hm : F.ids.length = 0) (h0 : St F [] F.H0) (hA : DVs.Ok F [] [.agg [.int .i64 v333, .int .i64 v334, .bslc (BR.root 0) (.f32 v335)]]) {y : (Unit) ⊕ (Int × Int)} (hy : spec_l02Give_g v333 v334 v335 = some y) : ∃ H', FnOk Try.prog 71 (DVs.av F [.agg [.int .i64 v333, .int .i64 v334, .bslc (BR.root 0) (.f32 v335)]]) F.H0 ((spec_l02Give_enc v333 v334 v335 y).1.av F) H' ∧ St F (spec_l02Give_enc v333 v334 v335 y).2 H' ∧ (spec_l02Give_enc v333 v334 v335 y).1.Ok F (spec_l02Give_enc v333 v334 v335 y).2 :=
  fn_fin tok spec_l02Give_hO mixed Try.func71 Try.call71 (by kernel_rfl) (LoopsOk_eq (l := []) (by kernel_rfl) trivial) (spec_l02Give_den v333 v334 v335) hy hm h0 hA
noncomputable def spec_l02Give_F : DFn := fun args L =>
  match args with
  | [.agg [.int .i64 v333, .int .i64 v334, a1]] =>
    optT (rowF32 L a1) fun v335 =>
    .call (spec_l02Give_g v333 v334 v335) fun y => .sum y (fun y0 => .leaf (.tup [.agg [.int .i64 (0 : Int), .int .i64 (0 : Int), .nilslc], .lit false], L)) (fun z0 => .leaf (.tup [.agg [.int .i64 z0.1, .int .i64 z0.2, a1], .lit true], L))
  | _ => .fail
theorem spec_l02Give_Fok : COk Try.prog 71 spec_l02Give_F true := by
  intro F L H args r L' hs ha hr
  unfold spec_l02Give_F at hr
  split at hr
  · rename_i v333 v334 a1
    obtain ⟨v335, hv335, hr⟩ := optT_run hr
    simp only [Tree.run] at hr
    obtain ⟨y, hy, hr⟩ := Option.bind_eq_some_iff.1 hr
    cases y with
    | inl y =>
      simp only [Tree.run, Option.some.injEq, Prod.mk.injEq] at hr
      obtain ⟨rfl, rfl⟩ := hr
      exact call_ok0 hs (fun k => (([a1.av F] : List AV)[k]?).getD .top) [.agg [.int .i64 v333, .int .i64 v334, a1]] [.agg [.int .i64 v333, .int .i64 v334, .bslc (BR.root 0) (.f32 v335)]] (fun F' h0 hi hρ => ⟨by simp [DVs.av, DV.av, BR.av, hρ], spec_l02Give_fn v333 v334 v335 F' (by rw [hi]; rfl) (st_nil hi) ⟨⟨trivial, trivial, bslc_ok hi (by rw [h0, hρ]; exact rowF32_ok hs (DVs.okAt (DVs.okAt ha 0 rfl) 2 rfl) hv335), trivial⟩, trivial⟩ hy⟩) rfl
    | inr y =>
      simp only [Tree.run, Option.some.injEq, Prod.mk.injEq] at hr
      obtain ⟨rfl, rfl⟩ := hr
      exact call_al0 hs (fun k => (([a1.av F] : List AV)[k]?).getD .top) [.agg [.int .i64 v333, .int .i64 v334, a1]] [.agg [.int .i64 v333, .int .i64 v334, .bslc (BR.root 0) (.f32 v335)]] (fun F' h0 hi hρ => ⟨by simp [DVs.av, DV.av, BR.av, hρ], spec_l02Give_fn v333 v334 v335 F' (by rw [hi]; rfl) (st_nil hi) ⟨⟨trivial, trivial, bslc_ok hi (by rw [h0, hρ]; exact rowF32_ok hs (DVs.okAt (DVs.okAt ha 0 rfl) 2 rfl) hv335), trivial⟩, trivial⟩ hy⟩) (fun F' h0 hi hρ => by simp [spec_l02Give_enc, DVs.av, DV.av, BR.av, hρ]) ⟨⟨trivial, trivial, (DVs.okAt (DVs.okAt ha 0 rfl) 2 rfl), trivial⟩, trivial, trivial⟩
  · cases hr
/-! spec.MulBlocks -/
noncomputable def spec_MulBlocks_LO (v27 : Int) (v28 : Int) (v29 : List Nat) (v30 : Int) (v31 : Int) (v32 : List Nat) (v33 : Int) : LOr := fun id e L =>
  match id with
  | _ => .fail
noncomputable def spec_MulBlocks_tab : List (FuncId × DFn × Bool) := [(69, spec_l02Fit_F, true), (70, spec_l00In_F, true), (75, spec_l02Blocks_F, true), (71, spec_l02Give_F, true)]
theorem spec_MulBlocks_hO : OrcOk Try.prog (tabD spec_MulBlocks_tab) (tabM spec_MulBlocks_tab) := tabD_cons spec_l02Fit_Fok (tabD_cons spec_l00In_Fok (tabD_cons spec_l02Blocks_Fok (tabD_cons spec_l02Give_Fok (tabD_nil _))))
noncomputable def spec_MulBlocks_T (v27 : Int) (v28 : Int) (v29 : List Nat) (v30 : Int) (v31 : Int) (v32 : List Nat) (v33 : Int) : Tree ((Unit) ⊕ (Int × Int × (List Nat))) :=
  (.call (spec_l02Fit_g v27 v28 v29 v30 v31 v32) fun v59 =>
  (.br (!v59) (
   .leaf (.inl ())
  ) (
   (.br (!(spec_l00In_v v33 (1 : Int) (12 : Int))) (
    .leaf (.inl ())
   ) (
    (.call (spec_l02Blocks_g v27 v28 v29 v30 v31 v32 v33) fun v332 =>
    (.call (spec_l02Give_g v332.1 v332.2.1 v332.2.2) fun v337 =>
    (.sum v337 (fun v338 =>
     .leaf (.inl ())
    ) (fun v339 =>
     .leaf (.inr (v339.1, v339.2, v332.2.2))
    ))))
   ))
  )))

noncomputable def spec_MulBlocks_g (v27 : Int) (v28 : Int) (v29 : List Nat) (v30 : Int) (v31 : Int) (v32 : List Nat) (v33 : Int) : Option ((Unit) ⊕ (Int × Int × (List Nat))) := (spec_MulBlocks_T v27 v28 v29 v30 v31 v32 v33).run
def spec_MulBlocks_enc (v27 : Int) (v28 : Int) (v29 : List Nat) (v30 : Int) (v31 : Int) (v32 : List Nat) (v33 : Int) (y : (Unit) ⊕ (Int × Int × (List Nat))) : Rs := (match y with | .inl y => (.tup [.agg [.int .i64 (0 : Int), .int .i64 (0 : Int), .nilslc], .lit false], []) | .inr y => (.tup [.agg [.int .i64 y.1, .int .i64 y.2.1, .own 0 0 ((y.2.2).length)], .lit true], [.row (.f32 y.2.2) 0]))
theorem spec_MulBlocks_den (v27 : Int) (v28 : Int) (v29 : List Nat) (v30 : Int) (v31 : Int) (v32 : List Nat) (v33 : Int) : (den TT (tabD spec_MulBlocks_tab) (tabM spec_MulBlocks_tab) (spec_MulBlocks_LO v27 v28 v29 v30 v31 v32 v33) (codeOf Try.f27) ([.agg [.int .i64 v27, .int .i64 v28, .bslc (BR.root 0) (.f32 v29)], .agg [.int .i64 v30, .int .i64 v31, .bslc (BR.root 1) (.f32 v32)], .int .i64 v33] ++ List.replicate (Try.f27.ntmps - ([.agg [.int .i64 v27, .int .i64 v28, .bslc (BR.root 0) (.f32 v29)], .agg [.int .i64 v30, .int .i64 v31, .bslc (BR.root 1) (.f32 v32)], .int .i64 v33] : List DV).length) .undef) []).bind (retD TT Try.f27.results.toList 0) = (spec_MulBlocks_T v27 v28 v29 v30 v31 v32 v33).bind fun y => .leaf (spec_MulBlocks_enc v27 v28 v29 v30 v31 v32 v33 y) := by kernel_rfl
theorem spec_MulBlocks_fn (v27 : Int) (v28 : Int) (v29 : List Nat) (v30 : Int) (v31 : Int) (v32 : List Nat) (v33 : Int) (F : Fr) (hm : F.ids.length = 0) (h0 : St F [] F.H0) (hA : DVs.Ok F [] [.agg [.int .i64 v27, .int .i64 v28, .bslc (BR.root 0) (.f32 v29)], .agg [.int .i64 v30, .int .i64 v31, .bslc (BR.root 1) (.f32 v32)], .int .i64 v33]) {y : (Unit) ⊕ (Int × Int × (List Nat))} (hy : spec_MulBlocks_g v27 v28 v29 v30 v31 v32 v33 = some y) : ∃ H', FnOk Try.prog 27 (DVs.av F [.agg [.int .i64 v27, .int .i64 v28, .bslc (BR.root 0) (.f32 v29)], .agg [.int .i64 v30, .int .i64 v31, .bslc (BR.root 1) (.f32 v32)], .int .i64 v33]) F.H0 ((spec_MulBlocks_enc v27 v28 v29 v30 v31 v32 v33 y).1.av F) H' ∧ St F (spec_MulBlocks_enc v27 v28 v29 v30 v31 v32 v33 y).2 H' ∧ (spec_MulBlocks_enc v27 v28 v29 v30 v31 v32 v33 y).1.Ok F (spec_MulBlocks_enc v27 v28 v29 v30 v31 v32 v33 y).2 :=
  fn_fin tok spec_MulBlocks_hO mixed Try.func27 Try.call27 (by kernel_rfl) (LoopsOk_eq (l := []) (by kernel_rfl) trivial) (spec_MulBlocks_den v27 v28 v29 v30 v31 v32 v33) hy hm h0 hA
noncomputable def spec_MulBlocks_F : DFn := fun args L =>
  match args with
  | [.agg [.int .i64 v27, .int .i64 v28, a1], .agg [.int .i64 v30, .int .i64 v31, a2], .int .i64 v33] =>
    optT (rowF32 L a1) fun v29 =>
    optT (rowF32 L a2) fun v32 =>
    .call (spec_MulBlocks_g v27 v28 v29 v30 v31 v32 v33) fun y => .sum y (fun y0 => .leaf (.tup [.agg [.int .i64 (0 : Int), .int .i64 (0 : Int), .nilslc], .lit false], L)) (fun z0 => .leaf (.tup [.agg [.int .i64 z0.1, .int .i64 z0.2.1, .own (L.length + 0) 0 ((z0.2.2).length)], .lit true], L ++ [.row (.f32 z0.2.2) 0]))
  | _ => .fail
theorem spec_MulBlocks_Fok : COk Try.prog 27 spec_MulBlocks_F true := by
  intro F L H args r L' hs ha hr
  unfold spec_MulBlocks_F at hr
  split at hr
  · rename_i v27 v28 a1 v30 v31 a2 v33
    obtain ⟨v29, hv29, hr⟩ := optT_run hr
    obtain ⟨v32, hv32, hr⟩ := optT_run hr
    simp only [Tree.run] at hr
    obtain ⟨y, hy, hr⟩ := Option.bind_eq_some_iff.1 hr
    cases y with
    | inl y =>
      simp only [Tree.run, Option.some.injEq, Prod.mk.injEq] at hr
      obtain ⟨rfl, rfl⟩ := hr
      exact call_ok0 hs (fun k => (([a1.av F, a2.av F] : List AV)[k]?).getD .top) [.agg [.int .i64 v27, .int .i64 v28, a1], .agg [.int .i64 v30, .int .i64 v31, a2], .int .i64 v33] [.agg [.int .i64 v27, .int .i64 v28, .bslc (BR.root 0) (.f32 v29)], .agg [.int .i64 v30, .int .i64 v31, .bslc (BR.root 1) (.f32 v32)], .int .i64 v33] (fun F' h0 hi hρ => ⟨by simp [DVs.av, DV.av, BR.av, hρ], spec_MulBlocks_fn v27 v28 v29 v30 v31 v32 v33 F' (by rw [hi]; rfl) (st_nil hi) ⟨⟨trivial, trivial, bslc_ok hi (by rw [h0, hρ]; exact rowF32_ok hs (DVs.okAt (DVs.okAt ha 0 rfl) 2 rfl) hv29), trivial⟩, ⟨trivial, trivial, bslc_ok hi (by rw [h0, hρ]; exact rowF32_ok hs (DVs.okAt (DVs.okAt ha 1 rfl) 2 rfl) hv32), trivial⟩, trivial, trivial⟩ hy⟩) rfl
    | inr y =>
      simp only [Tree.run, Option.some.injEq, Prod.mk.injEq] at hr
      obtain ⟨rfl, rfl⟩ := hr
      exact call_ok1 hs (fun k => (([a1.av F, a2.av F] : List AV)[k]?).getD .top) [.agg [.int .i64 v27, .int .i64 v28, a1], .agg [.int .i64 v30, .int .i64 v31, a2], .int .i64 v33] [.agg [.int .i64 v27, .int .i64 v28, .bslc (BR.root 0) (.f32 v29)], .agg [.int .i64 v30, .int .i64 v31, .bslc (BR.root 1) (.f32 v32)], .int .i64 v33] (fun F' h0 hi hρ => ⟨by simp [DVs.av, DV.av, BR.av, hρ], spec_MulBlocks_fn v27 v28 v29 v30 v31 v32 v33 F' (by rw [hi]; rfl) (st_nil hi) ⟨⟨trivial, trivial, bslc_ok hi (by rw [h0, hρ]; exact rowF32_ok hs (DVs.okAt (DVs.okAt ha 0 rfl) 2 rfl) hv29), trivial⟩, ⟨trivial, trivial, bslc_ok hi (by rw [h0, hρ]; exact rowF32_ok hs (DVs.okAt (DVs.okAt ha 1 rfl) 2 rfl) hv32), trivial⟩, trivial, trivial⟩ hy⟩) rfl rfl
  · cases hr
/-! impl.inRange -/
noncomputable def impl_inRange_LO (v362 : Int) (v363 : Int) (v364 : Int) : LOr := fun id e L =>
  match id with
  | _ => .fail
noncomputable def impl_inRange_tab : List (FuncId × DFn × Bool) := []
theorem impl_inRange_hO : OrcOk Try.prog (tabD impl_inRange_tab) (tabM impl_inRange_tab) := tabD_nil _
noncomputable def impl_inRange_T (v362 : Int) (v363 : Int) (v364 : Int) : Tree (Bool) :=
  (.br (decide (v363 ≤ v362)) (
   .leaf (decide (v362 ≤ v364))
  ) (
   .leaf false
  ))

noncomputable def impl_inRange_g (v362 : Int) (v363 : Int) (v364 : Int) : Option (Bool) := (impl_inRange_T v362 v363 v364).run
def impl_inRange_enc (v362 : Int) (v363 : Int) (v364 : Int) (y : Bool) : Rs := (.bool y, [])
theorem impl_inRange_den (v362 : Int) (v363 : Int) (v364 : Int) : (den TT (tabD impl_inRange_tab) (tabM impl_inRange_tab) (impl_inRange_LO v362 v363 v364) (codeOf Try.f73) ([.int .i64 v362, .int .i64 v363, .int .i64 v364] ++ List.replicate (Try.f73.ntmps - ([.int .i64 v362, .int .i64 v363, .int .i64 v364] : List DV).length) .undef) []).bind (retD TT Try.f73.results.toList 0) = (impl_inRange_T v362 v363 v364).bind fun y => .leaf (impl_inRange_enc v362 v363 v364 y) := by kernel_rfl
theorem impl_inRange_fn (v362 : Int) (v363 : Int) (v364 : Int) (F : Fr) (hm : F.ids.length = 0) (h0 : St F [] F.H0) (hA : DVs.Ok F [] [.int .i64 v362, .int .i64 v363, .int .i64 v364]) {y : Bool} (hy : impl_inRange_g v362 v363 v364 = some y) : ∃ H', FnOk Try.prog 73 (DVs.av F [.int .i64 v362, .int .i64 v363, .int .i64 v364]) F.H0 ((impl_inRange_enc v362 v363 v364 y).1.av F) H' ∧ St F (impl_inRange_enc v362 v363 v364 y).2 H' ∧ (impl_inRange_enc v362 v363 v364 y).1.Ok F (impl_inRange_enc v362 v363 v364 y).2 :=
  fn_fin tok impl_inRange_hO mixed Try.func73 Try.call73 (by kernel_rfl) (LoopsOk_eq (l := []) (by kernel_rfl) trivial) (impl_inRange_den v362 v363 v364) hy hm h0 hA
def impl_inRange_v (v362 : Int) (v363 : Int) (v364 : Int) : Bool :=
  if (decide (v363 ≤ v362)) = true then (
   decide (v362 ≤ v364)
  ) else (
   false
  )
theorem impl_inRange_tot (v362 : Int) (v363 : Int) (v364 : Int) : impl_inRange_g v362 v363 v364 = some (impl_inRange_v v362 v363 v364) := by
  unfold impl_inRange_g impl_inRange_T impl_inRange_v
  simp only [Tree.run]
  repeat' (first | rfl | split)
noncomputable def impl_inRange_F : DFn := fun args L =>
  match args with
  | [.int .i64 v362, .int .i64 v363, .int .i64 v364] =>
    .leaf (.bool (impl_inRange_v v362 v363 v364), L)
  | _ => .fail
theorem impl_inRange_Fok : COk Try.prog 73 impl_inRange_F true := by
  intro F L H args r L' hs ha hr
  unfold impl_inRange_F at hr
  split at hr
  · rename_i v362 v363 v364
    have hy := impl_inRange_tot v362 v363 v364
    generalize impl_inRange_v v362 v363 v364 = y at hy hr
    simp only [Tree.run, Option.some.injEq, Prod.mk.injEq] at hr
    obtain ⟨rfl, rfl⟩ := hr
    exact call_ok0 hs (fun k => (([] : List AV)[k]?).getD .top) [.int .i64 v362, .int .i64 v363, .int .i64 v364] [.int .i64 v362, .int .i64 v363, .int .i64 v364] (fun F' h0 hi hρ => ⟨by simp [DVs.av, DV.av, BR.av, hρ], impl_inRange_fn v362 v363 v364 F' (by rw [hi]; rfl) (st_nil hi) ⟨trivial, trivial, trivial, trivial⟩ hy⟩) rfl
  · cases hr
/-! impl.isSide -/
noncomputable def impl_isSide_LO (v361 : Int) : LOr := fun id e L =>
  match id with
  | _ => .fail
noncomputable def impl_isSide_tab : List (FuncId × DFn × Bool) := [(73, impl_inRange_F, true)]
theorem impl_isSide_hO : OrcOk Try.prog (tabD impl_isSide_tab) (tabM impl_isSide_tab) := tabD_cons impl_inRange_Fok (tabD_nil _)
noncomputable def impl_isSide_T (v361 : Int) : Tree (Bool) :=
  .leaf (impl_inRange_v v361 (1 : Int) (12 : Int))

noncomputable def impl_isSide_g (v361 : Int) : Option (Bool) := (impl_isSide_T v361).run
def impl_isSide_enc (v361 : Int) (y : Bool) : Rs := (.bool y, [])
theorem impl_isSide_den (v361 : Int) : (den TT (tabD impl_isSide_tab) (tabM impl_isSide_tab) (impl_isSide_LO v361) (codeOf Try.f77) ([.int .i64 v361] ++ List.replicate (Try.f77.ntmps - ([.int .i64 v361] : List DV).length) .undef) []).bind (retD TT Try.f77.results.toList 0) = (impl_isSide_T v361).bind fun y => .leaf (impl_isSide_enc v361 y) := by kernel_rfl
theorem impl_isSide_fn (v361 : Int) (F : Fr) (hm : F.ids.length = 0) (h0 : St F [] F.H0) (hA : DVs.Ok F [] [.int .i64 v361]) {y : Bool} (hy : impl_isSide_g v361 = some y) : ∃ H', FnOk Try.prog 77 (DVs.av F [.int .i64 v361]) F.H0 ((impl_isSide_enc v361 y).1.av F) H' ∧ St F (impl_isSide_enc v361 y).2 H' ∧ (impl_isSide_enc v361 y).1.Ok F (impl_isSide_enc v361 y).2 :=
  fn_fin tok impl_isSide_hO mixed Try.func77 Try.call77 (by kernel_rfl) (LoopsOk_eq (l := []) (by kernel_rfl) trivial) (impl_isSide_den v361) hy hm h0 hA
def impl_isSide_v (v361 : Int) : Bool :=
  (impl_inRange_v v361 (1 : Int) (12 : Int))
theorem impl_isSide_tot (v361 : Int) : impl_isSide_g v361 = some (impl_isSide_v v361) := by
  unfold impl_isSide_g impl_isSide_T impl_isSide_v
  simp only [Tree.run]
  repeat' (first | rfl | split)
noncomputable def impl_isSide_F : DFn := fun args L =>
  match args with
  | [.int .i64 v361] =>
    .leaf (.bool (impl_isSide_v v361), L)
  | _ => .fail
theorem impl_isSide_Fok : COk Try.prog 77 impl_isSide_F true := by
  intro F L H args r L' hs ha hr
  unfold impl_isSide_F at hr
  split at hr
  · rename_i v361
    have hy := impl_isSide_tot v361
    generalize impl_isSide_v v361 = y at hy hr
    simp only [Tree.run, Option.some.injEq, Prod.mk.injEq] at hr
    obtain ⟨rfl, rfl⟩ := hr
    exact call_ok0 hs (fun k => (([] : List AV)[k]?).getD .top) [.int .i64 v361] [.int .i64 v361] (fun F' h0 hi hρ => ⟨by simp [DVs.av, DV.av, BR.av, hρ], impl_isSide_fn v361 F' (by rw [hi]; rfl) (st_nil hi) ⟨trivial, trivial⟩ hy⟩) rfl
  · cases hr
/-! impl.length[float32] -/
noncomputable def impl_lengthF_LO (v365 : List Nat) : LOr := fun id e L =>
  match id with
  | _ => .fail
noncomputable def impl_lengthF_tab : List (FuncId × DFn × Bool) := []
theorem impl_lengthF_hO : OrcOk Try.prog (tabD impl_lengthF_tab) (tabM impl_lengthF_tab) := tabD_nil _
noncomputable def impl_lengthF_T (v365 : List Nat) : Tree (Int) :=
  .leaf ((v365.length : Nat) : Int)

noncomputable def impl_lengthF_g (v365 : List Nat) : Option (Int) := (impl_lengthF_T v365).run
def impl_lengthF_enc (v365 : List Nat) (y : Int) : Rs := (.int .i64 y, [])
theorem impl_lengthF_den (v365 : List Nat) : (den TT (tabD impl_lengthF_tab) (tabM impl_lengthF_tab) (impl_lengthF_LO v365) (codeOf Try.f112) ([.bslc (BR.root 0) (.f32 v365)] ++ List.replicate (Try.f112.ntmps - ([.bslc (BR.root 0) (.f32 v365)] : List DV).length) .undef) []).bind (retD TT Try.f112.results.toList 0) = (impl_lengthF_T v365).bind fun y => .leaf (impl_lengthF_enc v365 y) := by kernel_rfl
theorem impl_lengthF_fn (v365 : List Nat) (F : Fr) (hm : F.ids.length = 0) (h0 : St F [] F.H0) (hA : DVs.Ok F [] [.bslc (BR.root 0) (.f32 v365)]) {y : Int} (hy : impl_lengthF_g v365 = some y) : ∃ H', FnOk Try.prog 112 (DVs.av F [.bslc (BR.root 0) (.f32 v365)]) F.H0 ((impl_lengthF_enc v365 y).1.av F) H' ∧ St F (impl_lengthF_enc v365 y).2 H' ∧ (impl_lengthF_enc v365 y).1.Ok F (impl_lengthF_enc v365 y).2 :=
  fn_fin tok impl_lengthF_hO mixed Try.func112 Try.call112 (by kernel_rfl) (LoopsOk_eq (l := []) (by kernel_rfl) trivial) (impl_lengthF_den v365) hy hm h0 hA
def impl_lengthF_v (v365 : List Nat) : Int :=
  ((v365.length : Nat) : Int)
theorem impl_lengthF_tot (v365 : List Nat) : impl_lengthF_g v365 = some (impl_lengthF_v v365) := by
  unfold impl_lengthF_g impl_lengthF_T impl_lengthF_v
  simp only [Tree.run]
  repeat' (first | rfl | split)
noncomputable def impl_lengthF_F : DFn := fun args L =>
  match args with
  | [a1] =>
    optT (rowF32 L a1) fun v365 =>
    .leaf (.int .i64 (impl_lengthF_v v365), L)
  | _ => .fail
theorem impl_lengthF_Fok : COk Try.prog 112 impl_lengthF_F true := by
  intro F L H args r L' hs ha hr
  unfold impl_lengthF_F at hr
  split at hr
  · rename_i a1
    obtain ⟨v365, hv365, hr⟩ := optT_run hr
    have hy := impl_lengthF_tot v365
    generalize impl_lengthF_v v365 = y at hy hr
    simp only [Tree.run, Option.some.injEq, Prod.mk.injEq] at hr
    obtain ⟨rfl, rfl⟩ := hr
    exact call_ok0 hs (fun k => (([a1.av F] : List AV)[k]?).getD .top) [a1] [.bslc (BR.root 0) (.f32 v365)] (fun F' h0 hi hρ => ⟨by simp [DVs.av, DV.av, BR.av, hρ], impl_lengthF_fn v365 F' (by rw [hi]; rfl) (st_nil hi) ⟨bslc_ok hi (by rw [h0, hρ]; exact rowF32_ok hs (DVs.okAt ha 0 rfl) hv365), trivial⟩ hy⟩) rfl
  · cases hr
/-! math.IsNaN -/
noncomputable def math_IsNaN_LO (v373 : Nat) : LOr := fun id e L =>
  match id with
  | _ => .fail
noncomputable def math_IsNaN_tab : List (FuncId × DFn × Bool) := []
theorem math_IsNaN_hO : OrcOk Try.prog (tabD math_IsNaN_tab) (tabM math_IsNaN_tab) := tabD_nil _
noncomputable def math_IsNaN_T (v373 : Nat) : Tree (Bool) :=
  .leaf (!feq .f64 v373 v373)

noncomputable def math_IsNaN_g (v373 : Nat) : Option (Bool) := (math_IsNaN_T v373).run
def math_IsNaN_enc (v373 : Nat) (y : Bool) : Rs := (.bool y, [])
theorem math_IsNaN_den (v373 : Nat) : (den TT (tabD math_IsNaN_tab) (tabM math_IsNaN_tab) (math_IsNaN_LO v373) (codeOf Try.f172) ([.flt .f64 v373] ++ List.replicate (Try.f172.ntmps - ([.flt .f64 v373] : List DV).length) .undef) []).bind (retD TT Try.f172.results.toList 0) = (math_IsNaN_T v373).bind fun y => .leaf (math_IsNaN_enc v373 y) := by kernel_rfl
theorem math_IsNaN_fn (v373 : Nat) (F : Fr) (hm : F.ids.length = 0) (h0 : St F [] F.H0) (hA : DVs.Ok F [] [.flt .f64 v373]) {y : Bool} (hy : math_IsNaN_g v373 = some y) : ∃ H', FnOk Try.prog 172 (DVs.av F [.flt .f64 v373]) F.H0 ((math_IsNaN_enc v373 y).1.av F) H' ∧ St F (math_IsNaN_enc v373 y).2 H' ∧ (math_IsNaN_enc v373 y).1.Ok F (math_IsNaN_enc v373 y).2 :=
  fn_fin tok math_IsNaN_hO mixed Try.func172 Try.call172 (by kernel_rfl) (LoopsOk_eq (l := []) (by kernel_rfl) trivial) (math_IsNaN_den v373) hy hm h0 hA
def math_IsNaN_v (v373 : Nat) : Bool :=
  !feq .f64 v373 v373
theorem math_IsNaN_tot (v373 : Nat) : math_IsNaN_g v373 = some (math_IsNaN_v v373) := by
  unfold math_IsNaN_g math_IsNaN_T math_IsNaN_v
  simp only [Tree.run]
  repeat' (first | rfl | split)
noncomputable def math_IsNaN_F : DFn := fun args L =>
  match args with
  | [.flt .f64 v373] =>
    .leaf (.bool (math_IsNaN_v v373), L)
  | _ => .fail
theorem math_IsNaN_Fok : COk Try.prog 172 math_IsNaN_F true := by
  intro F L H args r L' hs ha hr
  unfold math_IsNaN_F at hr
  split at hr
  · rename_i v373
    have hy := math_IsNaN_tot v373
    generalize math_IsNaN_v v373 = y at hy hr
    simp only [Tree.run, Option.some.injEq, Prod.mk.injEq] at hr
    obtain ⟨rfl, rfl⟩ := hr
    exact call_ok0 hs (fun k => (([] : List AV)[k]?).getD .top) [.flt .f64 v373] [.flt .f64 v373] (fun F' h0 hi hρ => ⟨by simp [DVs.av, DV.av, BR.av, hρ], math_IsNaN_fn v373 F' (by rw [hi]; rfl) (st_nil hi) ⟨trivial, trivial⟩ hy⟩) rfl
  · cases hr
/-! math.IsInf -/
noncomputable def math_IsInf_LO (v374 : Nat) (v375 : Int) : LOr := fun id e L =>
  match id with
  | _ => .fail
noncomputable def math_IsInf_tab : List (FuncId × DFn × Bool) := [(97, Abs_F, true)]
theorem math_IsInf_hO : OrcOk Try.prog (tabD math_IsInf_tab) (tabM math_IsInf_tab) := tabD_cons Abs_Fok (tabD_nil _)
noncomputable def math_IsInf_T (v374 : Nat) (v375 : Int) : Tree (Bool) :=
  (.br (decide (v375 = (0 : Int))) (
   .leaf (fgrt .f64 (fabs v374) (9218868437227405311 : Nat))
  ) (
   (.br (decide (v375 < (0 : Int))) (
    .leaf (fgrt .f64 (fneg .f64 v374) (9218868437227405311 : Nat))
   ) (
    .leaf (fgrt .f64 v374 (9218868437227405311 : Nat))
   ))
  ))

noncomputable def math_IsInf_g (v374 : Nat) (v375 : Int) : Option (Bool) := (math_IsInf_T v374 v375).run
def math_IsInf_enc (v374 : Nat) (v375 : Int) (y : Bool) : Rs := (.bool y, [])
theorem math_IsInf_den (v374 : Nat) (v375 : Int) : (den TT (tabD math_IsInf_tab) (tabM math_IsInf_tab) (math_IsInf_LO v374 v375) (codeOf Try.f173) ([.flt .f64 v374, .int .i64 v375] ++ List.replicate (Try.f173.ntmps - ([.flt .f64 v374, .int .i64 v375] : List DV).length) .undef) []).bind (retD TT Try.f173.results.toList 0) = (math_IsInf_T v374 v375).bind fun y => .leaf (math_IsInf_enc v374 v375 y) := by kernel_rfl
theorem math_IsInf_fn (v374 : Nat) (v375 : Int) (F : Fr) (hm : F.ids.length = 0) (h0 : St F [] F.H0) (hA : DVs.Ok F [] [.flt .f64 v374, .int .i64 v375]) {y : Bool} (hy : math_IsInf_g v374 v375 = some y) : ∃ H', FnOk Try.prog 173 (DVs.av F [.flt .f64 v374, .int .i64 v375]) F.H0 ((math_IsInf_enc v374 v375 y).1.av F) H' ∧ St F (math_IsInf_enc v374 v375 y).2 H' ∧ (math_IsInf_enc v374 v375 y).1.Ok F (math_IsInf_enc v374 v375 y).2 :=
  fn_fin tok math_IsInf_hO mixed Try.func173 Try.call173 (by kernel_rfl) (LoopsOk_eq (l := []) (by kernel_rfl) trivial) (math_IsInf_den v374 v375) hy hm h0 hA
def math_IsInf_v (v374 : Nat) (v375 : Int) : Bool :=
  if (decide (v375 = (0 : Int))) = true then (
   fgrt .f64 (fabs v374) (9218868437227405311 : Nat)
  ) else (
   if (decide (v375 < (0 : Int))) = true then (
    fgrt .f64 (fneg .f64 v374) (9218868437227405311 : Nat)
   ) else (
    fgrt .f64 v374 (9218868437227405311 : Nat)
   )
  )
theorem math_IsInf_tot (v374 : Nat) (v375 : Int) : math_IsInf_g v374 v375 = some (math_IsInf_v v374 v375) := by
  unfold math_IsInf_g math_IsInf_T math_IsInf_v
  simp only [Tree.run]
  repeat' (first | rfl | split)
noncomputable def math_IsInf_F : DFn := fun args L =>
  match args with
  | [.flt .f64 v374, .int .i64 v375] =>
    .leaf (.bool (math_IsInf_v v374 v375), L)
  | _ => .fail
theorem math_IsInf_Fok : COk Try.prog 173 math_IsInf_F true := by
  intro F L H args r L' hs ha hr
  unfold math_IsInf_F at hr
  split at hr
  · rename_i v374 v375
    have hy := math_IsInf_tot v374 v375
    generalize math_IsInf_v v374 v375 = y at hy hr
    simp only [Tree.run, Option.some.injEq, Prod.mk.injEq] at hr
    obtain ⟨rfl, rfl⟩ := hr
    exact call_ok0 hs (fun k => (([] : List AV)[k]?).getD .top) [.flt .f64 v374, .int .i64 v375] [.flt .f64 v374, .int .i64 v375] (fun F' h0 hi hρ => ⟨by simp [DVs.av, DV.av, BR.av, hρ], math_IsInf_fn v374 v375 F' (by rw [hi]; rfl) (st_nil hi) ⟨trivial, trivial, trivial⟩ hy⟩) rfl
  · cases hr
/-! impl.isFinite64 -/
noncomputable def impl_isFinite64_LO (v372 : Nat) : LOr := fun id e L =>
  match id with
  | _ => .fail
noncomputable def impl_isFinite64_tab : List (FuncId × DFn × Bool) := [(172, math_IsNaN_F, true), (173, math_IsInf_F, true)]
theorem impl_isFinite64_hO : OrcOk Try.prog (tabD impl_isFinite64_tab) (tabM impl_isFinite64_tab) := tabD_cons math_IsNaN_Fok (tabD_cons math_IsInf_Fok (tabD_nil _))
noncomputable def impl_isFinite64_T (v372 : Nat) : Tree (Bool) :=
  (.br (!(math_IsNaN_v v372)) (
   .leaf (!(math_IsInf_v v372 (0 : Int)))
  ) (
   .leaf false
  ))

noncomputable def impl_isFinite64_g (v372 : Nat) : Option (Bool) := (impl_isFinite64_T v372).run
def impl_isFinite64_enc (v372 : Nat) (y : Bool) : Rs := (.bool y, [])
theorem impl_isFinite64_den (v372 : Nat) : (den TT (tabD impl_isFinite64_tab) (tabM impl_isFinite64_tab) (impl_isFinite64_LO v372) (codeOf Try.f149) ([.flt .f64 v372] ++ List.replicate (Try.f149.ntmps - ([.flt .f64 v372] : List DV).length) .undef) []).bind (retD TT Try.f149.results.toList 0) = (impl_isFinite64_T v372).bind fun y => .leaf (impl_isFinite64_enc v372 y) := by kernel_rfl
theorem impl_isFinite64_fn (v372 : Nat) (F : Fr) (hm : F.ids.length = 0) (h0 : St F [] F.H0) (hA : DVs.Ok F [] [.flt .f64 v372]) {y : Bool} (hy : impl_isFinite64_g v372 = some y) : ∃ H', FnOk Try.prog 149 (DVs.av F [.flt .f64 v372]) F.H0 ((impl_isFinite64_enc v372 y).1.av F) H' ∧ St F (impl_isFinite64_enc v372 y).2 H' ∧ (impl_isFinite64_enc v372 y).1.Ok F (impl_isFinite64_enc v372 y).2 :=
  fn_fin tok impl_isFinite64_hO mixed Try.func149 Try.call149 (by kernel_rfl) (LoopsOk_eq (l := []) (by kernel_rfl) trivial) (impl_isFinite64_den v372) hy hm h0 hA
def impl_isFinite64_v (v372 : Nat) : Bool :=
  if (!(math_IsNaN_v v372)) = true then (
   !(math_IsInf_v v372 (0 : Int))
  ) else (
   false
  )
theorem impl_isFinite64_tot (v372 : Nat) : impl_isFinite64_g v372 = some (impl_isFinite64_v v372) := by
  unfold impl_isFinite64_g impl_isFinite64_T impl_isFinite64_v
  simp only [Tree.run]
  repeat' (first | rfl | split)
noncomputable def impl_isFinite64_F : DFn := fun args L =>
  match args with
  | [.flt .f64 v372] =>
    .leaf (.bool (impl_isFinite64_v v372), L)
  | _ => .fail
theorem impl_isFinite64_Fok : COk Try.prog 149 impl_isFinite64_F true := by
  intro F L H args r L' hs ha hr
  unfold impl_isFinite64_F at hr
  split at hr
  · rename_i v372
    have hy := impl_isFinite64_tot v372
    generalize impl_isFinite64_v v372 = y at hy hr
    simp only [Tree.run, Option.some.injEq, Prod.mk.injEq] at hr
    obtain ⟨rfl, rfl⟩ := hr
    exact call_ok0 hs (fun k => (([] : List AV)[k]?).getD .top) [.flt .f64 v372] [.flt .f64 v372] (fun F' h0 hi hρ => ⟨by simp [DVs.av, DV.av, BR.av, hρ], impl_isFinite64_fn v372 F' (by rw [hi]; rfl) (st_nil hi) ⟨trivial, trivial⟩ hy⟩) rfl
  · cases hr
/-! impl.IsFinite -/
noncomputable def impl_IsFinite_LO (v371 : Nat) : LOr := fun id e L =>
  match id with
  | _ => .fail
noncomputable def impl_IsFinite_tab : List (FuncId × DFn × Bool) := [(149, impl_isFinite64_F, true)]
theorem impl_IsFinite_hO : OrcOk Try.prog (tabD impl_IsFinite_tab) (tabM impl_IsFinite_tab) := tabD_cons impl_isFinite64_Fok (tabD_nil _)
noncomputable def impl_IsFinite_T (v371 : Nat) : Tree (Bool) :=
  .leaf (impl_isFinite64_v (wid v371))

noncomputable def impl_IsFinite_g (v371 : Nat) : Option (Bool) := (impl_IsFinite_T v371).run
def impl_IsFinite_enc (v371 : Nat) (y : Bool) : Rs := (.bool y, [])
theorem impl_IsFinite_den (v371 : Nat) : (den TT (tabD impl_IsFinite_tab) (tabM impl_IsFinite_tab) (impl_IsFinite_LO v371) (codeOf Try.f96) ([.flt .f32 v371] ++ List.replicate (Try.f96.ntmps - ([.flt .f32 v371] : List DV).length) .undef) []).bind (retD TT Try.f96.results.toList 0) = (impl_IsFinite_T v371).bind fun y => .leaf (impl_IsFinite_enc v371 y) := by kernel_rfl
theorem impl_IsFinite_fn (v371 : Nat) (F : Fr) (hm : F.ids.length = 0) (h0 : St F [] F.H0) (hA : DVs.Ok F [] [.flt .f32 v371]) {y : Bool} (hy : impl_IsFinite_g v371 = some y) : ∃ H', FnOk Try.prog 96 (DVs.av F [.flt .f32 v371]) F.H0 ((impl_IsFinite_enc v371 y).1.av F) H' ∧ St F (impl_IsFinite_enc v371 y).2 H' ∧ (impl_IsFinite_enc v371 y).1.Ok F (impl_IsFinite_enc v371 y).2 :=
  fn_fin tok impl_IsFinite_hO mixed Try.func96 Try.call96 (by kernel_rfl) (LoopsOk_eq (l := []) (by kernel_rfl) trivial) (impl_IsFinite_den v371) hy hm h0 hA
def impl_IsFinite_v (v371 : Nat) : Bool :=
  (impl_isFinite64_v (wid v371))
theorem impl_IsFinite_tot (v371 : Nat) : impl_IsFinite_g v371 = some (impl_IsFinite_v v371) := by
  unfold impl_IsFinite_g impl_IsFinite_T impl_IsFinite_v
  simp only [Tree.run]
  repeat' (first | rfl | split)
noncomputable def impl_IsFinite_F : DFn := fun args L =>
  match args with
  | [.flt .f32 v371] =>
    .leaf (.bool (impl_IsFinite_v v371), L)
  | _ => .fail
theorem impl_IsFinite_Fok : COk Try.prog 96 impl_IsFinite_F true := by
  intro F L H args r L' hs ha hr
  unfold impl_IsFinite_F at hr
  split at hr
  · rename_i v371
    have hy := impl_IsFinite_tot v371
    generalize impl_IsFinite_v v371 = y at hy hr
    simp only [Tree.run, Option.some.injEq, Prod.mk.injEq] at hr
    obtain ⟨rfl, rfl⟩ := hr
    exact call_ok0 hs (fun k => (([] : List AV)[k]?).getD .top) [.flt .f32 v371] [.flt .f32 v371] (fun F' h0 hi hρ => ⟨by simp [DVs.av, DV.av, BR.av, hρ], impl_IsFinite_fn v371 F' (by rw [hi]; rfl) (st_nil hi) ⟨trivial, trivial⟩ hy⟩) rfl
  · cases hr
/-! impl.areFinite$1 -/
noncomputable def impl_areFinite_1_LO (v370 : Nat) : LOr := fun id e L =>
  match id with
  | _ => .fail
noncomputable def impl_areFinite_1_tab : List (FuncId × DFn × Bool) := [(96, impl_IsFinite_F, true)]
theorem impl_areFinite_1_hO : OrcOk Try.prog (tabD impl_areFinite_1_tab) (tabM impl_areFinite_1_tab) := tabD_cons impl_IsFinite_Fok (tabD_nil _)
noncomputable def impl_areFinite_1_T (v370 : Nat) : Tree (Bool) :=
  .leaf (!(impl_IsFinite_v v370))

noncomputable def impl_areFinite_1_g (v370 : Nat) : Option (Bool) := (impl_areFinite_1_T v370).run
def impl_areFinite_1_enc (v370 : Nat) (y : Bool) : Rs := (.bool y, [])
theorem impl_areFinite_1_den (v370 : Nat) : (den TT (tabD impl_areFinite_1_tab) (tabM impl_areFinite_1_tab) (impl_areFinite_1_LO v370) (codeOf Try.f138) ([.flt .f32 v370] ++ List.replicate (Try.f138.ntmps - ([.flt .f32 v370] : List DV).length) .undef) []).bind (retD TT Try.f138.results.toList 0) = (impl_areFinite_1_T v370).bind fun y => .leaf (impl_areFinite_1_enc v370 y) := by kernel_rfl
theorem impl_areFinite_1_fn (v370 : Nat) (F : Fr) (hm : F.ids.length = 0) (h0 : St F [] F.H0) (hA : DVs.Ok F [] [.flt .f32 v370]) {y : Bool} (hy : impl_areFinite_1_g v370 = some y) : ∃ H', FnOk Try.prog 138 (DVs.av F [.flt .f32 v370]) F.H0 ((impl_areFinite_1_enc v370 y).1.av F) H' ∧ St F (impl_areFinite_1_enc v370 y).2 H' ∧ (impl_areFinite_1_enc v370 y).1.Ok F (impl_areFinite_1_enc v370 y).2 :=
  fn_fin tok impl_areFinite_1_hO mixed Try.func138 Try.call138 (by kernel_rfl) (LoopsOk_eq (l := []) (by kernel_rfl) trivial) (impl_areFinite_1_den v370) hy hm h0 hA
def impl_areFinite_1_v (v370 : Nat) : Bool :=
  !(impl_IsFinite_v v370)
theorem impl_areFinite_1_tot (v370 : Nat) : impl_areFinite_1_g v370 = some (impl_areFinite_1_v v370) := by
  unfold impl_areFinite_1_g impl_areFinite_1_T impl_areFinite_1_v
  simp only [Tree.run]
  repeat' (first | rfl | split)
noncomputable def impl_areFinite_1_F : DFn := fun args L =>
  match args with
  | [.flt .f32 v370] =>
    .leaf (.bool (impl_areFinite_1_v v370), L)
  | _ => .fail
theorem impl_areFinite_1_Fok : COk Try.prog 138 impl_areFinite_1_F true := by
  intro F L H args r L' hs ha hr
  unfold impl_areFinite_1_F at hr
  split at hr
  · rename_i v370
    have hy := impl_areFinite_1_tot v370
    generalize impl_areFinite_1_v v370 = y at hy hr
    simp only [Tree.run, Option.some.injEq, Prod.mk.injEq] at hr
    obtain ⟨rfl, rfl⟩ := hr
    exact call_ok0 hs (fun k => (([] : List AV)[k]?).getD .top) [.flt .f32 v370] [.flt .f32 v370] (fun F' h0 hi hρ => ⟨by simp [DVs.av, DV.av, BR.av, hρ], impl_areFinite_1_fn v370 F' (by rw [hi]; rfl) (st_nil hi) ⟨trivial, trivial⟩ hy⟩) rfl
  · cases hr
/-! slices.IndexFunc[list of float32,float32] -/
noncomputable def slices_IndexFuncF_l0_T (v368 : List Nat) (s : Int) : Tree ((Int) ⊕ ((Int) ⊕ (Unit))) :=
  (.br (decide (s < ((v368.length : Nat) : Int))) (
   (.grd (inb s v368.length) <|
   (.br (impl_areFinite_1_v (nth v368 (Int.toNat s))) (
    .leaf (.inr (.inl s))
   ) (
    .leaf (.inl (IntKind.i64.wrap (s + (1 : Int))))
   )))
  ) (
   .leaf (.inr (.inr ()))
  ))

noncomputable def slices_IndexFuncF_l0_g (v368 : List Nat) (s0 : Int) : Option ((Int) ⊕ (Unit)) := whileM (fun s => (slices_IndexFuncF_l0_T v368 s).run) s0
def slices_IndexFuncF_l0_E (v368 : List Nat) (s : Int) : Sd := ([.bslc (BR.root 0) (.f32 v368), .fn 138 [], .top, .top, .top, .top, .top, .int .i64 ((v368.length : Nat) : Int), .int .i64 s, .top, .top, .top, .top, .top, .top, .top, .top, .top, .top], [])
def slices_IndexFuncF_l0_X (v368 : List Nat) (x : (Int) ⊕ (Unit)) : Out := (match x with | .inl x => (.ret, [.top, .top, .top, .top, .int .i64 x, .top, .top, .top, .top, .top, .top, .top, .top, .top, .top, .top, .top, .top, .top], []) | .inr x => (.normal, [.top, .top, .top, .top, .top, .top, .top, .top, .top, .top, .top, .top, .top, .top, .top, .top, .top, .top, .top], []))
def slices_IndexFuncF_l0_kill : List Nat := [0, 0, 1, 1, 1, 1, 1, 0, 0, 1, 1, 1, 1, 1, 1, 1, 1, 1, 1]
def slices_IndexFuncF_l0_nx : Exit → List Nat
  | .exit 0 => [1, 1, 1, 1, 1, 1, 1, 1, 1, 1, 1, 1, 1, 1, 1, 1, 1, 1, 1]
  | .ret => [1, 1, 1, 1, 0, 1, 1, 1, 1, 1, 1, 1, 1, 1, 1, 1, 1, 1, 1]
  | _ => []
noncomputable def slices_IndexFuncF_LO (v368 : List Nat) : LOr := fun id e L =>
  match id with
  | 0 => .need (normA 0 slices_IndexFuncF_l0_kill e L = some (slices_IndexFuncF_l0_E v368 (gI (vAt e 8)))) (.call (slices_IndexFuncF_l0_g v368 (gI (vAt e 8))) fun x => .sum x (fun b0 => .leaf (slices_IndexFuncF_l0_X v368 (.inl b0))) (fun c0 => .leaf (slices_IndexFuncF_l0_X v368 (.inr c0))))
  | _ => .fail
noncomputable def slices_IndexFuncF_tab : List (FuncId × DFn × Bool) := [(138, impl_areFinite_1_F, true)]
theorem slices_IndexFuncF_hO : OrcOk Try.prog (tabD slices_IndexFuncF_tab) (tabM slices_IndexFuncF_tab) := tabD_cons impl_areFinite_1_Fok (tabD_nil _)
theorem slices_IndexFuncF_l0_be (v368 : List Nat) (s : Int) : bodyT TT (tabD slices_IndexFuncF_tab) (tabM slices_IndexFuncF_tab) (slices_IndexFuncF_LO v368) 0 slices_IndexFuncF_l0_kill slices_IndexFuncF_l0_nx (bodyOf Try.f168 0) 0 (slices_IndexFuncF_l0_E v368 s) = (slices_IndexFuncF_l0_T v368 s).bind fun y => .leaf (outS (slices_IndexFuncF_l0_E v368) (slices_IndexFuncF_l0_X v368) y) := by kernel_rfl
theorem slices_IndexFuncF_l0_ok (v368 : List Nat) : LSound Try.prog 0 (slices_IndexFuncF_LO v368) 0 (bodyOf Try.f168 0) := by
  intro e L out h
  exact lo_ok (E := slices_IndexFuncF_l0_E v368) (gT := slices_IndexFuncF_l0_T v368) (X := slices_IndexFuncF_l0_X v368) (s0 := (gI (vAt e 8))) tok slices_IndexFuncF_hO mixed (LoopsOk_eq (l := []) (by kernel_rfl) trivial) (slices_IndexFuncF_l0_be v368) rfl (by intro x; (cases x with | inl b => rfl | inr x => exact rfl)) h
noncomputable def slices_IndexFuncF_T (v368 : List Nat) : Tree (Int) :=
  (.need (some (slices_IndexFuncF_l0_E v368 (0 : Int)) = some (slices_IndexFuncF_l0_E v368 (0 : Int))) <|
  (.call (slices_IndexFuncF_l0_g v368 (0 : Int)) fun v378 =>
  (.sum v378 (fun v379 =>
   .leaf v379
  ) (fun v380 =>
   .leaf (-1 : Int)
  ))))

noncomputable def slices_IndexFuncF_g (v368 : List Nat) : Option (Int) := (slices_IndexFuncF_T v368).run
def slices_IndexFuncF_enc (v368 : List Nat) (y : Int) : Rs := (.int .i64 y, [])
theorem slices_IndexFuncF_den (v368 : List Nat) : (den TT (tabD slices_IndexFuncF_tab) (tabM slices_IndexFuncF_tab) (slices_IndexFuncF_LO v368) (codeOf Try.f168) ([.bslc (BR.root 0) (.f32 v368), .fn 138 []] ++ List.replicate (Try.f168.ntmps - ([.bslc (BR.root 0) (.f32 v368), .fn 138 []] : List DV).length) .undef) []).bind (retD TT Try.f168.results.toList 0) = (slices_IndexFuncF_T v368).bind fun y => .leaf (slices_IndexFuncF_enc v368 y) := by kernel_rfl
theorem slices_IndexFuncF_fn (v368 : List Nat) (F : Fr) (hm : F.ids.length = 0) (h0 : St F [] F.H0) (hA : DVs.Ok F [] [.bslc (BR.root 0) (.f32 v368), .fn 138 []]) {y : Int} (hy : slices_IndexFuncF_g v368 = some y) : ∃ H', FnOk Try.prog 168 (DVs.av F [.bslc (BR.root 0) (.f32 v368), .fn 138 []]) F.H0 ((slices_IndexFuncF_enc v368 y).1.av F) H' ∧ St F (slices_IndexFuncF_enc v368 y).2 H' ∧ (slices_IndexFuncF_enc v368 y).1.Ok F (slices_IndexFuncF_enc v368 y).2 :=
  fn_fin tok slices_IndexFuncF_hO mixed Try.func168 Try.call168 (by kernel_rfl) (LoopsOk_eq (l := [(0, bodyOf Try.f168 0)]) (by kernel_rfl) ⟨slices_IndexFuncF_l0_ok v368, trivial⟩) (slices_IndexFuncF_den v368) hy hm h0 hA
noncomputable def slices_IndexFuncF_F : DFn := fun args L =>
  match args with
  | [a1, .fn 138 []] =>
    optT (rowF32 L a1) fun v368 =>
    .call (slices_IndexFuncF_g v368) fun y => .leaf (.int .i64 y, L)
  | _ => .fail
theorem slices_IndexFuncF_Fok : COk Try.prog 168 slices_IndexFuncF_F true := by
  intro F L H args r L' hs ha hr
  unfold slices_IndexFuncF_F at hr
  split at hr
  · rename_i a1
    obtain ⟨v368, hv368, hr⟩ := optT_run hr
    simp only [Tree.run] at hr
    obtain ⟨y, hy, hr⟩ := Option.bind_eq_some_iff.1 hr
    simp only [Tree.run, Option.some.injEq, Prod.mk.injEq] at hr
    obtain ⟨rfl, rfl⟩ := hr
    exact call_ok0 hs (fun k => (([a1.av F] : List AV)[k]?).getD .top) [a1, .fn 138 []] [.bslc (BR.root 0) (.f32 v368), .fn 138 []] (fun F' h0 hi hρ => ⟨by simp [DVs.av, DV.av, BR.av, hρ], slices_IndexFuncF_fn v368 F' (by rw [hi]; rfl) (st_nil hi) ⟨bslc_ok hi (by rw [h0, hρ]; exact rowF32_ok hs (DVs.okAt ha 0 rfl) hv368), trivial, trivial⟩ hy⟩) rfl
  · cases hr
/-! slices.ContainsFunc[list of float32,float32] -/
noncomputable def slices_ContainsFuncF_LO (v367 : List Nat) : LOr := fun id e L =>
  match id with
  | _ => .fail
noncomputable def slices_ContainsFuncF_tab : List (FuncId × DFn × Bool) := [(168, slices_IndexFuncF_F, true)]
theorem slices_ContainsFuncF_hO : OrcOk Try.prog (tabD slices_ContainsFuncF_tab) (tabM slices_ContainsFuncF_tab) := tabD_cons slices_IndexFuncF_Fok (tabD_nil _)
noncomputable def slices_ContainsFuncF_T (v367 : List Nat) : Tree (Bool) :=
  (.call (slices_IndexFuncF_g v367) fun v381 =>
  .leaf (decide ((0 : Int) ≤ v381)))

noncomputable def slices_ContainsFuncF_g (v367 : List Nat) : Option (Bool) := (slices_ContainsFuncF_T v367).run
def slices_ContainsFuncF_enc (v367 : List Nat) (y : Bool) : Rs := (.bool y, [])
theorem slices_ContainsFuncF_den (v367 : List Nat) : (den TT (tabD slices_ContainsFuncF_tab) (tabM slices_ContainsFuncF_tab) (slices_ContainsFuncF_LO v367) (codeOf Try.f137) ([.bslc (BR.root 0) (.f32 v367), .fn 138 []] ++ List.replicate (Try.f137.ntmps - ([.bslc (BR.root 0) (.f32 v367), .fn 138 []] : List DV).length) .undef) []).bind (retD TT Try.f137.results.toList 0) = (slices_ContainsFuncF_T v367).bind fun y => .leaf (slices_ContainsFuncF_enc v367 y) := by kernel_rfl
theorem slices_ContainsFuncF_fn (v367 : List Nat) (F : Fr) (hm : F.ids.length = 0) (h0 : St F [] F.H0) (hA : DVs.Ok F [] [.bslc (BR.root 0) (.f32 v367), .fn 138 []]) {y : Bool} (hy : slices_ContainsFuncF_g v367 = some y) : ∃ H', FnOk Try.prog 137 (DVs.av F [.bslc (BR.root 0) (.f32 v367), .fn 138 []]) F.H0 ((slices_ContainsFuncF_enc v367 y).1.av F) H' ∧ St F (slices_ContainsFuncF_enc v367 y).2 H' ∧ (slices_ContainsFuncF_enc v367 y).1.Ok F (slices_ContainsFuncF_enc v367 y).2 :=
  fn_fin tok slices_ContainsFuncF_hO mixed Try.func137 Try.call137 (by kernel_rfl) (LoopsOk_eq (l := []) (by kernel_rfl) trivial) (slices_ContainsFuncF_den v367) hy hm h0 hA
noncomputable def slices_ContainsFuncF_F : DFn := fun args L =>
  match args with
  | [a1, .fn 138 []] =>
    optT (rowF32 L a1) fun v367 =>
    .call (slices_ContainsFuncF_g v367) fun y => .leaf (.bool y, L)
  | _ => .fail
theorem slices_ContainsFuncF_Fok : COk Try.prog 137 slices_ContainsFuncF_F true := by
  intro F L H args r L' hs ha hr
  unfold slices_ContainsFuncF_F at hr
  split at hr
  · rename_i a1
    obtain ⟨v367, hv367, hr⟩ := optT_run hr
    simp only [Tree.run] at hr
    obtain ⟨y, hy, hr⟩ := Option.bind_eq_some_iff.1 hr
    simp only [Tree.run, Option.some.injEq, Prod.mk.injEq] at hr
    obtain ⟨rfl, rfl⟩ := hr
    exact call_ok0 hs (fun k => (([a1.av F] : List AV)[k]?).getD .top) [a1, .fn 138 []] [.bslc (BR.root 0) (.f32 v367), .fn 138 []] (fun F' h0 hi hρ => ⟨by simp [DVs.av, DV.av, BR.av, hρ], slices_ContainsFuncF_fn v367 F' (by rw [hi]; rfl) (st_nil hi) ⟨bslc_ok hi (by rw [h0, hρ]; exact rowF32_ok hs (DVs.okAt ha 0 rfl) hv367), trivial, trivial⟩ hy⟩) rfl
  · cases hr
/-! impl.areFinite -/
noncomputable def impl_areFinite_LO (v366 : List Nat) : LOr := fun id e L =>
  match id with
  | _ => .fail
noncomputable def impl_areFinite_tab : List (FuncId × DFn × Bool) := [(137, slices_ContainsFuncF_F, true)]
theorem impl_areFinite_hO : OrcOk Try.prog (tabD impl_areFinite_tab) (tabM impl_areFinite_tab) := tabD_cons slices_ContainsFuncF_Fok (tabD_nil _)
noncomputable def impl_areFinite_T (v366 : List Nat) : Tree (Bool) :=
  (.call (slices_ContainsFuncF_g v366) fun v382 =>
  .leaf (!v382))

noncomputable def impl_areFinite_g (v366 : List Nat) : Option (Bool) := (impl_areFinite_T v366).run
def impl_areFinite_enc (v366 : List Nat) (y : Bool) : Rs := (.bool y, [])
theorem impl_areFinite_den (v366 : List Nat) : (den TT (tabD impl_areFinite_tab) (tabM impl_areFinite_tab) (impl_areFinite_LO v366) (codeOf Try.f68) ([.bslc (BR.root 0) (.f32 v366)] ++ List.replicate (Try.f68.ntmps - ([.bslc (BR.root 0) (.f32 v366)] : List DV).length) .undef) []).bind (retD TT Try.f68.results.toList 0) = (impl_areFinite_T v366).bind fun y => .leaf (impl_areFinite_enc v366 y) := by kernel_rfl
theorem impl_areFinite_fn (v366 : List Nat) (F : Fr) (hm : F.ids.length = 0) (h0 : St F [] F.H0) (hA : DVs.Ok F [] [.bslc (BR.root 0) (.f32 v366)]) {y : Bool} (hy : impl_areFinite_g v366 = some y) : ∃ H', FnOk Try.prog 68 (DVs.av F [.bslc (BR.root 0) (.f32 v366)]) F.H0 ((impl_areFinite_enc v366 y).1.av F) H' ∧ St F (impl_areFinite_enc v366 y).2 H' ∧ (impl_areFinite_enc v366 y).1.Ok F (impl_areFinite_enc v366 y).2 :=
  fn_fin tok impl_areFinite_hO mixed Try.func68 Try.call68 (by kernel_rfl) (LoopsOk_eq (l := []) (by kernel_rfl) trivial) (impl_areFinite_den v366) hy hm h0 hA
noncomputable def impl_areFinite_F : DFn := fun args L =>
  match args with
  | [a1] =>
    optT (rowF32 L a1) fun v366 =>
    .call (impl_areFinite_g v366) fun y => .leaf (.bool y, L)
  | _ => .fail
theorem impl_areFinite_Fok : COk Try.prog 68 impl_areFinite_F true := by
  intro F L H args r L' hs ha hr
  unfold impl_areFinite_F at hr
  split at hr
  · rename_i a1
    obtain ⟨v366, hv366, hr⟩ := optT_run hr
    simp only [Tree.run] at hr
    obtain ⟨y, hy, hr⟩ := Option.bind_eq_some_iff.1 hr
    simp only [Tree.run, Option.some.injEq, Prod.mk.injEq] at hr
    obtain ⟨rfl, rfl⟩ := hr
    exact call_ok0 hs (fun k => (([a1.av F] : List AV)[k]?).getD .top) [a1] [.bslc (BR.root 0) (.f32 v366)] (fun F' h0 hi hρ => ⟨by simp [DVs.av, DV.av, BR.av, hρ], impl_areFinite_fn v366 F' (by rw [hi]; rfl) (st_nil hi) ⟨bslc_ok hi (by rw [h0, hρ]; exact rowF32_ok hs (DVs.okAt ha 0 rfl) hv366), trivial⟩ hy⟩) rfl
  · cases hr
/-! impl.ValidMatrix -/
noncomputable def impl_ValidMatrix_LO (v358 : Int) (v359 : Int) (v360 : List Nat) : LOr := fun id e L =>
  match id with
  | _ => .fail
noncomputable def impl_ValidMatrix_tab : List (FuncId × DFn × Bool) := [(77, impl_isSide_F, true), (112, impl_lengthF_F, true), (68, impl_areFinite_F, true)]
theorem impl_ValidMatrix_hO : OrcOk Try.prog (tabD impl_ValidMatrix_tab) (tabM impl_ValidMatrix_tab) := tabD_cons impl_isSide_Fok (tabD_cons impl_lengthF_Fok (tabD_cons impl_areFinite_Fok (tabD_nil _)))
noncomputable def impl_ValidMatrix_T (v358 : Int) (v359 : Int) (v360 : List Nat) : Tree (Bool) :=
  (.br (impl_isSide_v v358) (
   (.br (impl_isSide_v v359) (
    (.br (decide ((impl_lengthF_v v360) = IntKind.i64.wrap (v358 * v359))) (
     (.call (impl_areFinite_g v360) fun v383 =>
     .leaf v383)
    ) (
     .leaf false
    ))
   ) (
    .leaf false
   ))
  ) (
   .leaf false
  ))

noncomputable def impl_ValidMatrix_g (v358 : Int) (v359 : Int) (v360 : List Nat) : Option (Bool) := (impl_ValidMatrix_T v358 v359 v360).run
def impl_ValidMatrix_enc (v358 : Int) (v359 : Int) (v360 : List Nat) (y : Bool) : Rs := (.bool y, [])
theorem impl_ValidMatrix_den (v358 : Int) (v359 : Int) (v360 : List Nat) : (den TT (tabD impl_ValidMatrix_tab) (tabM impl_ValidMatrix_tab) (impl_ValidMatrix_LO v358 v359 v360) (codeOf Try.f67) ([.agg [.int .i64 v358, .int .i64 v359, .bslc (BR.root 0) (.f32 v360)]] ++ List.replicate (Try.f67.ntmps - ([.agg [.int .i64 v358, .int .i64 v359, .bslc (BR.root 0) (.f32 v360)]] : List DV).length) .undef) []).bind (retD TT Try.f67.results.toList 0) = (impl_ValidMatrix_T v358 v359 v360).bind fun y => .leaf (impl_ValidMatrix_enc v358 v359 v360 y) := by kernel_rfl
theorem impl_ValidMatrix_fn (v358 : Int) (v359 : Int) (v360 : List Nat) (F : Fr) (hm : F.ids.length = 0) (h0 : St F [] F.H0) (hA : DVs.Ok F [] [.agg [.int .i64 v358, .int .i64 v359, .bslc (BR.root 0) (.f32 v360)]]) {y : Bool} (hy : impl_ValidMatrix_g v358 v359 v360 = some y) : ∃ H', FnOk Try.prog 67 (DVs.av F [.agg [.int .i64 v358, .int .i64 v359, .bslc (BR.root 0) (.f32 v360)]]) F.H0 ((impl_ValidMatrix_enc v358 v359 v360 y).1.av F) H' ∧ St F (impl_ValidMatrix_enc v358 v359 v360 y).2 H' ∧ (impl_ValidMatrix_enc v358 v359 v360 y).1.Ok F (impl_ValidMatrix_enc v358 v359 v360 y).2 :=
  fn_fin tok impl_ValidMatrix_hO mixed Try.func67 Try.call67 (by kernel_rfl) (LoopsOk_eq (l := []) (by kernel_rfl) trivial) (impl_ValidMatrix_den v358 v359 v360) hy hm h0 hA
noncomputable def impl_ValidMatrix_F : DFn := fun args L =>
  match args with
  | [.agg [.int .i64 v358, .int .i64 v359, a1]] =>
    optT (rowF32 L a1) fun v360 =>
    .call (impl_ValidMatrix_g v358 v359 v360) fun y => .leaf (.bool y, L)
  | _ => .fail
theorem impl_ValidMatrix_Fok : COk Try.prog 67 impl_ValidMatrix_F true := by
  intro F L H args r L' hs ha hr
  unfold impl_ValidMatrix_F at hr
  split at hr
  · rename_i v358 v359 a1
    obtain ⟨v360, hv360, hr⟩ := optT_run hr
    simp only [Tree.run] at hr
    obtain ⟨y, hy, hr⟩ := Option.bind_eq_some_iff.1 hr
    simp only [Tree.run, Option.some.injEq, Prod.mk.injEq] at hr
    obtain ⟨rfl, rfl⟩ := hr
    exact call_ok0 hs (fun k => (([a1.av F] : List AV)[k]?).getD .top) [.agg [.int .i64 v358, .int .i64 v359, a1]] [.agg [.int .i64 v358, .int .i64 v359, .bslc (BR.root 0) (.f32 v360)]] (fun F' h0 hi hρ => ⟨by simp [DVs.av, DV.av, BR.av, hρ], impl_ValidMatrix_fn v358 v359 v360 F' (by rw [hi]; rfl) (st_nil hi) ⟨⟨trivial, trivial, bslc_ok hi (by rw [h0, hρ]; exact rowF32_ok hs (DVs.okAt (DVs.okAt ha 0 rfl) 2 rfl) hv360), trivial⟩, trivial⟩ hy⟩) rfl
  · cases hr
/-! impl.areFactors -/
noncomputable def impl_areFactors_LO (v352 : Int) (v353 : Int) (v354 : List Nat) (v355 : Int) (v356 : Int) (v357 : List Nat) : LOr := fun id e L =>
  match id with
  | _ => .fail
noncomputable def impl_areFactors_tab : List (FuncId × DFn × Bool) := [(67, impl_ValidMatrix_F, true)]
theorem impl_areFactors_hO : OrcOk Try.prog (tabD impl_areFactors_tab) (tabM impl_areFactors_tab) := tabD_cons impl_ValidMatrix_Fok (tabD_nil _)
noncomputable def impl_areFactors_T (v352 : Int) (v353 : Int) (v354 : List Nat) (v355 : Int) (v356 : Int) (v357 : List Nat) : Tree (Bool) :=
  (.call (impl_ValidMatrix_g v352 v353 v354) fun v384 =>
  (.br v384 (
   (.call (impl_ValidMatrix_g v355 v356 v357) fun v385 =>
   (.br v385 (
    .leaf (decide (v353 = v355))
   ) (
    .leaf false
   )))
  ) (
   .leaf false
  )))

noncomputable def impl_areFactors_g (v352 : Int) (v353 : Int) (v354 : List Nat) (v355 : Int) (v356 : Int) (v357 : List Nat) : Option (Bool) := (impl_areFactors_T v352 v353 v354 v355 v356 v357).run
def impl_areFactors_enc (v352 : Int) (v353 : Int) (v354 : List Nat) (v355 : Int) (v356 : Int) (v357 : List Nat) (y : Bool) : Rs := (.bool y, [])
theorem impl_areFactors_den (v352 : Int) (v353 : Int) (v354 : List Nat) (v355 : Int) (v356 : Int) (v357 : List Nat) : (den TT (tabD impl_areFactors_tab) (tabM impl_areFactors_tab) (impl_areFactors_LO v352 v353 v354 v355 v356 v357) (codeOf Try.f76) ([.agg [.int .i64 v352, .int .i64 v353, .bslc (BR.root 0) (.f32 v354)], .agg [.int .i64 v355, .int .i64 v356, .bslc (BR.root 1) (.f32 v357)]] ++ List.replicate (Try.f76.ntmps - ([.agg [.int .i64 v352, .int .i64 v353, .bslc (BR.root 0) (.f32 v354)], .agg [.int .i64 v355, .int .i64 v356, .bslc (BR.root 1) (.f32 v357)]] : List DV).length) .undef) []).bind (retD TT Try.f76.results.toList 0) = (impl_areFactors_T v352 v353 v354 v355 v356 v357).bind fun y => .leaf (impl_areFactors_enc v352 v353 v354 v355 v356 v357 y) := by kernel_rfl
theorem impl_areFactors_fn (v352 : Int) (v353 : Int) (v354 : List Nat) (v355 : Int) (v356 : Int) (v357 : List Nat) (F : Fr) (hm : F.ids.length = 0) (h0 : St F [] F.H0) (hA : DVs.Ok F [] [.agg [.int .i64 v352, .int .i64 v353, .bslc (BR.root 0) (.f32 v354)], .agg [.int .i64 v355, .int .i64 v356, .bslc (BR.root 1) (.f32 v357)]]) {y : Bool} (hy : impl_areFactors_g v352 v353 v354 v355 v356 v357 = some y) : ∃ H', FnOk Try.prog 76 (DVs.av F [.agg [.int .i64 v352, .int .i64 v353, .bslc (BR.root 0) (.f32 v354)], .agg [.int .i64 v355, .int .i64 v356, .bslc (BR.root 1) (.f32 v357)]]) F.H0 ((impl_areFactors_enc v352 v353 v354 v355 v356 v357 y).1.av F) H' ∧ St F (impl_areFactors_enc v352 v353 v354 v355 v356 v357 y).2 H' ∧ (impl_areFactors_enc v352 v353 v354 v355 v356 v357 y).1.Ok F (impl_areFactors_enc v352 v353 v354 v355 v356 v357 y).2 :=
  fn_fin tok impl_areFactors_hO mixed Try.func76 Try.call76 (by kernel_rfl) (LoopsOk_eq (l := []) (by kernel_rfl) trivial) (impl_areFactors_den v352 v353 v354 v355 v356 v357) hy hm h0 hA
noncomputable def impl_areFactors_F : DFn := fun args L =>
  match args with
  | [.agg [.int .i64 v352, .int .i64 v353, a1], .agg [.int .i64 v355, .int .i64 v356, a2]] =>
    optT (rowF32 L a1) fun v354 =>
    optT (rowF32 L a2) fun v357 =>
    .call (impl_areFactors_g v352 v353 v354 v355 v356 v357) fun y => .leaf (.bool y, L)
  | _ => .fail
theorem impl_areFactors_Fok : COk Try.prog 76 impl_areFactors_F true := by
  intro F L H args r L' hs ha hr
  unfold impl_areFactors_F at hr
  split at hr
  · rename_i v352 v353 a1 v355 v356 a2
    obtain ⟨v354, hv354, hr⟩ := optT_run hr
    obtain ⟨v357, hv357, hr⟩ := optT_run hr
    simp only [Tree.run] at hr
    obtain ⟨y, hy, hr⟩ := Option.bind_eq_some_iff.1 hr
    simp only [Tree.run, Option.some.injEq, Prod.mk.injEq] at hr
    obtain ⟨rfl, rfl⟩ := hr
    exact call_ok0 hs (fun k => (([a1.av F, a2.av F] : List AV)[k]?).getD .top) [.agg [.int .i64 v352, .int .i64 v353, a1], .agg [.int .i64 v355, .int .i64 v356, a2]] [.agg [.int .i64 v352, .int .i64 v353, .bslc (BR.root 0) (.f32 v354)], .agg [.int .i64 v355, .int .i64 v356, .bslc (BR.root 1) (.f32 v357)]] (fun F' h0 hi hρ => ⟨by simp [DVs.av, DV.av, BR.av, hρ], impl_areFactors_fn v352 v353 v354 v355 v356 v357 F' (by rw [hi]; rfl) (st_nil hi) ⟨⟨trivial, trivial, bslc_ok hi (by rw [h0, hρ]; exact rowF32_ok hs (DVs.okAt (DVs.okAt ha 0 rfl) 2 rfl) hv354), trivial⟩, ⟨trivial, trivial, bslc_ok hi (by rw [h0, hρ]; exact rowF32_ok hs (DVs.okAt (DVs.okAt ha 1 rfl) 2 rfl) hv357), trivial⟩, trivial⟩ hy⟩) rfl
  · cases hr
/-! impl.newMatrix -/
noncomputable def impl_newMatrix_LO (v396 : Int) (v397 : Int) : LOr := fun id e L =>
  match id with
  | _ => .fail
noncomputable def impl_newMatrix_tab : List (FuncId × DFn × Bool) := []
theorem impl_newMatrix_hO : OrcOk Try.prog (tabD impl_newMatrix_tab) (tabM impl_newMatrix_tab) := tabD_nil _
noncomputable def impl_newMatrix_T (v396 : Int) (v397 : Int) : Tree (Int × Int) :=
  (.need (IntKind.i64.wrap (v396 * v397) = IntKind.i64.wrap (v396 * v397)) <|
  (.grd (inb (IntKind.i64.wrap (v396 * v397)) (maxN + 1)) <|
  .leaf (v396, v397)))

noncomputable def impl_newMatrix_g (v396 : Int) (v397 : Int) : Option (Int × Int) := (impl_newMatrix_T v396 v397).run
def impl_newMatrix_enc (v396 : Int) (v397 : Int) (y : Int × Int) : Rs := (.agg [.int .i64 y.1, .int .i64 y.2, .own 0 0 ((List.replicate (Int.toNat (IntKind.i64.wrap (v396 * v397))) (0 : Nat)).length)], [.row (.f32 (List.replicate (Int.toNat (IntKind.i64.wrap (v396 * v397))) (0 : Nat))) 0])
theorem impl_newMatrix_den (v396 : Int) (v397 : Int) : (den TT (tabD impl_newMatrix_tab) (tabM impl_newMatrix_tab) (impl_newMatrix_LO v396 v397) (codeOf Try.f117) ([.int .i64 v396, .int .i64 v397] ++ List.replicate (Try.f117.ntmps - ([.int .i64 v396, .int .i64 v397] : List DV).length) .undef) []).bind (retD TT Try.f117.results.toList 0) = (impl_newMatrix_T v396 v397).bind fun y => .leaf (impl_newMatrix_enc v396 v397 y) := by kernel_rfl
theorem impl_newMatrix_fn (v396 : Int) (v397 : Int) (F : Fr) (hm : F.ids.length = 0) (h0 : St F [] F.H0) (hA : DVs.Ok F [] [.int .i64 v396, .int .i64 v397]) {y : Int × Int} (hy : impl_newMatrix_g v396 v397 = some y) : ∃ H', FnOk Try.prog 117 (DVs.av F [.int .i64 v396, .int .i64 v397]) F.H0 ((impl_newMatrix_enc v396 v397 y).1.av F) H' ∧ St F (impl_newMatrix_enc v396 v397 y).2 H' ∧ (impl_newMatrix_enc v396 v397 y).1.Ok F (impl_newMatrix_enc v396 v397 y).2 :=
  fn_fin tok impl_newMatrix_hO mixed Try.func117 Try.call117 (by kernel_rfl) (LoopsOk_eq (l := []) (by kernel_rfl) trivial) (impl_newMatrix_den v396 v397) hy hm h0 hA
noncomputable def impl_newMatrix_F : DFn := fun args L =>
  match args with
  | [.int .i64 v396, .int .i64 v397] =>
    .call (impl_newMatrix_g v396 v397) fun y => .leaf (.agg [.int .i64 y.1, .int .i64 y.2, .own (L.length + 0) 0 ((List.replicate (Int.toNat (IntKind.i64.wrap (v396 * v397))) (0 : Nat)).length)], L ++ [.row (.f32 (List.replicate (Int.toNat (IntKind.i64.wrap (v396 * v397))) (0 : Nat))) 0])
  | _ => .fail
theorem impl_newMatrix_Fok : COk Try.prog 117 impl_newMatrix_F true := by
  intro F L H args r L' hs ha hr
  unfold impl_newMatrix_F at hr
  split at hr
  · rename_i v396 v397
    simp only [Tree.run] at hr
    obtain ⟨y, hy, hr⟩ := Option.bind_eq_some_iff.1 hr
    simp only [Tree.run, Option.some.injEq, Prod.mk.injEq] at hr
    obtain ⟨rfl, rfl⟩ := hr
    exact call_ok1 hs (fun k => (([] : List AV)[k]?).getD .top) [.int .i64 v396, .int .i64 v397] [.int .i64 v396, .int .i64 v397] (fun F' h0 hi hρ => ⟨by simp [DVs.av, DV.av, BR.av, hρ], impl_newMatrix_fn v396 v397 F' (by rw [hi]; rfl) (st_nil hi) ⟨trivial, trivial, trivial⟩ hy⟩) rfl rfl
  · cases hr
/-! slices.Clone[list of float32,float32] -/
noncomputable def slices_CloneF_LO (v419 : List Nat) : LOr := fun id e L =>
  match id with
  | _ => .fail
noncomputable def slices_CloneF_tab : List (FuncId × DFn × Bool) := []
theorem slices_CloneF_hO : OrcOk Try.prog (tabD slices_CloneF_tab) (tabM slices_CloneF_tab) := tabD_nil _
noncomputable def slices_CloneF_T (v419 : List Nat) : Tree (Unit) :=
  (.grd (decide (0 < v419.length)) <|
  (.grd (fits (([] : List Nat) ++ v419).length) <|
  .leaf ()))

noncomputable def slices_CloneF_g (v419 : List Nat) : Option (Unit) := (slices_CloneF_T v419).run
def slices_CloneF_enc (v419 : List Nat) (y : Unit) : Rs := (.own 0 0 ((([] : List Nat) ++ v419).length), [.row (.f32 (([] : List Nat) ++ v419)) 0])
theorem slices_CloneF_den (v419 : List Nat) : (den TT (tabD slices_CloneF_tab) (tabM slices_CloneF_tab) (slices_CloneF_LO v419) (codeOf Try.f105) ([.bslc (BR.root 0) (.f32 v419)] ++ List.replicate (Try.f105.ntmps - ([.bslc (BR.root 0) (.f32 v419)] : List DV).length) .undef) []).bind (retD TT Try.f105.results.toList 0) = (slices_CloneF_T v419).bind fun y => .leaf (slices_CloneF_enc v419 y) := by kernel_rfl
theorem slices_CloneF_fn (v419 : List Nat) (F : Fr) (hm : F.ids.length = 0) (h0 : St F [] F.H0) (hA : DVs.Ok F [] [.bslc (BR.root 0) (.f32 v419)]) {y : Unit} (hy : slices_CloneF_g v419 = some y) : ∃ H', FnOk Try.prog 105 (DVs.av F [.bslc (BR.root 0) (.f32 v419)]) F.H0 ((slices_CloneF_enc v419 y).1.av F) H' ∧ St F (slices_CloneF_enc v419 y).2 H' ∧ (slices_CloneF_enc v419 y).1.Ok F (slices_CloneF_enc v419 y).2 :=
  fn_fin tok slices_CloneF_hO mixed Try.func105 Try.call105 (by kernel_rfl) (LoopsOk_eq (l := []) (by kernel_rfl) trivial) (slices_CloneF_den v419) hy hm h0 hA
noncomputable def slices_CloneF_F : DFn := fun args L =>
  match args with
  | [a1] =>
    optT (rowF32 L a1) fun v419 =>
    .call (slices_CloneF_g v419) fun y => .leaf (.own (L.length + 0) 0 ((([] : List Nat) ++ v419).length), L ++ [.row (.f32 (([] : List Nat) ++ v419)) 0])
  | _ => .fail
theorem slices_CloneF_Fok : COk Try.prog 105 slices_CloneF_F true := by
  intro F L H args r L' hs ha hr
  unfold slices_CloneF_F at hr
  split at hr
  · rename_i a1
    obtain ⟨v419, hv419, hr⟩ := optT_run hr
    simp only [Tree.run] at hr
    obtain ⟨y, hy, hr⟩ := Option.bind_eq_some_iff.1 hr
    simp only [Tree.run, Option.some.injEq, Prod.mk.injEq] at hr
    obtain ⟨rfl, rfl⟩ := hr
    exact call_ok1 hs (fun k => (([a1.av F] : List AV)[k]?).getD .top) [a1] [.bslc (BR.root 0) (.f32 v419)] (fun F' h0 hi hρ => ⟨by simp [DVs.av, DV.av, BR.av, hρ], slices_CloneF_fn v419 F' (by rw [hi]; rfl) (st_nil hi) ⟨bslc_ok hi (by rw [h0, hρ]; exact rowF32_ok hs (DVs.okAt ha 0 rfl) hv419), trivial⟩ hy⟩) rfl rfl
  · cases hr
/-! (impl.Matrix).row -/
noncomputable def impl_Matrix_row_LO (v415 : Int) (v416 : Int) (v417 : List Nat) (v418 : Int) : LOr := fun id e L =>
  match id with
  | _ => .fail
noncomputable def impl_Matrix_row_tab : List (FuncId × DFn × Bool) := [(105, slices_CloneF_F, true)]
theorem impl_Matrix_row_hO : OrcOk Try.prog (tabD impl_Matrix_row_tab) (tabM impl_Matrix_row_tab) := tabD_cons slices_CloneF_Fok (tabD_nil _)
noncomputable def impl_Matrix_row_T (v416 : Int) (v417 : List Nat) (v418 : Int) : Tree (Unit) :=
  (.grd (sok (IntKind.i64.wrap (v418 * v416)) (IntKind.i64.wrap ((IntKind.i64.wrap (v418 + (1 : Int))) * v416)) v417.length) <|
  (.call (slices_CloneF_g (AM.sub v417 (IntKind.i64.wrap (v418 * v416)) (IntKind.i64.wrap ((IntKind.i64.wrap (v418 + (1 : Int))) * v416)))) fun v420 =>
  .leaf ()))

noncomputable def impl_Matrix_row_g (v416 : Int) (v417 : List Nat) (v418 : Int) : Option (Unit) := (impl_Matrix_row_T v416 v417 v418).run
def impl_Matrix_row_enc (v415 : Int) (v416 : Int) (v417 : List Nat) (v418 : Int) (y : Unit) : Rs := (.own 0 0 ((([] : List Nat) ++ (AM.sub v417 (IntKind.i64.wrap (v418 * v416)) (IntKind.i64.wrap ((IntKind.i64.wrap (v418 + (1 : Int))) * v416)))).length), [.row (.f32 (([] : List Nat) ++ (AM.sub v417 (IntKind.i64.wrap (v418 * v416)) (IntKind.i64.wrap ((IntKind.i64.wrap (v418 + (1 : Int))) * v416))))) 0])
theorem impl_Matrix_row_den (v415 : Int) (v416 : Int) (v417 : List Nat) (v418 : Int) : (den TT (tabD impl_Matrix_row_tab) (tabM impl_Matrix_row_tab) (impl_Matrix_row_LO v415 v416 v417 v418) (codeOf Try.f80) ([.agg [.int .i64 v415, .int .i64 v416, .bslc (BR.root 0) (.f32 v417)], .int .i64 v418] ++ List.replicate (Try.f80.ntmps - ([.agg [.int .i64 v415, .int .i64 v416, .bslc (BR.root 0) (.f32 v417)], .int .i64 v418] : List DV).length) .undef) []).bind (retD TT Try.f80.results.toList 0) = (impl_Matrix_row_T v416 v417 v418).bind fun y => .leaf (impl_Matrix_row_enc v415 v416 v417 v418 y) := by kernel_rfl
theorem impl_Matrix_row_fn (v415 : Int) (v416 : Int) (v417 : List Nat) (v418 : Int) (F : Fr) (hm : F.ids.length = 0) (h0 : St F [] F.H0) (hA : DVs.Ok F [] [.agg [.int .i64 v415, .int .i64 v416, .bslc (BR.root 0) (.f32 v417)], .int .i64 v418]) {y : Unit} (hy : impl_Matrix_row_g v416 v417 v418 = some y) : ∃ H', FnOk Try.prog 80 (DVs.av F [.agg [.int .i64 v415, .int .i64 v416, .bslc (BR.root 0) (.f32 v417)], .int .i64 v418]) F.H0 ((impl_Matrix_row_enc v415 v416 v417 v418 y).1.av F) H' ∧ St F (impl_Matrix_row_enc v415 v416 v417 v418 y).2 H' ∧ (impl_Matrix_row_enc v415 v416 v417 v418 y).1.Ok F (impl_Matrix_row_enc v415 v416 v417 v418 y).2 :=
  fn_fin tok impl_Matrix_row_hO mixed Try.func80 Try.call80 (by kernel_rfl) (LoopsOk_eq (l := []) (by kernel_rfl) trivial) (impl_Matrix_row_den v415 v416 v417 v418) hy hm h0 hA
noncomputable def impl_Matrix_row_F : DFn := fun args L =>
  match args with
  | [.agg [.int .i64 v415, .int .i64 v416, a1], .int .i64 v418] =>
    optT (rowF32 L a1) fun v417 =>
    .call (impl_Matrix_row_g v416 v417 v418) fun y => .leaf (.own (L.length + 0) 0 ((([] : List Nat) ++ (AM.sub v417 (IntKind.i64.wrap (v418 * v416)) (IntKind.i64.wrap ((IntKind.i64.wrap (v418 + (1 : Int))) * v416)))).length), L ++ [.row (.f32 (([] : List Nat) ++ (AM.sub v417 (IntKind.i64.wrap (v418 * v416)) (IntKind.i64.wrap ((IntKind.i64.wrap (v418 + (1 : Int))) * v416))))) 0])
  | _ => .fail
theorem impl_Matrix_row_Fok : COk Try.prog 80 impl_Matrix_row_F true := by
  intro F L H args r L' hs ha hr
  unfold impl_Matrix_row_F at hr
  split at hr
  · rename_i v415 v416 a1 v418
    obtain ⟨v417, hv417, hr⟩ := optT_run hr
    simp only [Tree.run] at hr
    obtain ⟨y, hy, hr⟩ := Option.bind_eq_some_iff.1 hr
    simp only [Tree.run, Option.some.injEq, Prod.mk.injEq] at hr
    obtain ⟨rfl, rfl⟩ := hr
    exact call_ok1 hs (fun k => (([a1.av F] : List AV)[k]?).getD .top) [.agg [.int .i64 v415, .int .i64 v416, a1], .int .i64 v418] [.agg [.int .i64 v415, .int .i64 v416, .bslc (BR.root 0) (.f32 v417)], .int .i64 v418] (fun F' h0 hi hρ => ⟨by simp [DVs.av, DV.av, BR.av, hρ], impl_Matrix_row_fn v415 v416 v417 v418 F' (by rw [hi]; rfl) (st_nil hi) ⟨⟨trivial, trivial, bslc_ok hi (by rw [h0, hρ]; exact rowF32_ok hs (DVs.okAt (DVs.okAt ha 0 rfl) 2 rfl) hv417), trivial⟩, trivial, trivial⟩ hy⟩) rfl rfl
  · cases hr
/-! (impl.Matrix).at -/
noncomputable def impl_Matrix_at_LO (v427 : Int) (v428 : Int) (v429 : List Nat) (v430 : Int) (v431 : Int) : LOr := fun id e L =>
  match id with
  | _ => .fail
noncomputable def impl_Matrix_at_tab : List (FuncId × DFn × Bool) := []
theorem impl_Matrix_at_hO : OrcOk Try.prog (tabD impl_Matrix_at_tab) (tabM impl_Matrix_at_tab) := tabD_nil _
noncomputable def impl_Matrix_at_T (v428 : Int) (v429 : List Nat) (v430 : Int) (v431 : Int) : Tree (Nat) :=
  (.grd (inb (IntKind.i64.wrap ((IntKind.i64.wrap (v430 * v428)) + v431)) v429.length) <|
  .leaf (nth v429 (Int.toNat (IntKind.i64.wrap ((IntKind.i64.wrap (v430 * v428)) + v431)))))

noncomputable def impl_Matrix_at_g (v428 : Int) (v429 : List Nat) (v430 : Int) (v431 : Int) : Option (Nat) := (impl_Matrix_at_T v428 v429 v430 v431).run
def impl_Matrix_at_enc (v427 : Int) (v428 : Int) (v429 : List Nat) (v430 : Int) (v431 : Int) (y : Nat) : Rs := (.flt .f32 y, [])
theorem impl_Matrix_at_den (v427 : Int) (v428 : Int) (v429 : List Nat) (v430 : Int) (v431 : Int) : (den TT (tabD impl_Matrix_at_tab) (tabM impl_Matrix_at_tab) (impl_Matrix_at_LO v427 v428 v429 v430 v431) (codeOf Try.f64) ([.agg [.int .i64 v427, .int .i64 v428, .bslc (BR.root 0) (.f32 v429)], .int .i64 v430, .int .i64 v431] ++ List.replicate (Try.f64.ntmps - ([.agg [.int .i64 v427, .int .i64 v428, .bslc (BR.root 0) (.f32 v429)], .int .i64 v430, .int .i64 v431] : List DV).length) .undef) []).bind (retD TT Try.f64.results.toList 0) = (impl_Matrix_at_T v428 v429 v430 v431).bind fun y => .leaf (impl_Matrix_at_enc v427 v428 v429 v430 v431 y) := by kernel_rfl
theorem impl_Matrix_at_fn (v427 : Int) (v428 : Int) (v429 : List Nat) (v430 : Int) (v431 : Int) (F : Fr) (hm : F.ids.length = 0) (h0 : St F [] F.H0) (hA : DVs.Ok F [] [.agg [.int .i64 v427, .int .i64 v428, .bslc (BR.root 0) (.f32 v429)], .int .i64 v430, .int .i64 v431]) {y : Nat} (hy : impl_Matrix_at_g v428 v429 v430 v431 = some y) : ∃ H', FnOk Try.prog 64 (DVs.av F [.agg [.int .i64 v427, .int .i64 v428, .bslc (BR.root 0) (.f32 v429)], .int .i64 v430, .int .i64 v431]) F.H0 ((impl_Matrix_at_enc v427 v428 v429 v430 v431 y).1.av F) H' ∧ St F (impl_Matrix_at_enc v427 v428 v429 v430 v431 y).2 H' ∧ (impl_Matrix_at_enc v427 v428 v429 v430 v431 y).1.Ok F (impl_Matrix_at_enc v427 v428 v429 v430 v431 y).2 :=
  fn_fin tok impl_Matrix_at_hO mixed Try.func64 Try.call64 (by kernel_rfl) (LoopsOk_eq (l := []) (by kernel_rfl) trivial) (impl_Matrix_at_den v427 v428 v429 v430 v431) hy hm h0 hA
noncomputable def impl_Matrix_at_F : DFn := fun args L =>
  match args with
  | [.agg [.int .i64 v427, .int .i64 v428, a1], .int .i64 v430, .int .i64 v431] =>
    optT (rowF32 L a1) fun v429 =>
    .call (impl_Matrix_at_g v428 v429 v430 v431) fun y => .leaf (.flt .f32 y, L)
  | _ => .fail
theorem impl_Matrix_at_Fok : COk Try.prog 64 impl_Matrix_at_F true := by
  intro F L H args r L' hs ha hr
  unfold impl_Matrix_at_F at hr
  split at hr
  · rename_i v427 v428 a1 v430 v431
    obtain ⟨v429, hv429, hr⟩ := optT_run hr
    simp only [Tree.run] at hr
    obtain ⟨y, hy, hr⟩ := Option.bind_eq_some_iff.1 hr
    simp only [Tree.run, Option.some.injEq, Prod.mk.injEq] at hr
    obtain ⟨rfl, rfl⟩ := hr
    exact call_ok0 hs (fun k => (([a1.av F] : List AV)[k]?).getD .top) [.agg [.int .i64 v427, .int .i64 v428, a1], .int .i64 v430, .int .i64 v431] [.agg [.int .i64 v427, .int .i64 v428, .bslc (BR.root 0) (.f32 v429)], .int .i64 v430, .int .i64 v431] (fun F' h0 hi hρ => ⟨by simp [DVs.av, DV.av, BR.av, hρ], impl_Matrix_at_fn v427 v428 v429 v430 v431 F' (by rw [hi]; rfl) (st_nil hi) ⟨⟨trivial, trivial, bslc_ok hi (by rw [h0, hρ]; exact rowF32_ok hs (DVs.okAt (DVs.okAt ha 0 rfl) 2 rfl) hv429), trivial⟩, trivial, trivial, trivial⟩ hy⟩) rfl
  · cases hr
/-! (impl.Matrix).column -/
noncomputable def impl_Matrix_column_l0_T (v422 : Int) (v423 : Int) (v424 : List Nat) (v425 : Int) (s : Int × (List Nat)) : Tree ((Int × (List Nat)) ⊕ ((List Nat))) :=
  (.br (decide (s.1 < v422)) (
   (.call (impl_Matrix_at_g v423 v424 s.1 v425) fun v438 =>
   (.grd (fits (s.2 ++ ([v438] : List Nat)).length) <|
   .leaf (.inl (IntKind.i64.wrap (s.1 + (1 : Int)), s.2 ++ ([v438] : List Nat)))))
  ) (
   .leaf (.inr s.2)
  ))

noncomputable def impl_Matrix_column_l0_g (v422 : Int) (v423 : Int) (v424 : List Nat) (v425 : Int) (s0 : Int × (List Nat)) : Option ((List Nat)) := whileM (fun s => (impl_Matrix_column_l0_T v422 v423 v424 v425 s).run) s0
def impl_Matrix_column_l0_E (v422 : Int) (v423 : Int) (v424 : List Nat) (v425 : Int) (s : Int × (List Nat)) : Sd := ([.top, .int .i64 v425, .ptr 0 (0 : Nat) 0 (3 : Nat), .top, .top, .own 1 0 ((s.2).length), .top, .top, .top, .int .i64 v422, .int .i64 s.1, .top, .top, .top, .top, .top, .top, .top, .top, .top, .top, .top], [.gen [.int .i64 v422, .int .i64 v423, .bslc (BR.root 0) (.f32 v424)] false 0, .row (.f32 s.2) 0])
def impl_Matrix_column_l0_X (v422 : Int) (v423 : Int) (v424 : List Nat) (v425 : Int) (x : (List Nat)) : Out := (.normal, [.top, .top, .top, .top, .top, .own 0 0 ((x).length), .top, .top, .top, .top, .top, .top, .top, .top, .top, .top, .top, .top, .top, .top, .top, .top], [.row (.f32 x) 0])
def impl_Matrix_column_l0_kill : List Nat := [1, 0, 0, 1, 1, 0, 1, 1, 1, 0, 0, 1, 1, 1, 1, 1, 1, 1, 1, 1, 1, 1]
def impl_Matrix_column_l0_nx : Exit → List Nat
  | .exit 0 => [1, 1, 1, 1, 1, 0, 1, 1, 1, 1, 1, 1, 1, 1, 1, 1, 1, 1, 1, 1, 1, 1]
  | .ret => [1, 1, 1, 1, 0, 1, 1, 1, 1, 1, 1, 1, 1, 1, 1, 1, 1, 1, 1, 1, 1, 1]
  | _ => []
noncomputable def impl_Matrix_column_LO (v422 : Int) (v423 : Int) (v424 : List Nat) (v425 : Int) : LOr := fun id e L =>
  match id with
  | 0 => .need (normA 0 impl_Matrix_column_l0_kill e L = some (impl_Matrix_column_l0_E v422 v423 v424 v425 ((gI (vAt e 10)), (gRF L (vAt e 5))))) (.call (impl_Matrix_column_l0_g v422 v423 v424 v425 ((gI (vAt e 10)), (gRF L (vAt e 5)))) fun x => .leaf (impl_Matrix_column_l0_X v422 v423 v424 v425 x))
  | _ => .fail
noncomputable def impl_Matrix_column_tab : List (FuncId × DFn × Bool) := [(64, impl_Matrix_at_F, true)]
theorem impl_Matrix_column_hO : OrcOk Try.prog (tabD impl_Matrix_column_tab) (tabM impl_Matrix_column_tab) := tabD_cons impl_Matrix_at_Fok (tabD_nil _)
theorem impl_Matrix_column_l0_be (v422 : Int) (v423 : Int) (v424 : List Nat) (v425 : Int) (s : Int × (List Nat)) : bodyT TT (tabD impl_Matrix_column_tab) (tabM impl_Matrix_column_tab) (impl_Matrix_column_LO v422 v423 v424 v425) 0 impl_Matrix_column_l0_kill impl_Matrix_column_l0_nx (bodyOf Try.f81 0) 0 (impl_Matrix_column_l0_E v422 v423 v424 v425 s) = (impl_Matrix_column_l0_T v422 v423 v424 v425 s).bind fun y => .leaf (outS (impl_Matrix_column_l0_E v422 v423 v424 v425) (impl_Matrix_column_l0_X v422 v423 v424 v425) y) := by kernel_rfl
theorem impl_Matrix_column_l0_ok (v422 : Int) (v423 : Int) (v424 : List Nat) (v425 : Int) : LSound Try.prog 0 (impl_Matrix_column_LO v422 v423 v424 v425) 0 (bodyOf Try.f81 0) := by
  intro e L out h
  exact lo_ok (E := impl_Matrix_column_l0_E v422 v423 v424 v425) (gT := impl_Matrix_column_l0_T v422 v423 v424 v425) (X := impl_Matrix_column_l0_X v422 v423 v424 v425) (s0 := ((gI (vAt e 10)), (gRF L (vAt e 5)))) tok impl_Matrix_column_hO mixed (LoopsOk_eq (l := []) (by kernel_rfl) trivial) (impl_Matrix_column_l0_be v422 v423 v424 v425) rfl (by intro x; rfl) h
noncomputable def impl_Matrix_column_T (v422 : Int) (v423 : Int) (v424 : List Nat) (v425 : Int) : Tree ((List Nat)) :=
  (.need (some (impl_Matrix_column_l0_E v422 v423 v424 v425 ((0 : Int), ([] : List Nat))) = some (impl_Matrix_column_l0_E v422 v423 v424 v425 ((0 : Int), ([] : List Nat)))) <|
  (.call (impl_Matrix_column_l0_g v422 v423 v424 v425 ((0 : Int), ([] : List Nat))) fun v439 =>
  .leaf v439))

noncomputable def impl_Matrix_column_g (v422 : Int) (v423 : Int) (v424 : List Nat) (v425 : Int) : Option ((List Nat)) := (impl_Matrix_column_T v422 v423 v424 v425).run
def impl_Matrix_column_enc (v422 : Int) (v423 : Int) (v424 : List Nat) (v425 : Int) (y : (List Nat)) : Rs := (.own 0 0 ((y).length), [.row (.f32 y) 0])
theorem impl_Matrix_column_den (v422 : Int) (v423 : Int) (v424 : List Nat) (v425 : Int) : (den TT (tabD impl_Matrix_column_tab) (tabM impl_Matrix_column_tab) (impl_Matrix_column_LO v422 v423 v424 v425) (codeOf Try.f81) ([.agg [.int .i64 v422, .int .i64 v423, .bslc (BR.root 0) (.f32 v424)], .int .i64 v425] ++ List.replicate (Try.f81.ntmps - ([.agg [.int .i64 v422, .int .i64 v423, .bslc (BR.root 0) (.f32 v424)], .int .i64 v425] : List DV).length) .undef) []).bind (retD TT Try.f81.results.toList 0) = (impl_Matrix_column_T v422 v423 v424 v425).bind fun y => .leaf (impl_Matrix_column_enc v422 v423 v424 v425 y) := by kernel_rfl
theorem impl_Matrix_column_fn (v422 : Int) (v423 : Int) (v424 : List Nat) (v425 : Int) (F : Fr) (hm : F.ids.length = 0) (h0 : St F [] F.H0) (hA : DVs.Ok F [] [.agg [.int .i64 v422, .int .i64 v423, .bslc (BR.root 0) (.f32 v424)], .int .i64 v425]) {y : (List Nat)} (hy : impl_Matrix_column_g v422 v423 v424 v425 = some y) : ∃ H', FnOk Try.prog 81 (DVs.av F [.agg [.int .i64 v422, .int .i64 v423, .bslc (BR.root 0) (.f32 v424)], .int .i64 v425]) F.H0 ((impl_Matrix_column_enc v422 v423 v424 v425 y).1.av F) H' ∧ St F (impl_Matrix_column_enc v422 v423 v424 v425 y).2 H' ∧ (impl_Matrix_column_enc v422 v423 v424 v425 y).1.Ok F (impl_Matrix_column_enc v422 v423 v424 v425 y).2 :=
  fn_fin tok impl_Matrix_column_hO mixed Try.func81 Try.call81 (by kernel_rfl) (LoopsOk_eq (l := [(0, bodyOf Try.f81 0)]) (by kernel_rfl) ⟨impl_Matrix_column_l0_ok v422 v423 v424 v425, trivial⟩) (impl_Matrix_column_den v422 v423 v424 v425) hy hm h0 hA
noncomputable def impl_Matrix_column_F : DFn := fun args L =>
  match args with
  | [.agg [.int .i64 v422, .int .i64 v423, a1], .int .i64 v425] =>
    optT (rowF32 L a1) fun v424 =>
    .call (impl_Matrix_column_g v422 v423 v424 v425) fun y => .leaf (.own (L.length + 0) 0 ((y).length), L ++ [.row (.f32 y) 0])
  | _ => .fail
theorem impl_Matrix_column_Fok : COk Try.prog 81 impl_Matrix_column_F true := by
  intro F L H args r L' hs ha hr
  unfold impl_Matrix_column_F at hr
  split at hr
  · rename_i v422 v423 a1 v425
    obtain ⟨v424, hv424, hr⟩ := optT_run hr
    simp only [Tree.run] at hr
    obtain ⟨y, hy, hr⟩ := Option.bind_eq_some_iff.1 hr
    simp only [Tree.run, Option.some.injEq, Prod.mk.injEq] at hr
    obtain ⟨rfl, rfl⟩ := hr
    exact call_ok1 hs (fun k => (([a1.av F] : List AV)[k]?).getD .top) [.agg [.int .i64 v422, .int .i64 v423, a1], .int .i64 v425] [.agg [.int .i64 v422, .int .i64 v423, .bslc (BR.root 0) (.f32 v424)], .int .i64 v425] (fun F' h0 hi hρ => ⟨by simp [DVs.av, DV.av, BR.av, hρ], impl_Matrix_column_fn v422 v423 v424 v425 F' (by rw [hi]; rfl) (st_nil hi) ⟨⟨trivial, trivial, bslc_ok hi (by rw [h0, hρ]; exact rowF32_ok hs (DVs.okAt (DVs.okAt ha 0 rfl) 2 rfl) hv424), trivial⟩, trivial, trivial⟩ hy⟩) rfl rfl
  · cases hr
/-! impl.mul -/
noncomputable def impl_mul_LO (v448 : Nat) (v449 : Nat) : LOr := fun id e L =>
  match id with
  | _ => .fail
noncomputable def impl_mul_tab : List (FuncId × DFn × Bool) := []
theorem impl_mul_hO : OrcOk Try.prog (tabD impl_mul_tab) (tabM impl_mul_tab) := tabD_nil _
noncomputable def impl_mul_T (v448 : Nat) (v449 : Nat) : Tree (Nat) :=
  .leaf (fmul .f32 v448 v449)

noncomputable def impl_mul_g (v448 : Nat) (v449 : Nat) : Option (Nat) := (impl_mul_T v448 v449).run
def impl_mul_enc (v448 : Nat) (v449 : Nat) (y : Nat) : Rs := (.flt .f32 y, [])
theorem impl_mul_den (v448 : Nat) (v449 : Nat) : (den TT (tabD impl_mul_tab) (tabM impl_mul_tab) (impl_mul_LO v448 v449) (codeOf Try.f65) ([.flt .f32 v448, .flt .f32 v449] ++ List.replicate (Try.f65.ntmps - ([.flt .f32 v448, .flt .f32 v449] : List DV).length) .undef) []).bind (retD TT Try.f65.results.toList 0) = (impl_mul_T v448 v449).bind fun y => .leaf (impl_mul_enc v448 v449 y) := by kernel_rfl
theorem impl_mul_fn (v448 : Nat) (v449 : Nat) (F : Fr) (hm : F.ids.length = 0) (h0 : St F [] F.H0) (hA : DVs.Ok F [] [.flt .f32 v448, .flt .f32 v449]) {y : Nat} (hy : impl_mul_g v448 v449 = some y) : ∃ H', FnOk Try.prog 65 (DVs.av F [.flt .f32 v448, .flt .f32 v449]) F.H0 ((impl_mul_enc v448 v449 y).1.av F) H' ∧ St F (impl_mul_enc v448 v449 y).2 H' ∧ (impl_mul_enc v448 v449 y).1.Ok F (impl_mul_enc v448 v449 y).2 :=
  fn_fin tok impl_mul_hO mixed Try.func65 Try.call65 (by kernel_rfl) (LoopsOk_eq (l := []) (by kernel_rfl) trivial) (impl_mul_den v448 v449) hy hm h0 hA
def impl_mul_v (v448 : Nat) (v449 : Nat) : Nat :=
  fmul .f32 v448 v449
theorem impl_mul_tot (v448 : Nat) (v449 : Nat) : impl_mul_g v448 v449 = some (impl_mul_v v448 v449) := by
  unfold impl_mul_g impl_mul_T impl_mul_v
  simp only [Tree.run]
  repeat' (first | rfl | split)
noncomputable def impl_mul_F : DFn := fun args L =>
  match args with
  | [.flt .f32 v448, .flt .f32 v449] =>
    .leaf (.flt .f32 (impl_mul_v v448 v449), L)
  | _ => .fail
theorem impl_mul_Fok : COk Try.prog 65 impl_mul_F true := by
  intro F L H args r L' hs ha hr
  unfold impl_mul_F at hr
  split at hr
  · rename_i v448 v449
    have hy := impl_mul_tot v448 v449
    generalize impl_mul_v v448 v449 = y at hy hr
    simp only [Tree.run, Option.some.injEq, Prod.mk.injEq] at hr
    obtain ⟨rfl, rfl⟩ := hr
    exact call_ok0 hs (fun k => (([] : List AV)[k]?).getD .top) [.flt .f32 v448, .flt .f32 v449] [.flt .f32 v448, .flt .f32 v449] (fun F' h0 hi hρ => ⟨by simp [DVs.av, DV.av, BR.av, hρ], impl_mul_fn v448 v449 F' (by rw [hi]; rfl) (st_nil hi) ⟨trivial, trivial, trivial⟩ hy⟩) rfl
  · cases hr
/-! impl.dot -/
noncomputable def impl_dot_l0_T (v444 : List Nat) (v445 : List Nat) (s : Nat × Int) : Tree ((Nat × Int) ⊕ (Nat)) :=
  (.br (decide (s.2 < ((v444.length : Nat) : Int))) (
   (.grd (inb s.2 v444.length) <|
   (.grd (inb s.2 v445.length) <|
   .leaf (.inl (fadd .f32 s.1 (impl_mul_v (nth v444 (Int.toNat s.2)) (nth v445 (Int.toNat s.2))), IntKind.i64.wrap (s.2 + (1 : Int))))))
  ) (
   .leaf (.inr s.1)
  ))

noncomputable def impl_dot_l0_g (v444 : List Nat) (v445 : List Nat) (s0 : Nat × Int) : Option (Nat) := whileM (fun s => (impl_dot_l0_T v444 v445 s).run) s0
def impl_dot_l0_E (v444 : List Nat) (v445 : List Nat) (s : Nat × Int) : Sd := ([.top, .bslc (BR.root 1) (.f32 v445), .top, .top, .top, .flt .f32 s.1, .top, .top, .bslc (BR.root 0) (.f32 v444), .int .i64 ((v444.length : Nat) : Int), .int .i64 s.2, .top, .top, .top, .top, .top, .top, .top, .top, .top, .top, .top, .top, .top, .top], [])
def impl_dot_l0_X (v444 : List Nat) (v445 : List Nat) (x : Nat) : Out := (.normal, [.top, .top, .top, .top, .top, .flt .f32 x, .top, .top, .top, .top, .top, .top, .top, .top, .top, .top, .top, .top, .top, .top, .top, .top, .top, .top, .top], [])
def impl_dot_l0_kill : List Nat := [1, 0, 1, 1, 1, 0, 1, 1, 0, 0, 0, 1, 1, 1, 1, 1, 1, 1, 1, 1, 1, 1, 1, 1, 1]
def impl_dot_l0_nx : Exit → List Nat
  | .exit 0 => [1, 1, 1, 1, 1, 0, 1, 1, 1, 1, 1, 1, 1, 1, 1, 1, 1, 1, 1, 1, 1, 1, 1, 1, 1]
  | .ret => [1, 1, 1, 1, 0, 1, 1, 1, 1, 1, 1, 1, 1, 1, 1, 1, 1, 1, 1, 1, 1, 1, 1, 1, 1]
  | _ => []
noncomputable def impl_dot_LO (v444 : List Nat) (v445 : List Nat) : LOr := fun id e L =>
  match id with
  | 0 => .need (normA 0 impl_dot_l0_kill e L = some (impl_dot_l0_E v444 v445 ((gF (vAt e 5)), (gI (vAt e 10))))) (.call (impl_dot_l0_g v444 v445 ((gF (vAt e 5)), (gI (vAt e 10)))) fun x => .leaf (impl_dot_l0_X v444 v445 x))
  | _ => .fail
noncomputable def impl_dot_tab : List (FuncId × DFn × Bool) := [(65, impl_mul_F, true)]
theorem impl_dot_hO : OrcOk Try.prog (tabD impl_dot_tab) (tabM impl_dot_tab) := tabD_cons impl_mul_Fok (tabD_nil _)
theorem impl_dot_l0_be (v444 : List Nat) (v445 : List Nat) (s : Nat × Int) : bodyT TT (tabD impl_dot_tab) (tabM impl_dot_tab) (impl_dot_LO v444 v445) 0 impl_dot_l0_kill impl_dot_l0_nx (bodyOf Try.f82 0) 0 (impl_dot_l0_E v444 v445 s) = (impl_dot_l0_T v444 v445 s).bind fun y => .leaf (outS (impl_dot_l0_E v444 v445) (impl_dot_l0_X v444 v445) y) := by kernel_rfl
theorem impl_dot_l0_ok (v444 : List Nat) (v445 : List Nat) : LSound Try.prog 0 (impl_dot_LO v444 v445) 0 (bodyOf Try.f82 0) := by
  intro e L out h
  exact lo_ok (E := impl_dot_l0_E v444 v445) (gT := impl_dot_l0_T v444 v445) (X := impl_dot_l0_X v444 v445) (s0 := ((gF (vAt e 5)), (gI (vAt e 10)))) tok impl_dot_hO mixed (LoopsOk_eq (l := []) (by kernel_rfl) trivial) (impl_dot_l0_be v444 v445) rfl (by intro x; rfl) h
noncomputable def impl_dot_T (v444 : List Nat) (v445 : List Nat) : Tree (Nat) :=
  (.need (some (impl_dot_l0_E v444 v445 ((0 : Nat), (0 : Int))) = some (impl_dot_l0_E v444 v445 ((0 : Nat), (0 : Int)))) <|
  (.call (impl_dot_l0_g v444 v445 ((0 : Nat), (0 : Int))) fun v454 =>
  .leaf v454))

noncomputable def impl_dot_g (v444 : List Nat) (v445 : List Nat) : Option (Nat) := (impl_dot_T v444 v445).run
def impl_dot_enc (v444 : List Nat) (v445 : List Nat) (y : Nat) : Rs := (.flt .f32 y, [])
theorem impl_dot_den (v444 : List Nat) (v445 : List Nat) : (den TT (tabD impl_dot_tab) (tabM impl_dot_tab) (impl_dot_LO v444 v445) (codeOf Try.f82) ([.bslc (BR.root 0) (.f32 v444), .bslc (BR.root 1) (.f32 v445)] ++ List.replicate (Try.f82.ntmps - ([.bslc (BR.root 0) (.f32 v444), .bslc (BR.root 1) (.f32 v445)] : List DV).length) .undef) []).bind (retD TT Try.f82.results.toList 0) = (impl_dot_T v444 v445).bind fun y => .leaf (impl_dot_enc v444 v445 y) := by kernel_rfl
theorem impl_dot_fn (v444 : List Nat) (v445 : List Nat) (F : Fr) (hm : F.ids.length = 0) (h0 : St F [] F.H0) (hA : DVs.Ok F [] [.bslc (BR.root 0) (.f32 v444), .bslc (BR.root 1) (.f32 v445)]) {y : Nat} (hy : impl_dot_g v444 v445 = some y) : ∃ H', FnOk Try.prog 82 (DVs.av F [.bslc (BR.root 0) (.f32 v444), .bslc (BR.root 1) (.f32 v445)]) F.H0 ((impl_dot_enc v444 v445 y).1.av F) H' ∧ St F (impl_dot_enc v444 v445 y).2 H' ∧ (impl_dot_enc v444 v445 y).1.Ok F (impl_dot_enc v444 v445 y).2 :=
  fn_fin tok impl_dot_hO mixed Try.func82 Try.call82 (by kernel_rfl) (LoopsOk_eq (l := [(0, bodyOf Try.f82 0)]) (by kernel_rfl) ⟨impl_dot_l0_ok v444 v445, trivial⟩) (impl_dot_den v444 v445) hy hm h0 hA
noncomputable def impl_dot_F : DFn := fun args L =>
  match args with
  | [a1, a2] =>
    optT (rowF32 L a1) fun v444 =>
    optT (rowF32 L a2) fun v445 =>
    .call (impl_dot_g v444 v445) fun y => .leaf (.flt .f32 y, L)
  | _ => .fail
theorem impl_dot_Fok : COk Try.prog 82 impl_dot_F true := by
  intro F L H args r L' hs ha hr
  unfold impl_dot_F at hr
  split at hr
  · rename_i a1 a2
    obtain ⟨v444, hv444, hr⟩ := optT_run hr
    obtain ⟨v445, hv445, hr⟩ := optT_run hr
    simp only [Tree.run] at hr
    obtain ⟨y, hy, hr⟩ := Option.bind_eq_some_iff.1 hr
    simp only [Tree.run, Option.some.injEq, Prod.mk.injEq] at hr
    obtain ⟨rfl, rfl⟩ := hr
    exact call_ok0 hs (fun k => (([a1.av F, a2.av F] : List AV)[k]?).getD .top) [a1, a2] [.bslc (BR.root 0) (.f32 v444), .bslc (BR.root 1) (.f32 v445)] (fun F' h0 hi hρ => ⟨by simp [DVs.av, DV.av, BR.av, hρ], impl_dot_fn v444 v445 F' (by rw [hi]; rfl) (st_nil hi) ⟨bslc_ok hi (by rw [h0, hρ]; exact rowF32_ok hs (DVs.okAt ha 0 rfl) hv444), bslc_ok hi (by rw [h0, hρ]; exact rowF32_ok hs (DVs.okAt ha 1 rfl) hv445), trivial⟩ hy⟩) rfl
  · cases hr
/-! impl.MulBlocks$1 -/
noncomputable def impl_MulBlocks_1_l0_T (v406 : Int) (v409 : Int) (v410 : List Nat) (v414 : Int) (v462 : List Nat) (s : Nat × Int) : Tree ((Nat × Int) ⊕ (Nat)) :=
  (.br (decide (s.2 < v409)) (
   (.grd (sok s.2 (imin v409 (IntKind.i64.wrap (s.2 + v414))) ((([] : List Nat) ++ (AM.sub v410 (IntKind.i64.wrap (v406 * v409)) (IntKind.i64.wrap ((IntKind.i64.wrap (v406 + (1 : Int))) * v409)))).length)) <|
   (.grd (sok s.2 (imin v409 (IntKind.i64.wrap (s.2 + v414))) ((v462).length)) <|
   (.call (impl_dot_g (AM.sub (([] : List Nat) ++ (AM.sub v410 (IntKind.i64.wrap (v406 * v409)) (IntKind.i64.wrap ((IntKind.i64.wrap (v406 + (1 : Int))) * v409)))) ((Int.toNat s.2 : Nat) : Int) (((Int.toNat s.2) + (Int.toNat (imin v409 (IntKind.i64.wrap (s.2 + v414))) - Int.toNat s.2) : Nat) : Int)) (AM.sub v462 ((Int.toNat s.2 : Nat) : Int) (((Int.toNat s.2) + (Int.toNat (imin v409 (IntKind.i64.wrap (s.2 + v414))) - Int.toNat s.2) : Nat) : Int))) fun v463 =>
   .leaf (.inl (fadd .f32 s.1 v463, IntKind.i64.wrap (s.2 + v414))))))
  ) (
   .leaf (.inr s.1)
  ))

noncomputable def impl_MulBlocks_1_l0_g (v406 : Int) (v409 : Int) (v410 : List Nat) (v414 : Int) (v462 : List Nat) (s0 : Nat × Int) : Option (Nat) := whileM (fun s => (impl_MulBlocks_1_l0_T v406 v409 v410 v414 v462 s).run) s0
def impl_MulBlocks_1_l0_E (v406 : Int) (v407 : Int) (v408 : Int) (v409 : Int) (v410 : List Nat) (v411 : Int) (v412 : Int) (v413 : List Nat) (v414 : Int) (v462 : List Nat) (s : Nat × Int) : Sd := ([.top, .top, .bptr (BR.root 0) [.int .i64 v408, .int .i64 v409, .bslc (BR.root 1) (.f32 v410)], .top, .bptr (BR.root 4) [.int .i64 v414], .top, .top, .top, .own 0 0 ((([] : List Nat) ++ (AM.sub v410 (IntKind.i64.wrap (v406 * v409)) (IntKind.i64.wrap ((IntKind.i64.wrap (v406 + (1 : Int))) * v409)))).length), .own 1 0 ((v462).length), .flt .f32 s.1, .int .i64 s.2, .top, .top, .top, .top, .top, .top, .top, .top, .top, .top, .top, .top, .top, .top, .top, .top, .top, .top, .top, .top, .top, .top, .top, .top, .top, .top, .top, .top, .top, .top, .top, .top], [.row (.f32 (([] : List Nat) ++ (AM.sub v410 (IntKind.i64.wrap (v406 * v409)) (IntKind.i64.wrap ((IntKind.i64.wrap (v406 + (1 : Int))) * v409))))) 0, .row (.f32 v462) 0])
def impl_MulBlocks_1_l0_X (v406 : Int) (v407 : Int) (v408 : Int) (v409 : Int) (v410 : List Nat) (v411 : Int) (v412 : Int) (v413 : List Nat) (v414 : Int) (v462 : List Nat) (x : Nat) : Out := (.normal, [.top, .top, .top, .top, .top, .top, .top, .top, .top, .top, .flt .f32 x, .top, .top, .top, .top, .top, .top, .top, .top, .top, .top, .top, .top, .top, .top, .top, .top, .top, .top, .top, .top, .top, .top, .top, .top, .top, .top, .top, .top, .top, .top, .top, .top, .top], [])
def impl_MulBlocks_1_l0_kill : List Nat := [1, 1, 0, 1, 0, 1, 1, 1, 0, 0, 0, 0, 1, 1, 1, 1, 1, 1, 1, 1, 1, 1, 1, 1, 1, 1, 1, 1, 1, 1, 1, 1, 1, 1, 1, 1, 1, 1, 1, 1, 1, 1, 1, 1]
def impl_MulBlocks_1_l0_nx : Exit → List Nat
  | .exit 0 => [1, 1, 1, 1, 1, 1, 1, 1, 1, 1, 0, 1, 1, 1, 1, 1, 1, 1, 1, 1, 1, 1, 1, 1, 1, 1, 1, 1, 1, 1, 1, 1, 1, 1, 1, 1, 1, 1, 1, 1, 1, 1, 1, 1]
  | .ret => [1, 1, 1, 1, 1, 1, 1, 0, 1, 1, 1, 1, 1, 1, 1, 1, 1, 1, 1, 1, 1, 1, 1, 1, 1, 1, 1, 1, 1, 1, 1, 1, 1, 1, 1, 1, 1, 1, 1, 1, 1, 1, 1, 1]
  | _ => []
noncomputable def impl_MulBlocks_1_LO (v406 : Int) (v407 : Int) (v408 : Int) (v409 : Int) (v410 : List Nat) (v411 : Int) (v412 : Int) (v413 : List Nat) (v414 : Int) : LOr := fun id e L =>
  match id with
  | 0 => .need (normA 0 impl_MulBlocks_1_l0_kill e L = some (impl_MulBlocks_1_l0_E v406 v407 v408 v409 v410 v411 v412 v413 v414 (gRF L (vAt e 9)) ((gF (vAt e 10)), (gI (vAt e 11))))) (.call (impl_MulBlocks_1_l0_g v406 v409 v410 v414 (gRF L (vAt e 9)) ((gF (vAt e 10)), (gI (vAt e 11)))) fun x => .leaf (impl_MulBlocks_1_l0_X v406 v407 v408 v409 v410 v411 v412 v413 v414 (gRF L (vAt e 9)) x))
  | _ => .fail
noncomputable def impl_MulBlocks_1_tab : List (FuncId × DFn × Bool) := [(80, impl_Matrix_row_F, true), (81, impl_Matrix_column_F, true), (82, impl_dot_F, true)]
theorem impl_MulBlocks_1_hO : OrcOk Try.prog (tabD impl_MulBlocks_1_tab) (tabM impl_MulBlocks_1_tab) := tabD_cons impl_Matrix_row_Fok (tabD_cons impl_Matrix_column_Fok (tabD_cons impl_dot_Fok (tabD_nil _)))
theorem impl_MulBlocks_1_l0_be (v406 : Int) (v407 : Int) (v408 : Int) (v409 : Int) (v410 : List Nat) (v411 : Int) (v412 : Int) (v413 : List Nat) (v414 : Int) (v462 : List Nat) (s : Nat × Int) : bodyT TT (tabD impl_MulBlocks_1_tab) (tabM impl_MulBlocks_1_tab) (impl_MulBlocks_1_LO v406 v407 v408 v409 v410 v411 v412 v413 v414) 0 impl_MulBlocks_1_l0_kill impl_MulBlocks_1_l0_nx (bodyOf Try.f79 0) 0 (impl_MulBlocks_1_l0_E v406 v407 v408 v409 v410 v411 v412 v413 v414 v462 s) = (impl_MulBlocks_1_l0_T v406 v409 v410 v414 v462 s).bind fun y => .leaf (outS (impl_MulBlocks_1_l0_E v406 v407 v408 v409 v410 v411 v412 v413 v414 v462) (impl_MulBlocks_1_l0_X v406 v407 v408 v409 v410 v411 v412 v413 v414 v462) y) := by kernel_rfl
theorem impl_MulBlocks_1_l0_ok (v406 : Int) (v407 : Int) (v408 : Int) (v409 : Int) (v410 : List Nat) (v411 : Int) (v412 : Int) (v413 : List Nat) (v414 : Int) : LSound Try.prog 0 (impl_MulBlocks_1_LO v406 v407 v408 v409 v410 v411 v412 v413 v414) 0 (bodyOf Try.f79 0) := by
  intro e L out h
  exact lo_ok (E := impl_MulBlocks_1_l0_E v406 v407 v408 v409 v410 v411 v412 v413 v414 (gRF L (vAt e 9))) (gT := impl_MulBlocks_1_l0_T v406 v409 v410 v414 (gRF L (vAt e 9))) (X := impl_MulBlocks_1_l0_X v406 v407 v408 v409 v410 v411 v412 v413 v414 (gRF L (vAt e 9))) (s0 := ((gF (vAt e 10)), (gI (vAt e 11)))) tok impl_MulBlocks_1_hO mixed (LoopsOk_eq (l := []) (by kernel_rfl) trivial) (impl_MulBlocks_1_l0_be v406 v407 v408 v409 v410 v411 v412 v413 v414 (gRF L (vAt e 9))) rfl (by intro x; rfl) h
noncomputable def impl_MulBlocks_1_T (v406 : Int) (v407 : Int) (v408 : Int) (v409 : Int) (v410 : List Nat) (v411 : Int) (v412 : Int) (v413 : List Nat) (v414 : Int) : Tree (Nat) :=
  (.call (impl_Matrix_row_g v409 v410 v406) fun v421 =>
  (.call (impl_Matrix_column_g v411 v412 v413 v407) fun v440 =>
  (.need (some (impl_MulBlocks_1_l0_E v406 v407 v408 v409 v410 v411 v412 v413 v414 v440 ((0 : Nat), (0 : Int))) = some (impl_MulBlocks_1_l0_E v406 v407 v408 v409 v410 v411 v412 v413 v414 v440 ((0 : Nat), (0 : Int)))) <|
  (.call (impl_MulBlocks_1_l0_g v406 v409 v410 v414 v440 ((0 : Nat), (0 : Int))) fun v464 =>
  .leaf v464))))

noncomputable def impl_MulBlocks_1_g (v406 : Int) (v407 : Int) (v408 : Int) (v409 : Int) (v410 : List Nat) (v411 : Int) (v412 : Int) (v413 : List Nat) (v414 : Int) : Option (Nat) := (impl_MulBlocks_1_T v406 v407 v408 v409 v410 v411 v412 v413 v414).run
def impl_MulBlocks_1_enc (v406 : Int) (v407 : Int) (v408 : Int) (v409 : Int) (v410 : List Nat) (v411 : Int) (v412 : Int) (v413 : List Nat) (v414 : Int) (y : Nat) : Rs := (.flt .f32 y, [])
theorem impl_MulBlocks_1_den (v406 : Int) (v407 : Int) (v408 : Int) (v409 : Int) (v410 : List Nat) (v411 : Int) (v412 : Int) (v413 : List Nat) (v414 : Int) : (den TT (tabD impl_MulBlocks_1_tab) (tabM impl_MulBlocks_1_tab) (impl_MulBlocks_1_LO v406 v407 v408 v409 v410 v411 v412 v413 v414) (codeOf Try.f79) ([.int .i64 v406, .int .i64 v407, .bptr (BR.root 0) [.int .i64 v408, .int .i64 v409, .bslc (BR.root 1) (.f32 v410)], .bptr (BR.root 2) [.int .i64 v411, .int .i64 v412, .bslc (BR.root 3) (.f32 v413)], .bptr (BR.root 4) [.int .i64 v414]] ++ List.replicate (Try.f79.ntmps - ([.int .i64 v406, .int .i64 v407, .bptr (BR.root 0) [.int .i64 v408, .int .i64 v409, .bslc (BR.root 1) (.f32 v410)], .bptr (BR.root 2) [.int .i64 v411, .int .i64 v412, .bslc (BR.root 3) (.f32 v413)], .bptr (BR.root 4) [.int .i64 v414]] : List DV).length) .undef) []).bind (retD TT Try.f79.results.toList 0) = (impl_MulBlocks_1_T v406 v407 v408 v409 v410 v411 v412 v413 v414).bind fun y => .leaf (impl_MulBlocks_1_enc v406 v407 v408 v409 v410 v411 v412 v413 v414 y) := by kernel_rfl
theorem impl_MulBlocks_1_fn (v406 : Int) (v407 : Int) (v408 : Int) (v409 : Int) (v410 : List Nat) (v411 : Int) (v412 : Int) (v413 : List Nat) (v414 : Int) (F : Fr) (hm : F.ids.length = 0) (h0 : St F [] F.H0) (hA : DVs.Ok F [] [.int .i64 v406, .int .i64 v407, .bptr (BR.root 0) [.int .i64 v408, .int .i64 v409, .bslc (BR.root 1) (.f32 v410)], .bptr (BR.root 2) [.int .i64 v411, .int .i64 v412, .bslc (BR.root 3) (.f32 v413)], .bptr (BR.root 4) [.int .i64 v414]]) {y : Nat} (hy : impl_MulBlocks_1_g v406 v407 v408 v409 v410 v411 v412 v413 v414 = some y) : ∃ H', FnOk Try.prog 79 (DVs.av F [.int .i64 v406, .int .i64 v407, .bptr (BR.root 0) [.int .i64 v408, .int .i64 v409, .bslc (BR.root 1) (.f32 v410)], .bptr (BR.root 2) [.int .i64 v411, .int .i64 v412, .bslc (BR.root 3) (.f32 v413)], .bptr (BR.root 4) [.int .i64 v414]]) F.H0 ((impl_MulBlocks_1_enc v406 v407 v408 v409 v410 v411 v412 v413 v414 y).1.av F) H' ∧ St F (impl_MulBlocks_1_enc v406 v407 v408 v409 v410 v411 v412 v413 v414 y).2 H' ∧ (impl_MulBlocks_1_enc v406 v407 v408 v409 v410 v411 v412 v413 v414 y).1.Ok F (impl_MulBlocks_1_enc v406 v407 v408 v409 v410 v411 v412 v413 v414 y).2 :=
  fn_fin tok impl_MulBlocks_1_hO mixed Try.func79 Try.call79 (by kernel_rfl) (LoopsOk_eq (l := [(0, bodyOf Try.f79 0)]) (by kernel_rfl) ⟨impl_MulBlocks_1_l0_ok v406 v407 v408 v409 v410 v411 v412 v413 v414, trivial⟩) (impl_MulBlocks_1_den v406 v407 v408 v409 v410 v411 v412 v413 v414) hy hm h0 hA
noncomputable def impl_MulBlocks_1_F : DFn := fun args L =>
  match args with
  | [.int .i64 v406, .int .i64 v407, a1, a3, a5] =>
    optT (cellsOf L 3 a1) fun cs0 =>
    (match cs0 with
    | [.int .i64 v408, .int .i64 v409, a2] =>
    optT (rowF32 L a2) fun v410 =>
    optT (cellsOf L 3 a3) fun cs2 =>
    (match cs2 with
    | [.int .i64 v411, .int .i64 v412, a4] =>
    optT (rowF32 L a4) fun v413 =>
    optT (cellsOf L 1 a5) fun cs4 =>
    (match cs4 with
    | [.int .i64 v414] =>
    .call (impl_MulBlocks_1_g v406 v407 v408 v409 v410 v411 v412 v413 v414) fun y => .leaf (.flt .f32 y, L)
    | _ => .fail)
    | _ => .fail)
    | _ => .fail)
  | _ => .fail
theorem impl_MulBlocks_1_Fok : COk Try.prog 79 impl_MulBlocks_1_F true := by
  intro F L H args r L' hs ha hr
  unfold impl_MulBlocks_1_F at hr
  split at hr
  · rename_i v406 v407 a1 a3 a5
    obtain ⟨cs0, hcp0, hr⟩ := optT_run hr
    split at hr
    · rename_i v408 v409 a2
      obtain ⟨v410, hv410, hr⟩ := optT_run hr
      obtain ⟨cs2, hcp2, hr⟩ := optT_run hr
      split at hr
      · rename_i v411 v412 a4
        obtain ⟨v413, hv413, hr⟩ := optT_run hr
        obtain ⟨cs4, hcp4, hr⟩ := optT_run hr
        split at hr
        · rename_i v414
          simp only [Tree.run] at hr
          obtain ⟨y, hy, hr⟩ := Option.bind_eq_some_iff.1 hr
          simp only [Tree.run, Option.some.injEq, Prod.mk.injEq] at hr
          obtain ⟨rfl, rfl⟩ := hr
          exact call_ok0 hs (fun k => (([a1.av F, a2.av F, a3.av F, a4.av F, a5.av F] : List AV)[k]?).getD .top) [.int .i64 v406, .int .i64 v407, a1, a3, a5] [.int .i64 v406, .int .i64 v407, .bptr (BR.root 0) [.int .i64 v408, .int .i64 v409, .bslc (BR.root 1) (.f32 v410)], .bptr (BR.root 2) [.int .i64 v411, .int .i64 v412, .bslc (BR.root 3) (.f32 v413)], .bptr (BR.root 4) [.int .i64 v414]] (fun F' h0 hi hρ => ⟨by simp [DVs.av, DV.av, BR.av, hρ], impl_MulBlocks_1_fn v406 v407 v408 v409 v410 v411 v412 v413 v414 F' (by rw [hi]; rfl) (st_nil hi) ⟨trivial, trivial, bptr_ok hi (by rw [h0]; simpa [DVs.av, DV.av, BR.av, hρ] using (cellsOf_ok hs (DVs.okAt ha 2 rfl) hcp0).1) ⟨trivial, trivial, bslc_ok hi (by rw [h0, hρ]; exact rowF32_ok hs (DVs.okAt (cellsOf_ok hs (DVs.okAt ha 2 rfl) hcp0).2 2 rfl) hv410), trivial⟩, bptr_ok hi (by rw [h0]; simpa [DVs.av, DV.av, BR.av, hρ] using (cellsOf_ok hs (DVs.okAt ha 3 rfl) hcp2).1) ⟨trivial, trivial, bslc_ok hi (by rw [h0, hρ]; exact rowF32_ok hs (DVs.okAt (cellsOf_ok hs (DVs.okAt ha 3 rfl) hcp2).2 2 rfl) hv413), trivial⟩, bptr_ok hi (by rw [h0]; simpa [DVs.av, DV.av, BR.av, hρ] using (cellsOf_ok hs (DVs.okAt ha 4 rfl) hcp4).1) ⟨trivial, trivial⟩, trivial⟩ hy⟩) rfl
        · cases hr
      · cases hr
    · cases hr
  · cases hr
/-! (impl.Matrix).set -/
noncomputable def impl_Matrix_set_LO (v472 : Int) (v473 : Int) (v474 : List Nat) (v475 : Int) (v476 : Int) (v477 : Nat) : LOr := fun id e L =>
  match id with
  | _ => .fail
noncomputable def impl_Matrix_set_tab : List (FuncId × DFn × Bool) := []
theorem impl_Matrix_set_hO : OrcOk Try.prog (tabD impl_Matrix_set_tab) (tabM impl_Matrix_set_tab) := tabD_nil _
noncomputable def impl_Matrix_set_T (v473 : Int) (v474 : List Nat) (v475 : Int) (v476 : Int) : Tree (Unit) :=
  (.grd (inb (IntKind.i64.wrap ((IntKind.i64.wrap (v475 * v473)) + v476)) v474.length) <|
  .leaf ())

noncomputable def impl_Matrix_set_g (v473 : Int) (v474 : List Nat) (v475 : Int) (v476 : Int) : Option (Unit) := (impl_Matrix_set_T v473 v474 v475 v476).run
def impl_Matrix_set_enc (v472 : Int) (v473 : Int) (v474 : List Nat) (v475 : Int) (v476 : Int) (v477 : Nat) (y : Unit) : Rs := (.tup [], [.row (.f32 (List.set v474 (Int.toNat (IntKind.i64.wrap ((IntKind.i64.wrap (v475 * v473)) + v476))) v477)) 0])
theorem impl_Matrix_set_den (v472 : Int) (v473 : Int) (v474 : List Nat) (v475 : Int) (v476 : Int) (v477 : Nat) : (den TT (tabD impl_Matrix_set_tab) (tabM impl_Matrix_set_tab) (impl_Matrix_set_LO v472 v473 v474 v475 v476 v477) (codeOf Try.f66) ([.agg [.int .i64 v472, .int .i64 v473, .own 0 0 v474.length], .int .i64 v475, .int .i64 v476, .flt .f32 v477] ++ List.replicate (Try.f66.ntmps - ([.agg [.int .i64 v472, .int .i64 v473, .own 0 0 v474.length], .int .i64 v475, .int .i64 v476, .flt .f32 v477] : List DV).length) .undef) [.row (.f32 v474) 0]).bind (retD TT Try.f66.results.toList 1) = (impl_Matrix_set_T v473 v474 v475 v476).bind fun y => .leaf (impl_Matrix_set_enc v472 v473 v474 v475 v476 v477 y) := by kernel_rfl
theorem impl_Matrix_set_fn (v472 : Int) (v473 : Int) (v474 : List Nat) (v475 : Int) (v476 : Int) (v477 : Nat) (F : Fr) (hm : F.ids.length = 1) (h0 : St F [.row (.f32 v474) 0] F.H0) (hA : DVs.Ok F [.row (.f32 v474) 0] [.agg [.int .i64 v472, .int .i64 v473, .own 0 0 v474.length], .int .i64 v475, .int .i64 v476, .flt .f32 v477]) {y : Unit} (hy : impl_Matrix_set_g v473 v474 v475 v476 = some y) : ∃ H', FnOk Try.prog 66 (DVs.av F [.agg [.int .i64 v472, .int .i64 v473, .own 0 0 v474.length], .int .i64 v475, .int .i64 v476, .flt .f32 v477]) F.H0 ((impl_Matrix_set_enc v472 v473 v474 v475 v476 v477 y).1.av F) H' ∧ St F (impl_Matrix_set_enc v472 v473 v474 v475 v476 v477 y).2 H' ∧ (impl_Matrix_set_enc v472 v473 v474 v475 v476 v477 y).1.Ok F (impl_Matrix_set_enc v472 v473 v474 v475 v476 v477 y).2 :=
  fn_fin tok impl_Matrix_set_hO mixed Try.func66 Try.call66 (by kernel_rfl) (LoopsOk_eq (l := []) (by kernel_rfl) trivial) (impl_Matrix_set_den v472 v473 v474 v475 v476 v477) hy hm h0 hA
noncomputable def impl_Matrix_set_F : DFn := fun args L =>
  match args with
  | [.agg [.int .i64 v472, .int .i64 v473, a1], .int .i64 v475, .int .i64 v476, .flt .f32 v477] =>
    optT (ownF32 L a1) fun qv474 =>
    (match sepB [qv474.1] [] with
    | true =>
    .call (impl_Matrix_set_g v473 qv474.2 v475 v476) fun y => .grd (decide ((List.set qv474.2 (Int.toNat (IntKind.i64.wrap ((IntKind.i64.wrap (v475 * v473)) + v476))) v477).length = qv474.2.length)) (.leaf (.tup [], setRows L ([qv474.1].zip [.f32 (List.set qv474.2 (Int.toNat (IntKind.i64.wrap ((IntKind.i64.wrap (v475 * v473)) + v476))) v477)])))
    | false => .fail)
  | _ => .fail
theorem impl_Matrix_set_Fok : COk Try.prog 66 impl_Matrix_set_F false := by
  intro F L H args r L' hs ha hr
  unfold impl_Matrix_set_F at hr
  split at hr
  · rename_i v472 v473 a1 v475 v476 v477
    obtain ⟨⟨jv474, v474⟩, hqv474, hr⟩ := optT_run hr
    simp only at hr
    split at hr
    · rename_i hsep
      obtain ⟨hnd, hsepv⟩ := sepB_spec hsep
      simp only [Tree.run] at hr
      obtain ⟨y, hy, hr⟩ := Option.bind_eq_some_iff.1 hr
      try simp only [Tree.run] at hr
      obtain ⟨hl0, hr⟩ := ite_run hr
      simp only [Option.some.injEq, Prod.mk.injEq] at hr
      obtain ⟨rfl, rfl⟩ := hr
      obtain ⟨hr0, hu0, ha0, hb0⟩ := (ownR_spec (DVs.okAt (DVs.okAt ha 0 rfl) 2 rfl) (ownF32_or hqv474))
      exact mut_ok hs (fun k => (([a1.av F] : List AV)[k]?).getD .top) [.agg [.int .i64 v472, .int .i64 v473, a1], .int .i64 v475, .int .i64 v476, .flt .f32 v477] [.agg [.int .i64 v472, .int .i64 v473, .own 0 0 v474.length], .int .i64 v475, .int .i64 v476, .flt .f32 v477] [jv474] [.f32 v474] [.f32 (List.set v474 (Int.toNat (IntKind.i64.wrap ((IntKind.i64.wrap (v475 * v473)) + v476))) v477)] hnd rfl rfl (fun i j q h1 h2 => by
          rcases i with _ | i
          · simp at h1 h2; subst h1; subst h2; exact hr0
          · simp at h1) (fun i q q' h1 h2 => by
          rcases i with _ | i
          · simp at h1 h2; subst h1; subst h2; exact of_decide_eq_true hl0
          · simp at h1) (fun j hj => by simp at hj; subst hj; simp [DVs.refs, DV.refs, hu0]) (fun F' h0 hi hρ hst hS => ⟨by (have ab0 : F'.abs 0 = F.abs jv474 := (by simp [Fr.abs, hi]); simp [DVs.av, DV.av, BR.av, hρ, Row.len, ha0, ab0]), by
          obtain ⟨H1, k1, k2, _⟩ := impl_Matrix_set_fn v472 v473 v474 v475 v476 v477 F' (by rw [hi]; rfl) hst ⟨⟨trivial, trivial, ⟨_, rfl, Nat.le_refl _, Nat.le_refl _, fun _ => rfl, (ownR_spec (DVs.okAt (DVs.okAt ha 0 rfl) 2 rfl) (ownF32_or hqv474)).2.2.2⟩, trivial⟩, trivial, trivial, trivial, trivial⟩ hy
          exact ⟨H1, k1, k2⟩⟩) (fun F' => rfl) (fun L' => trivial)
    · cases hr
  · cases hr
/-! impl.made -/
noncomputable def impl_made_l2_T (v388 : Int) (v389 : Int) (v390 : Int) (v391 : List Nat) (v392 : Int) (v393 : Int) (v394 : List Nat) (v395 : Int) (v538 : Int) (v540 : Int) (v541 : Int) (s : Int × (List Nat)) : Tree ((Int × (List Nat)) ⊕ ((List Nat))) :=
  (.br (decide (s.1 < v388)) (
   (.call (impl_MulBlocks_1_g v538 s.1 v389 v390 v391 v392 v393 v394 v395) fun v543 =>
   (.call (impl_Matrix_set_g v541 s.2 v538 s.1) fun v544 =>
   (.grd (decide ((List.set s.2 (Int.toNat (IntKind.i64.wrap ((IntKind.i64.wrap (v538 * v541)) + s.1))) v543).length = s.2.length)) <|
   .leaf (.inl (IntKind.i64.wrap (s.1 + (1 : Int)), List.set s.2 (Int.toNat (IntKind.i64.wrap ((IntKind.i64.wrap (v538 * v541)) + s.1))) v543)))))
  ) (
   .leaf (.inr s.2)
  ))

noncomputable def impl_made_l2_g (v388 : Int) (v389 : Int) (v390 : Int) (v391 : List Nat) (v392 : Int) (v393 : Int) (v394 : List Nat) (v395 : Int) (v538 : Int) (v540 : Int) (v541 : Int) (s0 : Int × (List Nat)) : Option ((List Nat)) := whileM (fun s => (impl_made_l2_T v388 v389 v390 v391 v392 v393 v394 v395 v538 v540 v541 s).run) s0
def impl_made_l2_E (v387 : Int) (v388 : Int) (v389 : Int) (v390 : Int) (v391 : List Nat) (v392 : Int) (v393 : Int) (v394 : List Nat) (v395 : Int) (v538 : Int) (v540 : Int) (v541 : Int) (s : Int × (List Nat)) : Sd := ([.top, .int .i64 v388, .fn 79 [.bptr (BR.root 0) [.int .i64 v389, .int .i64 v390, .bslc (BR.root 1) (.f32 v391)], .bptr (BR.root 2) [.int .i64 v392, .int .i64 v393, .bslc (BR.root 3) (.f32 v394)], .bptr (BR.root 4) [.int .i64 v395]], .top, .top, .top, .ptr 0 (0 : Nat) 0 (3 : Nat), .ptr 1 (0 : Nat) 0 (3 : Nat), .int .i64 v538, .top, .top, .top, .top, .int .i64 v387, .int .i64 v538, .top, .top, .int .i64 v388, .int .i64 s.1, .top, .top, .top, .top, .top, .top, .top, .top, .top, .top, .top, .top, .top], [.gen [.int .i64 (0 : Int), .int .i64 (0 : Int), .nilslc] false 0, .gen [.int .i64 v540, .int .i64 v541, .own 2 0 ((s.2).length)] false 0, .row (.f32 s.2) 0])
def impl_made_l2_X (v387 : Int) (v388 : Int) (v389 : Int) (v390 : Int) (v391 : List Nat) (v392 : Int) (v393 : Int) (v394 : List Nat) (v395 : Int) (v538 : Int) (v540 : Int) (v541 : Int) (x : (List Nat)) : Out := (.normal, [.top, .int .i64 v388, .fn 79 [.bptr (BR.root 0) [.int .i64 v389, .int .i64 v390, .bslc (BR.root 1) (.f32 v391)], .bptr (BR.root 2) [.int .i64 v392, .int .i64 v393, .bslc (BR.root 3) (.f32 v394)], .bptr (BR.root 4) [.int .i64 v395]], .top, .top, .top, .ptr 0 (0 : Nat) 0 (3 : Nat), .ptr 1 (0 : Nat) 0 (3 : Nat), .top, .top, .top, .top, .top, .int .i64 v387, .int .i64 v538, .top, .top, .top, .top, .top, .top, .top, .top, .top, .top, .top, .top, .top, .top, .top, .top, .top], [.gen [.int .i64 (0 : Int), .int .i64 (0 : Int), .nilslc] false 0, .gen [.int .i64 v540, .int .i64 v541, .own 2 0 ((x).length)] false 0, .row (.f32 x) 0])
def impl_made_l2_kill : List Nat := [1, 0, 0, 1, 1, 1, 0, 0, 0, 1, 1, 1, 1, 0, 0, 1, 1, 0, 0, 1, 1, 1, 1, 1, 1, 1, 1, 1, 1, 1, 1, 1]
def impl_made_l2_nx : Exit → List Nat
  | .exit 0 => [1, 1, 1, 1, 1, 1, 0, 0, 1, 1, 1, 1, 1, 1, 1, 1, 1, 1, 1, 1, 1, 1, 1, 1, 1, 1, 1, 1, 1, 1, 1, 1]
  | .exit 1 => [1, 0, 0, 1, 1, 1, 0, 0, 1, 1, 1, 1, 1, 0, 0, 1, 1, 1, 1, 1, 1, 1, 1, 1, 1, 1, 1, 1, 1, 1, 1, 1]
  | .exit 2 => [1, 0, 0, 1, 1, 1, 0, 0, 1, 1, 1, 1, 1, 0, 0, 1, 1, 1, 1, 1, 1, 1, 1, 1, 1, 1, 1, 1, 1, 1, 1, 1]
  | .ret => [1, 1, 1, 1, 1, 1, 0, 1, 1, 1, 1, 1, 1, 1, 1, 1, 1, 1, 1, 1, 1, 1, 1, 1, 1, 1, 1, 1, 1, 1, 1, 1]
  | _ => []
noncomputable def impl_made_l0_T (v387 : Int) (v388 : Int) (v389 : Int) (v390 : Int) (v391 : List Nat) (v392 : Int) (v393 : Int) (v394 : List Nat) (v395 : Int) (v521 : Int) (v522 : Int) (s : Int × (List Nat)) : Tree ((Int × (List Nat)) ⊕ ((List Nat))) :=
  (.br (decide (s.1 < v387)) (
   (.need (some (impl_made_l2_E v387 v388 v389 v390 v391 v392 v393 v394 v395 s.1 v521 v522 ((0 : Int), s.2)) = some (impl_made_l2_E v387 v388 v389 v390 v391 v392 v393 v394 v395 s.1 v521 v522 ((0 : Int), s.2))) <|
   (.call (impl_made_l2_g v388 v389 v390 v391 v392 v393 v394 v395 s.1 v521 v522 ((0 : Int), s.2)) fun v545 =>
   .leaf (.inl (IntKind.i64.wrap (s.1 + (1 : Int)), v545))))
  ) (
   .leaf (.inr s.2)
  ))

noncomputable def impl_made_l0_g (v387 : Int) (v388 : Int) (v389 : Int) (v390 : Int) (v391 : List Nat) (v392 : Int) (v393 : Int) (v394 : List Nat) (v395 : Int) (v521 : Int) (v522 : Int) (s0 : Int × (List Nat)) : Option ((List Nat)) := whileM (fun s => (impl_made_l0_T v387 v388 v389 v390 v391 v392 v393 v394 v395 v521 v522 s).run) s0
def impl_made_l0_E (v387 : Int) (v388 : Int) (v389 : Int) (v390 : Int) (v391 : List Nat) (v392 : Int) (v393 : Int) (v394 : List Nat) (v395 : Int) (v521 : Int) (v522 : Int) (s : Int × (List Nat)) : Sd := ([.top, .int .i64 v388, .fn 79 [.bptr (BR.root 0) [.int .i64 v389, .int .i64 v390, .bslc (BR.root 1) (.f32 v391)], .bptr (BR.root 2) [.int .i64 v392, .int .i64 v393, .bslc (BR.root 3) (.f32 v394)], .bptr (BR.root 4) [.int .i64 v395]], .top, .top, .top, .ptr 0 (0 : Nat) 0 (3 : Nat), .ptr 1 (0 : Nat) 0 (3 : Nat), .top, .top, .top, .top, .top, .int .i64 v387, .int .i64 s.1, .top, .top, .top, .top, .top, .top, .top, .top, .top, .top, .top, .top, .top, .top, .top, .top, .top], [.gen [.int .i64 (0 : Int), .int .i64 (0 : Int), .nilslc] false 0, .gen [.int .i64 v521, .int .i64 v522, .own 2 0 ((s.2).length)] false 0, .row (.f32 s.2) 0])
def impl_made_l0_X (v387 : Int) (v388 : Int) (v389 : Int) (v390 : Int) (v391 : List Nat) (v392 : Int) (v393 : Int) (v394 : List Nat) (v395 : Int) (v521 : Int) (v522 : Int) (x : (List Nat)) : Out := (.normal, [.top, .top, .top, .top, .top, .top, .ptr 0 (0 : Nat) 0 (3 : Nat), .ptr 1 (0 : Nat) 0 (3 : Nat), .top, .top, .top, .top, .top, .top, .top, .top, .top, .top, .top, .top, .top, .top, .top, .top, .top, .top, .top, .top, .top, .top, .top, .top], [.gen [.int .i64 (0 : Int), .int .i64 (0 : Int), .nilslc] false 0, .gen [.int .i64 v521, .int .i64 v522, .own 2 0 ((x).length)] false 0, .row (.f32 x) 0])
def impl_made_l0_kill : List Nat := [1, 0, 0, 1, 1, 1, 0, 0, 1, 1, 1, 1, 1, 0, 0, 1, 1, 1, 1, 1, 1, 1, 1, 1, 1, 1, 1, 1, 1, 1, 1, 1]
def impl_made_l0_nx : Exit → List Nat
  | .exit 0 => [1, 1, 1, 1, 1, 1, 0, 0, 1, 1, 1, 1, 1, 1, 1, 1, 1, 1, 1, 1, 1, 1, 1, 1, 1, 1, 1, 1, 1, 1, 1, 1]
  | .ret => [1, 1, 1, 1, 1, 1, 0, 1, 1, 1, 1, 1, 1, 1, 1, 1, 1, 1, 1, 1, 1, 1, 1, 1, 1, 1, 1, 1, 1, 1, 1, 1]
  | _ => []
noncomputable def impl_made_LO (v387 : Int) (v388 : Int) (v389 : Int) (v390 : Int) (v391 : List Nat) (v392 : Int) (v393 : Int) (v394 : List Nat) (v395 : Int) : LOr := fun id e L =>
  match id with
  | 2 => .need (normA 0 impl_made_l2_kill e L = some (impl_made_l2_E v387 v388 v389 v390 v391 v392 v393 v394 v395 (gI (vAt e 8)) (gI (cAt L (vAt e 7) 0)) (gI (cAt L (vAt e 7) 1)) ((gI (vAt e 18)), (gRF L (cAt L (vAt e 7) 2))))) (.call (impl_made_l2_g v388 v389 v390 v391 v392 v393 v394 v395 (gI (vAt e 8)) (gI (cAt L (vAt e 7) 0)) (gI (cAt L (vAt e 7) 1)) ((gI (vAt e 18)), (gRF L (cAt L (vAt e 7) 2)))) fun x => .leaf (impl_made_l2_X v387 v388 v389 v390 v391 v392 v393 v394 v395 (gI (vAt e 8)) (gI (cAt L (vAt e 7) 0)) (gI (cAt L (vAt e 7) 1)) x))
  | 0 => .need (normA 0 impl_made_l0_kill e L = some (impl_made_l0_E v387 v388 v389 v390 v391 v392 v393 v394 v395 (gI (cAt L (vAt e 7) 0)) (gI (cAt L (vAt e 7) 1)) ((gI (vAt e 14)), (gRF L (cAt L (vAt e 7) 2))))) (.call (impl_made_l0_g v387 v388 v389 v390 v391 v392 v393 v394 v395 (gI (cAt L (vAt e 7) 0)) (gI (cAt L (vAt e 7) 1)) ((gI (vAt e 14)), (gRF L (cAt L (vAt e 7) 2)))) fun x => .leaf (impl_made_l0_X v387 v388 v389 v390 v391 v392 v393 v394 v395 (gI (cAt L (vAt e 7) 0)) (gI (cAt L (vAt e 7) 1)) x))
  | _ => .fail
noncomputable def impl_made_tab : List (FuncId × DFn × Bool) := [(117, impl_newMatrix_F, true), (79, impl_MulBlocks_1_F, true), (66, impl_Matrix_set_F, false)]
theorem impl_made_hO : OrcOk Try.prog (tabD impl_made_tab) (tabM impl_made_tab) := tabD_cons impl_newMatrix_Fok (tabD_cons impl_MulBlocks_1_Fok (tabD_cons impl_Matrix_set_Fok (tabD_nil _)))
theorem impl_made_l2_be (v387 : Int) (v388 : Int) (v389 : Int) (v390 : Int) (v391 : List Nat) (v392 : Int) (v393 : Int) (v394 : List Nat) (v395 : Int) (v538 : Int) (v540 : Int) (v541 : Int) (s : Int × (List Nat)) : bodyT TT (tabD impl_made_tab) (tabM impl_made_tab) (impl_made_LO v387 v388 v389 v390 v391 v392 v393 v394 v395) 0 impl_made_l2_kill impl_made_l2_nx (bodyOf Try.f78 2) 2 (impl_made_l2_E v387 v388 v389 v390 v391 v392 v393 v394 v395 v538 v540 v541 s) = (impl_made_l2_T v388 v389 v390 v391 v392 v393 v394 v395 v538 v540 v541 s).bind fun y => .leaf (outS (impl_made_l2_E v387 v388 v389 v390 v391 v392 v393 v394 v395 v538 v540 v541) (impl_made_l2_X v387 v388 v389 v390 v391 v392 v393 v394 v395 v538 v540 v541) y) := by kernel_rfl
theorem impl_made_l2_ok (v387 : Int) (v388 : Int) (v389 : Int) (v390 : Int) (v391 : List Nat) (v392 : Int) (v393 : Int) (v394 : List Nat) (v395 : Int) : LSound Try.prog 0 (impl_made_LO v387 v388 v389 v390 v391 v392 v393 v394 v395) 2 (bodyOf Try.f78 2) := by
  intro e L out h
  exact lo_ok (E := impl_made_l2_E v387 v388 v389 v390 v391 v392 v393 v394 v395 (gI (vAt e 8)) (gI (cAt L (vAt e 7) 0)) (gI (cAt L (vAt e 7) 1))) (gT := impl_made_l2_T v388 v389 v390 v391 v392 v393 v394 v395 (gI (vAt e 8)) (gI (cAt L (vAt e 7) 0)) (gI (cAt L (vAt e 7) 1))) (X := impl_made_l2_X v387 v388 v389 v390 v391 v392 v393 v394 v395 (gI (vAt e 8)) (gI (cAt L (vAt e 7) 0)) (gI (cAt L (vAt e 7) 1))) (s0 := ((gI (vAt e 18)), (gRF L (cAt L (vAt e 7) 2)))) tok impl_made_hO mixed (LoopsOk_eq (l := []) (by kernel_rfl) trivial) (impl_made_l2_be v387 v388 v389 v390 v391 v392 v393 v394 v395 (gI (vAt e 8)) (gI (cAt L (vAt e 7) 0)) (gI (cAt L (vAt e 7) 1))) rfl (by intro x; rfl) h
theorem impl_made_l0_be (v387 : Int) (v388 : Int) (v389 : Int) (v390 : Int) (v391 : List Nat) (v392 : Int) (v393 : Int) (v394 : List Nat) (v395 : Int) (v521 : Int) (v522 : Int) (s : Int × (List Nat)) : bodyT TT (tabD impl_made_tab) (tabM impl_made_tab) (impl_made_LO v387 v388 v389 v390 v391 v392 v393 v394 v395) 0 impl_made_l0_kill impl_made_l0_nx (bodyOf Try.f78 0) 0 (impl_made_l0_E v387 v388 v389 v390 v391 v392 v393 v394 v395 v521 v522 s) = (impl_made_l0_T v387 v388 v389 v390 v391 v392 v393 v394 v395 v521 v522 s).bind fun y => .leaf (outS (impl_made_l0_E v387 v388 v389 v390 v391 v392 v393 v394 v395 v521 v522) (impl_made_l0_X v387 v388 v389 v390 v391 v392 v393 v394 v395 v521 v522) y) := by kernel_rfl
theorem impl_made_l0_ok (v387 : Int) (v388 : Int) (v389 : Int) (v390 : Int) (v391 : List Nat) (v392 : Int) (v393 : Int) (v394 : List Nat) (v395 : Int) : LSound Try.prog 0 (impl_made_LO v387 v388 v389 v390 v391 v392 v393 v394 v395) 0 (bodyOf Try.f78 0) := by
  intro e L out h
  exact lo_ok (E := impl_made_l0_E v387 v388 v389 v390 v391 v392 v393 v394 v395 (gI (cAt L (vAt e 7) 0)) (gI (cAt L (vAt e 7) 1))) (gT := impl_made_l0_T v387 v388 v389 v390 v391 v392 v393 v394 v395 (gI (cAt L (vAt e 7) 0)) (gI (cAt L (vAt e 7) 1))) (X := impl_made_l0_X v387 v388 v389 v390 v391 v392 v393 v394 v395 (gI (cAt L (vAt e 7) 0)) (gI (cAt L (vAt e 7) 1))) (s0 := ((gI (vAt e 14)), (gRF L (cAt L (vAt e 7) 2)))) tok impl_made_hO mixed (LoopsOk_eq (l := [(2, bodyOf Try.f78 2)]) (by kernel_rfl) ⟨impl_made_l2_ok v387 v388 v389 v390 v391 v392 v393 v394 v395, trivial⟩) (impl_made_l0_be v387 v388 v389 v390 v391 v392 v393 v394 v395 (gI (cAt L (vAt e 7) 0)) (gI (cAt L (vAt e 7) 1))) rfl (by intro x; rfl) h
noncomputable def impl_made_T (v387 : Int) (v388 : Int) (v389 : Int) (v390 : Int) (v391 : List Nat) (v392 : Int) (v393 : Int) (v394 : List Nat) (v395 : Int) : Tree (Int × Int × (List Nat)) :=
  (.call (impl_newMatrix_g v387 v388) fun v398 =>
  (.need (some (impl_made_l0_E v387 v388 v389 v390 v391 v392 v393 v394 v395 v398.1 v398.2 ((0 : Int), List.replicate (Int.toNat (IntKind.i64.wrap (v387 * v388))) (0 : Nat))) = some (impl_made_l0_E v387 v388 v389 v390 v391 v392 v393 v394 v395 v398.1 v398.2 ((0 : Int), List.replicate (Int.toNat (IntKind.i64.wrap (v387 * v388))) (0 : Nat)))) <|
  (.call (impl_made_l0_g v387 v388 v389 v390 v391 v392 v393 v394 v395 v398.1 v398.2 ((0 : Int), List.replicate (Int.toNat (IntKind.i64.wrap (v387 * v388))) (0 : Nat))) fun v546 =>
  .leaf (v398.1, v398.2, v546))))

noncomputable def impl_made_g (v387 : Int) (v388 : Int) (v389 : Int) (v390 : Int) (v391 : List Nat) (v392 : Int) (v393 : Int) (v394 : List Nat) (v395 : Int) : Option (Int × Int × (List Nat)) := (impl_made_T v387 v388 v389 v390 v391 v392 v393 v394 v395).run
def impl_made_enc (v387 : Int) (v388 : Int) (v389 : Int) (v390 : Int) (v391 : List Nat) (v392 : Int) (v393 : Int) (v394 : List Nat) (v395 : Int) (y : Int × Int × (List Nat)) : Rs := (.agg [.int .i64 y.1, .int .i64 y.2.1, .own 0 0 ((y.2.2).length)], [.row (.f32 y.2.2) 0])
theorem impl_made_den (v387 : Int) (v388 : Int) (v389 : Int) (v390 : Int) (v391 : List Nat) (v392 : Int) (v393 : Int) (v394 : List Nat) (v395 : Int) : (den TT (tabD impl_made_tab) (tabM impl_made_tab) (impl_made_LO v387 v388 v389 v390 v391 v392 v393 v394 v395) (codeOf Try.f78) ([.int .i64 v387, .int .i64 v388, .fn 79 [.bptr (BR.root 0) [.int .i64 v389, .int .i64 v390, .bslc (BR.root 1) (.f32 v391)], .bptr (BR.root 2) [.int .i64 v392, .int .i64 v393, .bslc (BR.root 3) (.f32 v394)], .bptr (BR.root 4) [.int .i64 v395]]] ++ List.replicate (Try.f78.ntmps - ([.int .i64 v387, .int .i64 v388, .fn 79 [.bptr (BR.root 0) [.int .i64 v389, .int .i64 v390, .bslc (BR.root 1) (.f32 v391)], .bptr (BR.root 2) [.int .i64 v392, .int .i64 v393, .bslc (BR.root 3) (.f32 v394)], .bptr (BR.root 4) [.int .i64 v395]]] : List DV).length) .undef) []).bind (retD TT Try.f78.results.toList 0) = (impl_made_T v387 v388 v389 v390 v391 v392 v393 v394 v395).bind fun y => .leaf (impl_made_enc v387 v388 v389 v390 v391 v392 v393 v394 v395 y) := by kernel_rfl
theorem impl_made_fn (v387 : Int) (v388 : Int) (v389 : Int) (v390 : Int) (v391 : List Nat) (v392 : Int) (v393 : Int) (v394 : List Nat) (v395 : Int) (F : Fr) (hm : F.ids.length = 0) (h0 : St F [] F.H0) (hA : DVs.Ok F [] [.int .i64 v387, .int .i64 v388, .fn 79 [.bptr (BR.root 0) [.int .i64 v389, .int .i64 v390, .bslc (BR.root 1) (.f32 v391)], .bptr (BR.root 2) [.int .i64 v392, .int .i64 v393, .bslc (BR.root 3) (.f32 v394)], .bptr (BR.root 4) [.int .i64 v395]]]) {y : Int × Int × (List Nat)} (hy : impl_made_g v387 v388 v389 v390 v391 v392 v393 v394 v395 = some y) : ∃ H', FnOk Try.prog 78 (DVs.av F [.int .i64 v387, .int .i64 v388, .fn 79 [.bptr (BR.root 0) [.int .i64 v389, .int .i64 v390, .bslc (BR.root 1) (.f32 v391)], .bptr (BR.root 2) [.int .i64 v392, .int .i64 v393, .bslc (BR.root 3) (.f32 v394)], .bptr (BR.root 4) [.int .i64 v395]]]) F.H0 ((impl_made_enc v387 v388 v389 v390 v391 v392 v393 v394 v395 y).1.av F) H' ∧ St F (impl_made_enc v387 v388 v389 v390 v391 v392 v393 v394 v395 y).2 H' ∧ (impl_made_enc v387 v388 v389 v390 v391 v392 v393 v394 v395 y).1.Ok F (impl_made_enc v387 v388 v389 v390 v391 v392 v393 v394 v395 y).2 :=
  fn_fin tok impl_made_hO mixed Try.func78 Try.call78 (by kernel_rfl) (LoopsOk_eq (l := [(0, bodyOf Try.f78 0)]) (by kernel_rfl) ⟨impl_made_l0_ok v387 v388 v389 v390 v391 v392 v393 v394 v395, trivial⟩) (impl_made_den v387 v388 v389 v390 v391 v392 v393 v394 v395) hy hm h0 hA
noncomputable def impl_made_F : DFn := fun args L =>
  match args with
  | [.int .i64 v387, .int .i64 v388, .fn 79 [a1, a3, a5]] =>
    optT (cellsOf L 3 a1) fun cs0 =>
    (match cs0 with
    | [.int .i64 v389, .int .i64 v390, a2] =>
    optT (rowF32 L a2) fun v391 =>
    optT (cellsOf L 3 a3) fun cs2 =>
    (match cs2 with
    | [.int .i64 v392, .int .i64 v393, a4] =>
    optT (rowF32 L a4) fun v394 =>
    optT (cellsOf L 1 a5) fun cs4 =>
    (match cs4 with
    | [.int .i64 v395] =>
    .call (impl_made_g v387 v388 v389 v390 v391 v392 v393 v394 v395) fun y => .leaf (.agg [.int .i64 y.1, .int .i64 y.2.1, .own (L.length + 0) 0 ((y.2.2).length)], L ++ [.row (.f32 y.2.2) 0])
    | _ => .fail)
    | _ => .fail)
    | _ => .fail)
  | _ => .fail
theorem impl_made_Fok : COk Try.prog 78 impl_made_F true := by
  intro F L H args r L' hs ha hr
  unfold impl_made_F at hr
  split at hr
  · rename_i v387 v388 a1 a3 a5
    obtain ⟨cs0, hcp0, hr⟩ := optT_run hr
    split at hr
    · rename_i v389 v390 a2
      obtain ⟨v391, hv391, hr⟩ := optT_run hr
      obtain ⟨cs2, hcp2, hr⟩ := optT_run hr
      split at hr
      · rename_i v392 v393 a4
        obtain ⟨v394, hv394, hr⟩ := optT_run hr
        obtain ⟨cs4, hcp4, hr⟩ := optT_run hr
        split at hr
        · rename_i v395
          simp only [Tree.run] at hr
          obtain ⟨y, hy, hr⟩ := Option.bind_eq_some_iff.1 hr
          simp only [Tree.run, Option.some.injEq, Prod.mk.injEq] at hr
          obtain ⟨rfl, rfl⟩ := hr
          exact call_ok1 hs (fun k => (([a1.av F, a2.av F, a3.av F, a4.av F, a5.av F] : List AV)[k]?).getD .top) [.int .i64 v387, .int .i64 v388, .fn 79 [a1, a3, a5]] [.int .i64 v387, .int .i64 v388, .fn 79 [.bptr (BR.root 0) [.int .i64 v389, .int .i64 v390, .bslc (BR.root 1) (.f32 v391)], .bptr (BR.root 2) [.int .i64 v392, .int .i64 v393, .bslc (BR.root 3) (.f32 v394)], .bptr (BR.root 4) [.int .i64 v395]]] (fun F' h0 hi hρ => ⟨by simp [DVs.av, DV.av, BR.av, hρ], impl_made_fn v387 v388 v389 v390 v391 v392 v393 v394 v395 F' (by rw [hi]; rfl) (st_nil hi) ⟨trivial, trivial, ⟨bptr_ok hi (by rw [h0]; simpa [DVs.av, DV.av, BR.av, hρ] using (cellsOf_ok hs (DVs.okAt (DVs.okAt ha 2 rfl) 0 rfl) hcp0).1) ⟨trivial, trivial, bslc_ok hi (by rw [h0, hρ]; exact rowF32_ok hs (DVs.okAt (cellsOf_ok hs (DVs.okAt (DVs.okAt ha 2 rfl) 0 rfl) hcp0).2 2 rfl) hv391), trivial⟩, bptr_ok hi (by rw [h0]; simpa [DVs.av, DV.av, BR.av, hρ] using (cellsOf_ok hs (DVs.okAt (DVs.okAt ha 2 rfl) 1 rfl) hcp2).1) ⟨trivial, trivial, bslc_ok hi (by rw [h0, hρ]; exact rowF32_ok hs (DVs.okAt (cellsOf_ok hs (DVs.okAt (DVs.okAt ha 2 rfl) 1 rfl) hcp2).2 2 rfl) hv394), trivial⟩, bptr_ok hi (by rw [h0]; simpa [DVs.av, DV.av, BR.av, hρ] using (cellsOf_ok hs (DVs.okAt (DVs.okAt ha 2 rfl) 2 rfl) hcp4).1) ⟨trivial, trivial⟩, trivial⟩, trivial⟩ hy⟩) rfl rfl
        · cases hr
      · cases hr
    · cases hr
  · cases hr
/-! (impl.Matrix).valid -/
noncomputable def impl_Matrix_valid_LO (v548 : Int) (v549 : Int) (v550 : List Nat) : LOr := fun id e L =>
  match id with
  | _ => .fail
noncomputable def impl_Matrix_valid_tab : List (FuncId × DFn × Bool) := [(67, impl_ValidMatrix_F, true)]
theorem impl_Matrix_valid_hO : OrcOk Try.prog (tabD impl_Matrix_valid_tab) (tabM impl_Matrix_valid_tab) := tabD_cons impl_ValidMatrix_Fok (tabD_nil _)
noncomputable def impl_Matrix_valid_T (v548 : Int) (v549 : Int) (v550 : List Nat) : Tree ((Unit) ⊕ (Int × Int)) :=
  (.call (impl_ValidMatrix_g v548 v549 v550) fun v551 =>
  (.br (!v551) (
   .leaf (.inl ())
  ) (
   .leaf (.inr (v548, v549))
  )))

noncomputable def impl_Matrix_valid_g (v548 : Int) (v549 : Int) (v550 : List Nat) : Option ((Unit) ⊕ (Int × Int)) := (impl_Matrix_valid_T v548 v549 v550).run
def impl_Matrix_valid_enc (v548 : Int) (v549 : Int) (v550 : List Nat) (y : (Unit) ⊕ (Int × Int)) : Rs := (match y with | .inl y => (.tup [.agg [.int .i64 (0 : Int), .int .i64 (0 : Int), .nilslc], .lit false], []) | .inr y => (.tup [.agg [.int .i64 y.1, .int .i64 y.2, .bslc (BR.root 0) (.f32 v550)], .lit true], []))
theorem impl_Matrix_valid_den (v548 : Int) (v549 : Int) (v550 : List Nat) : (den TT (tabD impl_Matrix_valid_tab) (tabM impl_Matrix_valid_tab) (impl_Matrix_valid_LO v548 v549 v550) (codeOf Try.f83) ([.agg [.int .i64 v548, .int .i64 v549, .bslc (BR.root 0) (.f32 v550)]] ++ List.replicate (Try.f83.ntmps - ([.agg [.int .i64 v548, .int .i64 v549, .bslc (BR.root 0) (.f32 v550)]] : List DV).length) .undef) []).bind (retD TT Try.f83.results.toList 0) = (impl_Matrix_valid_T v548 v549 v550).bind fun y => .leaf (impl_Matrix_valid_enc v548 v549 v550 y) := by kernel_rfl
theorem impl_Matrix_valid_fn (v548 : Int) (v549 : Int) (v550 : List Nat) (F : Fr) (hm : F.ids.length = 0) (h0 : St F [] F.H0) (hA : DVs.Ok F [] [.agg [.int .i64 v548, .int .i64 v549, .bslc (BR.root 0) (.f32 v550)]]) {y : (Unit) ⊕ (Int × Int)} (hy : impl_Matrix_valid_g v548 v549 v550 = some y) : ∃ H', FnOk Try.prog 83 (DVs.av F [.agg [.int .i64 v548, .int .i64 v549, .bslc (BR.root 0) (.f32 v550)]]) F.H0 ((impl_Matrix_valid_enc v548 v549 v550 y).1.av F) H' ∧ St F (impl_Matrix_valid_enc v548 v549 v550 y).2 H' ∧ (impl_Matrix_valid_enc v548 v549 v550 y).1.Ok F (impl_Matrix_valid_enc v548 v549 v550 y).2 :=
  fn_fin tok impl_Matrix_valid_hO mixed Try.func83 Try.call83 (by kernel_rfl) (LoopsOk_eq (l := []) (by kernel_rfl) trivial) (impl_Matrix_valid_den v548 v549 v550) hy hm h0 hA
noncomputable def impl_Matrix_valid_F : DFn := fun args L =>
  match args with
  | [.agg [.int .i64 v548, .int .i64 v549, a1]] =>
    optT (rowF32 L a1) fun v550 =>
    .call (impl_Matrix_valid_g v548 v549 v550) fun y => .sum y (fun y0 => .leaf (.tup [.agg [.int .i64 (0 : Int), .int .i64 (0 : Int), .nilslc], .lit false], L)) (fun z0 => .leaf (.tup [.agg [.int .i64 z0.1, .int .i64 z0.2, a1], .lit true], L))
  | _ => .fail
theorem impl_Matrix_valid_Fok : COk Try.prog 83 impl_Matrix_valid_F true := by
  intro F L H args r L' hs ha hr
  unfold impl_Matrix_valid_F at hr
  split at hr
  · rename_i v548 v549 a1
    obtain ⟨v550, hv550, hr⟩ := optT_run hr
    simp only [Tree.run] at hr
    obtain ⟨y, hy, hr⟩ := Option.bind_eq_some_iff.1 hr
    cases y with
    | inl y =>
      simp only [Tree.run, Option.some.injEq, Prod.mk.injEq] at hr
      obtain ⟨rfl, rfl⟩ := hr
      exact call_ok0 hs (fun k => (([a1.av F] : List AV)[k]?).getD .top) [.agg [.int .i64 v548, .int .i64 v549, a1]] [.agg [.int .i64 v548, .int .i64 v549, .bslc (BR.root 0) (.f32 v550)]] (fun F' h0 hi hρ => ⟨by simp [DVs.av, DV.av, BR.av, hρ], impl_Matrix_valid_fn v548 v549 v550 F' (by rw [hi]; rfl) (st_nil hi) ⟨⟨trivial, trivial, bslc_ok hi (by rw [h0, hρ]; exact rowF32_ok hs (DVs.okAt (DVs.okAt ha 0 rfl) 2 rfl) hv550), trivial⟩, trivial⟩ hy⟩) rfl
    | inr y =>
      simp only [Tree.run, Option.some.injEq, Prod.mk.injEq] at hr
      obtain ⟨rfl, rfl⟩ := hr
      exact call_al0 hs (fun k => (([a1.av F] : List AV)[k]?).getD .top) [.agg [.int .i64 v548, .int .i64 v549, a1]] [.agg [.int .i64 v548, .int .i64 v549, .bslc (BR.root 0) (.f32 v550)]] (fun F' h0 hi hρ => ⟨by simp [DVs.av, DV.av, BR.av, hρ], impl_Matrix_valid_fn v548 v549 v550 F' (by rw [hi]; rfl) (st_nil hi) ⟨⟨trivial, trivial, bslc_ok hi (by rw [h0, hρ]; exact rowF32_ok hs (DVs.okAt (DVs.okAt ha 0 rfl) 2 rfl) hv550), trivial⟩, trivial⟩ hy⟩) (fun F' h0 hi hρ => by simp [impl_Matrix_valid_enc, DVs.av, DV.av, BR.av, hρ]) ⟨⟨trivial, trivial, (DVs.okAt (DVs.okAt ha 0 rfl) 2 rfl), trivial⟩, trivial, trivial⟩
  · cases hr
/-! impl.MulBlocks -/
noncomputable def impl_MulBlocks_LO (v345 : Int) (v346 : Int) (v347 : List Nat) (v348 : Int) (v349 : Int) (v350 : List Nat) (v351 : Int) : LOr := fun id e L =>
  match id with
  | _ => .fail
noncomputable def impl_MulBlocks_tab : List (FuncId × DFn × Bool) := [(76, impl_areFactors_F, true), (77, impl_isSide_F, true), (78, impl_made_F, true), (83, impl_Matrix_valid_F, true)]
theorem impl_MulBlocks_hO : OrcOk Try.prog (tabD impl_MulBlocks_tab) (tabM impl_MulBlocks_tab) := tabD_cons impl_areFactors_Fok (tabD_cons impl_isSide_Fok (tabD_cons impl_made_Fok (tabD_cons impl_Matrix_valid_Fok (tabD_nil _))))
noncomputable def impl_MulBlocks_T (v345 : Int) (v346 : Int) (v347 : List Nat) (v348 : Int) (v349 : Int) (v350 : List Nat) (v351 : Int) : Tree ((Unit) ⊕ (Int × Int × (List Nat))) :=
  (.call (impl_areFactors_g v345 v346 v347 v348 v349 v350) fun v386 =>
  (.br (!v386) (
   .leaf (.inl ())
  ) (
   (.br (!(impl_isSide_v v351)) (
    .leaf (.inl ())
   ) (
    (.call (impl_made_g v345 v349 v345 v346 v347 v348 v349 v350 v351) fun v547 =>
    (.call (impl_Matrix_valid_g v547.1 v547.2.1 v547.2.2) fun v552 =>
    (.sum v552 (fun v553 =>
     .leaf (.inl ())
    ) (fun v554 =>
     .leaf (.inr (v554.1, v554.2, v547.2.2))
    ))))
   ))
  )))

noncomputable def impl_MulBlocks_g (v345 : Int) (v346 : Int) (v347 : List Nat) (v348 : Int) (v349 : Int) (v350 : List Nat) (v351 : Int) : Option ((Unit) ⊕ (Int × Int × (List Nat))) := (impl_MulBlocks_T v345 v346 v347 v348 v349 v350 v351).run
def impl_MulBlocks_enc (v345 : Int) (v346 : Int) (v347 : List Nat) (v348 : Int) (v349 : Int) (v350 : List Nat) (v351 : Int) (y : (Unit) ⊕ (Int × Int × (List Nat))) : Rs := (match y with | .inl y => (.tup [.agg [.int .i64 (0 : Int), .int .i64 (0 : Int), .nilslc], .lit false], []) | .inr y => (.tup [.agg [.int .i64 y.1, .int .i64 y.2.1, .own 0 0 ((y.2.2).length)], .lit true], [.row (.f32 y.2.2) 0]))
theorem impl_MulBlocks_den (v345 : Int) (v346 : Int) (v347 : List Nat) (v348 : Int) (v349 : Int) (v350 : List Nat) (v351 : Int) : (den TT (tabD impl_MulBlocks_tab) (tabM impl_MulBlocks_tab) (impl_MulBlocks_LO v345 v346 v347 v348 v349 v350 v351) (codeOf Try.f28) ([.agg [.int .i64 v345, .int .i64 v346, .bslc (BR.root 0) (.f32 v347)], .agg [.int .i64 v348, .int .i64 v349, .bslc (BR.root 1) (.f32 v350)], .int .i64 v351] ++ List.replicate (Try.f28.ntmps - ([.agg [.int .i64 v345, .int .i64 v346, .bslc (BR.root 0) (.f32 v347)], .agg [.int .i64 v348, .int .i64 v349, .bslc (BR.root 1) (.f32 v350)], .int .i64 v351] : List DV).length) .undef) []).bind (retD TT Try.f28.results.toList 0) = (impl_MulBlocks_T v345 v346 v347 v348 v349 v350 v351).bind fun y => .leaf (impl_MulBlocks_enc v345 v346 v347 v348 v349 v350 v351 y) := by kernel_rfl
theorem impl_MulBlocks_fn (v345 : Int) (v346 : Int) (v347 : List Nat) (v348 : Int) (v349 : Int) (v350 : List Nat) (v351 : Int) (F : Fr) (hm : F.ids.length = 0) (h0 : St F [] F.H0) (hA : DVs.Ok F [] [.agg [.int .i64 v345, .int .i64 v346, .bslc (BR.root 0) (.f32 v347)], .agg [.int .i64 v348, .int .i64 v349, .bslc (BR.root 1) (.f32 v350)], .int .i64 v351]) {y : (Unit) ⊕ (Int × Int × (List Nat))} (hy : impl_MulBlocks_g v345 v346 v347 v348 v349 v350 v351 = some y) : ∃ H', FnOk Try.prog 28 (DVs.av F [.agg [.int .i64 v345, .int .i64 v346, .bslc (BR.root 0) (.f32 v347)], .agg [.int .i64 v348, .int .i64 v349, .bslc (BR.root 1) (.f32 v350)], .int .i64 v351]) F.H0 ((impl_MulBlocks_enc v345 v346 v347 v348 v349 v350 v351 y).1.av F) H' ∧ St F (impl_MulBlocks_enc v345 v346 v347 v348 v349 v350 v351 y).2 H' ∧ (impl_MulBlocks_enc v345 v346 v347 v348 v349 v350 v351 y).1.Ok F (impl_MulBlocks_enc v345 v346 v347 v348 v349 v350 v351 y).2 :=
  fn_fin tok impl_MulBlocks_hO mixed Try.func28 Try.call28 (by kernel_rfl) (LoopsOk_eq (l := []) (by kernel_rfl) trivial) (impl_MulBlocks_den v345 v346 v347 v348 v349 v350 v351) hy hm h0 hA
noncomputable def impl_MulBlocks_F : DFn := fun args L =>
  match args with
  | [.agg [.int .i64 v345, .int .i64 v346, a1], .agg [.int .i64 v348, .int .i64 v349, a2], .int .i64 v351] =>
    optT (rowF32 L a1) fun v347 =>
    optT (rowF32 L a2) fun v350 =>
    .call (impl_MulBlocks_g v345 v346 v347 v348 v349 v350 v351) fun y => .sum y (fun y0 => .leaf (.tup [.agg [.int .i64 (0 : Int), .int .i64 (0 : Int), .nilslc], .lit false], L)) (fun z0 => .leaf (.tup [.agg [.int .i64 z0.1, .int .i64 z0.2.1, .own (L.length + 0) 0 ((z0.2.2).length)], .lit true], L ++ [.row (.f32 z0.2.2) 0]))
  | _ => .fail
theorem impl_MulBlocks_Fok : COk Try.prog 28 impl_MulBlocks_F true := by
  intro F L H args r L' hs ha hr
  unfold impl_MulBlocks_F at hr
  split at hr
  · rename_i v345 v346 a1 v348 v349 a2 v351
    obtain ⟨v347, hv347, hr⟩ := optT_run hr
    obtain ⟨v350, hv350, hr⟩ := optT_run hr
    simp only [Tree.run] at hr
    obtain ⟨y, hy, hr⟩ := Option.bind_eq_some_iff.1 hr
    cases y with
    | inl y =>
      simp only [Tree.run, Option.some.injEq, Prod.mk.injEq] at hr
      obtain ⟨rfl, rfl⟩ := hr
      exact call_ok0 hs (fun k => (([a1.av F, a2.av F] : List AV)[k]?).getD .top) [.agg [.int .i64 v345, .int .i64 v346, a1], .agg [.int .i64 v348, .int .i64 v349, a2], .int .i64 v351] [.agg [.int .i64 v345, .int .i64 v346, .bslc (BR.root 0) (.f32 v347)], .agg [.int .i64 v348, .int .i64 v349, .bslc (BR.root 1) (.f32 v350)], .int .i64 v351] (fun F' h0 hi hρ => ⟨by simp [DVs.av, DV.av, BR.av, hρ], impl_MulBlocks_fn v345 v346 v347 v348 v349 v350 v351 F' (by rw [hi]; rfl) (st_nil hi) ⟨⟨trivial, trivial, bslc_ok hi (by rw [h0, hρ]; exact rowF32_ok hs (DVs.okAt (DVs.okAt ha 0 rfl) 2 rfl) hv347), trivial⟩, ⟨trivial, trivial, bslc_ok hi (by rw [h0, hρ]; exact rowF32_ok hs (DVs.okAt (DVs.okAt ha 1 rfl) 2 rfl) hv350), trivial⟩, trivial, trivial⟩ hy⟩) rfl
    | inr y =>
      simp only [Tree.run, Option.some.injEq, Prod.mk.injEq] at hr
      obtain ⟨rfl, rfl⟩ := hr
      exact call_ok1 hs (fun k => (([a1.av F, a2.av F] : List AV)[k]?).getD .top) [.agg [.int .i64 v345, .int .i64 v346, a1], .agg [.int .i64 v348, .int .i64 v349, a2], .int .i64 v351] [.agg [.int .i64 v345, .int .i64 v346, .bslc (BR.root 0) (.f32 v347)], .agg [.int .i64 v348, .int .i64 v349, .bslc (BR.root 1) (.f32 v350)], .int .i64 v351] (fun F' h0 hi hρ => ⟨by simp [DVs.av, DV.av, BR.av, hρ], impl_MulBlocks_fn v345 v346 v347 v348 v349 v350 v351 F' (by rw [hi]; rfl) (st_nil hi) ⟨⟨trivial, trivial, bslc_ok hi (by rw [h0, hρ]; exact rowF32_ok hs (DVs.okAt (DVs.okAt ha 0 rfl) 2 rfl) hv347), trivial⟩, ⟨trivial, trivial, bslc_ok hi (by rw [h0, hρ]; exact rowF32_ok hs (DVs.okAt (DVs.okAt ha 1 rfl) 2 rfl) hv350), trivial⟩, trivial, trivial⟩ hy⟩) rfl rfl
  · cases hr
/-! laws.sameFloat -/
noncomputable def laws_sameFloat_LO (v567 : Nat) (v568 : Nat) : LOr := fun id e L =>
  match id with
  | _ => .fail
noncomputable def laws_sameFloat_tab : List (FuncId × DFn × Bool) := []
theorem laws_sameFloat_hO : OrcOk Try.prog (tabD laws_sameFloat_tab) (tabM laws_sameFloat_tab) := tabD_nil _
noncomputable def laws_sameFloat_T (v567 : Nat) (v568 : Nat) : Tree (Bool) :=
  (.br (!feq .f64 v567 v567) (
   (.br (!feq .f64 v567 v567) (
    .leaf (!feq .f64 v568 v568)
   ) (
    .leaf false
   ))
  ) (
   (.br (!feq .f64 v568 v568) (
    (.br (!feq .f64 v567 v567) (
     .leaf (!feq .f64 v568 v568)
    ) (
     .leaf false
    ))
   ) (
    (.br (feq .f64 v567 (0 : Nat)) (
     (.br (feq .f64 v568 (0 : Nat)) (
      .leaf ((fgrt .f64 (fdiv .f64 (4607182418800017408 : Nat) v567) (0 : Nat)) == (fgrt .f64 (fdiv .f64 (4607182418800017408 : Nat) v568) (0 : Nat)))
     ) (
      .leaf (feq .f64 v567 v568)
     ))
    ) (
     .leaf (feq .f64 v567 v568)
    ))
   ))
  ))

noncomputable def laws_sameFloat_g (v567 : Nat) (v568 : Nat) : Option (Bool) := (laws_sameFloat_T v567 v568).run
def laws_sameFloat_enc (v567 : Nat) (v568 : Nat) (y : Bool) : Rs := (.bool y, [])
theorem laws_sameFloat_den (v567 : Nat) (v568 : Nat) : (den TT (tabD laws_sameFloat_tab) (tabM laws_sameFloat_tab) (laws_sameFloat_LO v567 v568) (codeOf Try.f31) ([.flt .f64 v567, .flt .f64 v568] ++ List.replicate (Try.f31.ntmps - ([.flt .f64 v567, .flt .f64 v568] : List DV).length) .undef) []).bind (retD TT Try.f31.results.toList 0) = (laws_sameFloat_T v567 v568).bind fun y => .leaf (laws_sameFloat_enc v567 v568 y) := by kernel_rfl
theorem laws_sameFloat_fn (v567 : Nat) (v568 : Nat) (F : Fr) (hm : F.ids.length = 0) (h0 : St F [] F.H0) (hA : DVs.Ok F [] [.flt .f64 v567, .flt .f64 v568]) {y : Bool} (hy : laws_sameFloat_g v567 v568 = some y) : ∃ H', FnOk Try.prog 31 (DVs.av F [.flt .f64 v567, .flt .f64 v568]) F.H0 ((laws_sameFloat_enc v567 v568 y).1.av F) H' ∧ St F (laws_sameFloat_enc v567 v568 y).2 H' ∧ (laws_sameFloat_enc v567 v568 y).1.Ok F (laws_sameFloat_enc v567 v568 y).2 :=
  fn_fin tok laws_sameFloat_hO mixed Try.func31 Try.call31 (by kernel_rfl) (LoopsOk_eq (l := []) (by kernel_rfl) trivial) (laws_sameFloat_den v567 v568) hy hm h0 hA
def laws_sameFloat_v (v567 : Nat) (v568 : Nat) : Bool :=
  if (!feq .f64 v567 v567) = true then (
   if (!feq .f64 v567 v567) = true then (
    !feq .f64 v568 v568
   ) else (
    false
   )
  ) else (
   if (!feq .f64 v568 v568) = true then (
    if (!feq .f64 v567 v567) = true then (
     !feq .f64 v568 v568
    ) else (
     false
    )
   ) else (
    if (feq .f64 v567 (0 : Nat)) = true then (
     if (feq .f64 v568 (0 : Nat)) = true then (
      (fgrt .f64 (fdiv .f64 (4607182418800017408 : Nat) v567) (0 : Nat)) == (fgrt .f64 (fdiv .f64 (4607182418800017408 : Nat) v568) (0 : Nat))
     ) else (
      feq .f64 v567 v568
     )
    ) else (
     feq .f64 v567 v568
    )
   )
  )
theorem laws_sameFloat_tot (v567 : Nat) (v568 : Nat) : laws_sameFloat_g v567 v568 = some (laws_sameFloat_v v567 v568) := by
  unfold laws_sameFloat_g laws_sameFloat_T laws_sameFloat_v
  simp only [Tree.run]
  repeat' (first | rfl | split)
noncomputable def laws_sameFloat_F : DFn := fun args L =>
  match args with
  | [.flt .f64 v567, .flt .f64 v568] =>
    .leaf (.bool (laws_sameFloat_v v567 v568), L)
  | _ => .fail
theorem laws_sameFloat_Fok : COk Try.prog 31 laws_sameFloat_F true := by
  intro F L H args r L' hs ha hr
  unfold laws_sameFloat_F at hr
  split at hr
  · rename_i v567 v568
    have hy := laws_sameFloat_tot v567 v568
    generalize laws_sameFloat_v v567 v568 = y at hy hr
    simp only [Tree.run, Option.some.injEq, Prod.mk.injEq] at hr
    obtain ⟨rfl, rfl⟩ := hr
    exact call_ok0 hs (fun k => (([] : List AV)[k]?).getD .top) [.flt .f64 v567, .flt .f64 v568] [.flt .f64 v567, .flt .f64 v568] (fun F' h0 hi hρ => ⟨by simp [DVs.av, DV.av, BR.av, hρ], laws_sameFloat_fn v567 v568 F' (by rw [hi]; rfl) (st_nil hi) ⟨trivial, trivial, trivial⟩ hy⟩) rfl
  · cases hr
/-! laws.eqFloat32S -/
noncomputable def laws_eqFloat32S_l0_T (v564 : List Nat) (v565 : List Nat) (s : Int) : Tree ((Int) ⊕ ((Unit) ⊕ (Unit))) :=
  (.br (decide (s < ((v564.length : Nat) : Int))) (
   (.grd (inb s v564.length) <|
   (.grd (inb s v565.length) <|
   (.br (!(laws_sameFloat_v (wid (nth v564 (Int.toNat s))) (wid (nth v565 (Int.toNat s))))) (
    .leaf (.inr (.inl ()))
   ) (
    .leaf (.inl (IntKind.i64.wrap (s + (1 : Int))))
   ))))
  ) (
   .leaf (.inr (.inr ()))
  ))

noncomputable def laws_eqFloat32S_l0_g (v564 : List Nat) (v565 : List Nat) (s0 : Int) : Option ((Unit) ⊕ (Unit)) := whileM (fun s => (laws_eqFloat32S_l0_T v564 v565 s).run) s0
def laws_eqFloat32S_l0_E (v564 : List Nat) (v565 : List Nat) (s : Int) : Sd := ([.bslc (BR.root 0) (.f32 v564), .bslc (BR.root 1) (.f32 v565), .top, .top, .top, .int .i64 s, .top, .top, .top, .top, .top, .top, .top, .top, .top, .top, .top, .top, .top, .top, .top, .top, .top, .top, .top, .top, .top, .top, .top], [])
def laws_eqFloat32S_l0_X (v564 : List Nat) (v565 : List Nat) (x : (Unit) ⊕ (Unit)) : Out := (match x with | .inl x => (.ret, [.top, .top, .top, .top, .lit false, .top, .top, .top, .top, .top, .top, .top, .top, .top, .top, .top, .top, .top, .top, .top, .top, .top, .top, .top, .top, .top, .top, .top, .top], []) | .inr x => (.normal, [.top, .top, .top, .top, .top, .top, .top, .top, .top, .top, .top, .top, .top, .top, .top, .top, .top, .top, .top, .top, .top, .top, .top, .top, .top, .top, .top, .top, .top], []))
def laws_eqFloat32S_l0_kill : List Nat := [0, 0, 1, 1, 1, 0, 1, 1, 1, 1, 1, 1, 1, 1, 1, 1, 1, 1, 1, 1, 1, 1, 1, 1, 1, 1, 1, 1, 1]
def laws_eqFloat32S_l0_nx : Exit → List Nat
  | .exit 0 => [1, 1, 1, 1, 1, 1, 1, 1, 1, 1, 1, 1, 1, 1, 1, 1, 1, 1, 1, 1, 1, 1, 1, 1, 1, 1, 1, 1, 1]
  | .ret => [1, 1, 1, 1, 0, 1, 1, 1, 1, 1, 1, 1, 1, 1, 1, 1, 1, 1, 1, 1, 1, 1, 1, 1, 1, 1, 1, 1, 1]
  | _ => []
noncomputable def laws_eqFloat32S_LO (v564 : List Nat) (v565 : List Nat) : LOr := fun id e L =>
  match id with
  | 0 => .need (normA 0 laws_eqFloat32S_l0_kill e L = some (laws_eqFloat32S_l0_E v564 v565 (gI (vAt e 5)))) (.call (laws_eqFloat32S_l0_g v564 v565 (gI (vAt e 5))) fun x => .sum x (fun b0 => .leaf (laws_eqFloat32S_l0_X v564 v565 (.inl b0))) (fun c0 => .leaf (laws_eqFloat32S_l0_X v564 v565 (.inr c0))))
  | _ => .fail
noncomputable def laws_eqFloat32S_tab : List (FuncId × DFn × Bool) := [(31, laws_sameFloat_F, true)]
theorem laws_eqFloat32S_hO : OrcOk Try.prog (tabD laws_eqFloat32S_tab) (tabM laws_eqFloat32S_tab) := tabD_cons laws_sameFloat_Fok (tabD_nil _)
theorem laws_eqFloat32S_l0_be (v564 : List Nat) (v565 : List Nat) (s : Int) : bodyT TT (tabD laws_eqFloat32S_tab) (tabM laws_eqFloat32S_tab) (laws_eqFloat32S_LO v564 v565) 0 laws_eqFloat32S_l0_kill laws_eqFloat32S_l0_nx (bodyOf Try.f20 0) 0 (laws_eqFloat32S_l0_E v564 v565 s) = (laws_eqFloat32S_l0_T v564 v565 s).bind fun y => .leaf (outS (laws_eqFloat32S_l0_E v564 v565) (laws_eqFloat32S_l0_X v564 v565) y) := by kernel_rfl
theorem laws_eqFloat32S_l0_ok (v564 : List Nat) (v565 : List Nat) : LSound Try.prog 0 (laws_eqFloat32S_LO v564 v565) 0 (bodyOf Try.f20 0) := by
  intro e L out h
  exact lo_ok (E := laws_eqFloat32S_l0_E v564 v565) (gT := laws_eqFloat32S_l0_T v564 v565) (X := laws_eqFloat32S_l0_X v564 v565) (s0 := (gI (vAt e 5))) tok laws_eqFloat32S_hO mixed (LoopsOk_eq (l := []) (by kernel_rfl) trivial) (laws_eqFloat32S_l0_be v564 v565) rfl (by intro x; (cases x with | inl b => rfl | inr x => exact rfl)) h
noncomputable def laws_eqFloat32S_T (v564 : List Nat) (v565 : List Nat) : Tree (Bool) :=
  (.br (!decide (((v564.length : Nat) : Int) = ((v565.length : Nat) : Int))) (
   .leaf false
  ) (
   (.need (some (laws_eqFloat32S_l0_E v564 v565 (0 : Int)) = some (laws_eqFloat32S_l0_E v564 v565 (0 : Int))) <|
   (.call (laws_eqFloat32S_l0_g v564 v565 (0 : Int)) fun v571 =>
   (.sum v571 (fun v572 =>
    .leaf false
   ) (fun v573 =>
    .leaf true
   ))))
  ))

noncomputable def laws_eqFloat32S_g (v564 : List Nat) (v565 : List Nat) : Option (Bool) := (laws_eqFloat32S_T v564 v565).run
def laws_eqFloat32S_enc (v564 : List Nat) (v565 : List Nat) (y : Bool) : Rs := (.bool y, [])
theorem laws_eqFloat32S_den (v564 : List Nat) (v565 : List Nat) : (den TT (tabD laws_eqFloat32S_tab) (tabM laws_eqFloat32S_tab) (laws_eqFloat32S_LO v564 v565) (codeOf Try.f20) ([.bslc (BR.root 0) (.f32 v564), .bslc (BR.root 1) (.f32 v565)] ++ List.replicate (Try.f20.ntmps - ([.bslc (BR.root 0) (.f32 v564), .bslc (BR.root 1) (.f32 v565)] : List DV).length) .undef) []).bind (retD TT Try.f20.results.toList 0) = (laws_eqFloat32S_T v564 v565).bind fun y => .leaf (laws_eqFloat32S_enc v564 v565 y) := by kernel_rfl
theorem laws_eqFloat32S_fn (v564 : List Nat) (v565 : List Nat) (F : Fr) (hm : F.ids.length = 0) (h0 : St F [] F.H0) (hA : DVs.Ok F [] [.bslc (BR.root 0) (.f32 v564), .bslc (BR.root 1) (.f32 v565)]) {y : Bool} (hy : laws_eqFloat32S_g v564 v565 = some y) : ∃ H', FnOk Try.prog 20 (DVs.av F [.bslc (BR.root 0) (.f32 v564), .bslc (BR.root 1) (.f32 v565)]) F.H0 ((laws_eqFloat32S_enc v564 v565 y).1.av F) H' ∧ St F (laws_eqFloat32S_enc v564 v565 y).2 H' ∧ (laws_eqFloat32S_enc v564 v565 y).1.Ok F (laws_eqFloat32S_enc v564 v565 y).2 :=
  fn_fin tok laws_eqFloat32S_hO mixed Try.func20 Try.call20 (by kernel_rfl) (LoopsOk_eq (l := [(0, bodyOf Try.f20 0)]) (by kernel_rfl) ⟨laws_eqFloat32S_l0_ok v564 v565, trivial⟩) (laws_eqFloat32S_den v564 v565) hy hm h0 hA
noncomputable def laws_eqFloat32S_F : DFn := fun args L =>
  match args with
  | [a1, a2] =>
    optT (rowF32 L a1) fun v564 =>
    optT (rowF32 L a2) fun v565 =>
    .call (laws_eqFloat32S_g v564 v565) fun y => .leaf (.bool y, L)
  | _ => .fail
theorem laws_eqFloat32S_Fok : COk Try.prog 20 laws_eqFloat32S_F true := by
  intro F L H args r L' hs ha hr
  unfold laws_eqFloat32S_F at hr
  split at hr
  · rename_i a1 a2
    obtain ⟨v564, hv564, hr⟩ := optT_run hr
    obtain ⟨v565, hv565, hr⟩ := optT_run hr
    simp only [Tree.run] at hr
    obtain ⟨y, hy, hr⟩ := Option.bind_eq_some_iff.1 hr
    simp only [Tree.run, Option.some.injEq, Prod.mk.injEq] at hr
    obtain ⟨rfl, rfl⟩ := hr
    exact call_ok0 hs (fun k => (([a1.av F, a2.av F] : List AV)[k]?).getD .top) [a1, a2] [.bslc (BR.root 0) (.f32 v564), .bslc (BR.root 1) (.f32 v565)] (fun F' h0 hi hρ => ⟨by simp [DVs.av, DV.av, BR.av, hρ], laws_eqFloat32S_fn v564 v565 F' (by rw [hi]; rfl) (st_nil hi) ⟨bslc_ok hi (by rw [h0, hρ]; exact rowF32_ok hs (DVs.okAt ha 0 rfl) hv564), bslc_ok hi (by rw [h0, hρ]; exact rowF32_ok hs (DVs.okAt ha 1 rfl) hv565), trivial⟩ hy⟩) rfl
  · cases hr
/-! laws.eqMatrix -/
noncomputable def laws_eqMatrix_LO (v558 : Int) (v559 : Int) (v560 : List Nat) (v561 : Int) (v562 : Int) (v563 : List Nat) : LOr := fun id e L =>
  match id with
  | _ => .fail
noncomputable def laws_eqMatrix_tab : List (FuncId × DFn × Bool) := [(20, laws_eqFloat32S_F, true)]
theorem laws_eqMatrix_hO : OrcOk Try.prog (tabD laws_eqMatrix_tab) (tabM laws_eqMatrix_tab) := tabD_cons laws_eqFloat32S_Fok (tabD_nil _)
noncomputable def laws_eqMatrix_T (v558 : Int) (v559 : Int) (v560 : List Nat) (v561 : Int) (v562 : Int) (v563 : List Nat) : Tree (Bool) :=
  (.br (!decide (v558 = v561)) (
   .leaf false
  ) (
   (.br (!decide (v559 = v562)) (
    .leaf false
   ) (
    (.call (laws_eqFloat32S_g v560 v563) fun v574 =>
    (.br (!v574) (
     .leaf false
    ) (
     .leaf true
    )))
   ))
  ))

noncomputable def laws_eqMatrix_g (v558 : Int) (v559 : Int) (v560 : List Nat) (v561 : Int) (v562 : Int) (v563 : List Nat) : Option (Bool) := (laws_eqMatrix_T v558 v559 v560 v561 v562 v563).run
def laws_eqMatrix_enc (v558 : Int) (v559 : Int) (v560 : List Nat) (v561 : Int) (v562 : Int) (v563 : List Nat) (y : Bool) : Rs := (.bool y, [])
theorem laws_eqMatrix_den (v558 : Int) (v559 : Int) (v560 : List Nat) (v561 : Int) (v562 : Int) (v563 : List Nat) : (den TT (tabD laws_eqMatrix_tab) (tabM laws_eqMatrix_tab) (laws_eqMatrix_LO v558 v559 v560 v561 v562 v563) (codeOf Try.f19) ([.agg [.int .i64 v558, .int .i64 v559, .bslc (BR.root 0) (.f32 v560)], .agg [.int .i64 v561, .int .i64 v562, .bslc (BR.root 1) (.f32 v563)]] ++ List.replicate (Try.f19.ntmps - ([.agg [.int .i64 v558, .int .i64 v559, .bslc (BR.root 0) (.f32 v560)], .agg [.int .i64 v561, .int .i64 v562, .bslc (BR.root 1) (.f32 v563)]] : List DV).length) .undef) []).bind (retD TT Try.f19.results.toList 0) = (laws_eqMatrix_T v558 v559 v560 v561 v562 v563).bind fun y => .leaf (laws_eqMatrix_enc v558 v559 v560 v561 v562 v563 y) := by kernel_rfl
theorem laws_eqMatrix_fn (v558 : Int) (v559 : Int) (v560 : List Nat) (v561 : Int) (v562 : Int) (v563 : List Nat) (F : Fr) (hm : F.ids.length = 0) (h0 : St F [] F.H0) (hA : DVs.Ok F [] [.agg [.int .i64 v558, .int .i64 v559, .bslc (BR.root 0) (.f32 v560)], .agg [.int .i64 v561, .int .i64 v562, .bslc (BR.root 1) (.f32 v563)]]) {y : Bool} (hy : laws_eqMatrix_g v558 v559 v560 v561 v562 v563 = some y) : ∃ H', FnOk Try.prog 19 (DVs.av F [.agg [.int .i64 v558, .int .i64 v559, .bslc (BR.root 0) (.f32 v560)], .agg [.int .i64 v561, .int .i64 v562, .bslc (BR.root 1) (.f32 v563)]]) F.H0 ((laws_eqMatrix_enc v558 v559 v560 v561 v562 v563 y).1.av F) H' ∧ St F (laws_eqMatrix_enc v558 v559 v560 v561 v562 v563 y).2 H' ∧ (laws_eqMatrix_enc v558 v559 v560 v561 v562 v563 y).1.Ok F (laws_eqMatrix_enc v558 v559 v560 v561 v562 v563 y).2 :=
  fn_fin tok laws_eqMatrix_hO mixed Try.func19 Try.call19 (by kernel_rfl) (LoopsOk_eq (l := []) (by kernel_rfl) trivial) (laws_eqMatrix_den v558 v559 v560 v561 v562 v563) hy hm h0 hA
noncomputable def laws_eqMatrix_F : DFn := fun args L =>
  match args with
  | [.agg [.int .i64 v558, .int .i64 v559, a1], .agg [.int .i64 v561, .int .i64 v562, a2]] =>
    optT (rowF32 L a1) fun v560 =>
    optT (rowF32 L a2) fun v563 =>
    .call (laws_eqMatrix_g v558 v559 v560 v561 v562 v563) fun y => .leaf (.bool y, L)
  | _ => .fail
theorem laws_eqMatrix_Fok : COk Try.prog 19 laws_eqMatrix_F true := by
  intro F L H args r L' hs ha hr
  unfold laws_eqMatrix_F at hr
  split at hr
  · rename_i v558 v559 a1 v561 v562 a2
    obtain ⟨v560, hv560, hr⟩ := optT_run hr
    obtain ⟨v563, hv563, hr⟩ := optT_run hr
    simp only [Tree.run] at hr
    obtain ⟨y, hy, hr⟩ := Option.bind_eq_some_iff.1 hr
    simp only [Tree.run, Option.some.injEq, Prod.mk.injEq] at hr
    obtain ⟨rfl, rfl⟩ := hr
    exact call_ok0 hs (fun k => (([a1.av F, a2.av F] : List AV)[k]?).getD .top) [.agg [.int .i64 v558, .int .i64 v559, a1], .agg [.int .i64 v561, .int .i64 v562, a2]] [.agg [.int .i64 v558, .int .i64 v559, .bslc (BR.root 0) (.f32 v560)], .agg [.int .i64 v561, .int .i64 v562, .bslc (BR.root 1) (.f32 v563)]] (fun F' h0 hi hρ => ⟨by simp [DVs.av, DV.av, BR.av, hρ], laws_eqMatrix_fn v558 v559 v560 v561 v562 v563 F' (by rw [hi]; rfl) (st_nil hi) ⟨⟨trivial, trivial, bslc_ok hi (by rw [h0, hρ]; exact rowF32_ok hs (DVs.okAt (DVs.okAt ha 0 rfl) 2 rfl) hv560), trivial⟩, ⟨trivial, trivial, bslc_ok hi (by rw [h0, hρ]; exact rowF32_ok hs (DVs.okAt (DVs.okAt ha 1 rfl) 2 rfl) hv563), trivial⟩, trivial⟩ hy⟩) rfl
  · cases hr
/-! laws.markFloat32S -/
noncomputable def laws_markFloat32S_l0_T (s : Int × Int × (List Nat)) : Tree ((Int × Int × (List Nat)) ⊕ (Int × (List Nat))) :=
  (.br (decide (s.2.1 < (((s.2.2).length : Nat) : Int))) (
   (.grd (inb s.2.1 ((s.2.2).length)) <|
   .leaf (.inl (IntKind.i64.wrap (s.1 + (1 : Int)), IntKind.i64.wrap (s.2.1 + (1 : Int)), List.set s.2.2 (Int.toNat s.2.1) (fofint .f32 s.1))))
  ) (
   .leaf (.inr (s.1, s.2.2))
  ))

noncomputable def laws_markFloat32S_l0_g (s0 : Int × Int × (List Nat)) : Option (Int × (List Nat)) := whileM (fun s => (laws_markFloat32S_l0_T s).run) s0
def laws_markFloat32S_l0_E (v588 : List Nat) (v589 : Int) (s : Int × Int × (List Nat)) : Sd := ([.own 0 0 ((s.2.2).length), .int .i64 s.1, .top, .top, .top, .int .i64 s.2.1, .top, .top, .top, .top, .top, .top, .top, .top, .top, .top, .top, .top, .top, .top], [.row (.f32 s.2.2) 0])
def laws_markFloat32S_l0_X (v588 : List Nat) (v589 : Int) (x : Int × (List Nat)) : Out := (.normal, [.top, .int .i64 x.1, .top, .top, .top, .top, .top, .top, .top, .top, .top, .top, .top, .top, .top, .top, .top, .top, .top, .top], [.row (.f32 x.2) 0])
def laws_markFloat32S_l0_kill : List Nat := [0, 0, 1, 1, 1, 0, 1, 1, 1, 1, 1, 1, 1, 1, 1, 1, 1, 1, 1, 1]
def laws_markFloat32S_l0_nx : Exit → List Nat
  | .exit 0 => [1, 0, 1, 1, 1, 1, 1, 1, 1, 1, 1, 1, 1, 1, 1, 1, 1, 1, 1, 1]
  | .ret => [1, 1, 1, 1, 0, 1, 1, 1, 1, 1, 1, 1, 1, 1, 1, 1, 1, 1, 1, 1]
  | _ => []
noncomputable def laws_markFloat32S_LO (v588 : List Nat) (v589 : Int) : LOr := fun id e L =>
  match id with
  | 0 => .need (normA 1 laws_markFloat32S_l0_kill e L = some (laws_markFloat32S_l0_E v588 v589 ((gI (vAt e 1)), (gI (vAt e 5)), (gRF L (vAt e 0))))) (.call (laws_markFloat32S_l0_g ((gI (vAt e 1)), (gI (vAt e 5)), (gRF L (vAt e 0)))) fun x => .leaf (laws_markFloat32S_l0_X v588 v589 x))
  | _ => .fail
noncomputable def laws_markFloat32S_tab : List (FuncId × DFn × Bool) := []
theorem laws_markFloat32S_hO : OrcOk Try.prog (tabD laws_markFloat32S_tab) (tabM laws_markFloat32S_tab) := tabD_nil _
theorem laws_markFloat32S_l0_be (v588 : List Nat) (v589 : Int) (s : Int × Int × (List Nat)) : bodyT TT (tabD laws_markFloat32S_tab) (tabM laws_markFloat32S_tab) (laws_markFloat32S_LO v588 v589) 1 laws_markFloat32S_l0_kill laws_markFloat32S_l0_nx (bodyOf Try.f22 0) 0 (laws_markFloat32S_l0_E v588 v589 s) = (laws_markFloat32S_l0_T s).bind fun y => .leaf (outS (laws_markFloat32S_l0_E v588 v589) (laws_markFloat32S_l0_X v588 v589) y) := by kernel_rfl
theorem laws_markFloat32S_l0_ok (v588 : List Nat) (v589 : Int) : LSound Try.prog 1 (laws_markFloat32S_LO v588 v589) 0 (bodyOf Try.f22 0) := by
  intro e L out h
  exact lo_ok (E := laws_markFloat32S_l0_E v588 v589) (gT := laws_markFloat32S_l0_T) (X := laws_markFloat32S_l0_X v588 v589) (s0 := ((gI (vAt e 1)), (gI (vAt e 5)), (gRF L (vAt e 0)))) tok laws_markFloat32S_hO mixed (LoopsOk_eq (l := []) (by kernel_rfl) trivial) (laws_markFloat32S_l0_be v588 v589) rfl (by intro x; rfl) h
noncomputable def laws_markFloat32S_T (v588 : List Nat) (v589 : Int) : Tree (Int × (List Nat)) :=
  (.need (some (laws_markFloat32S_l0_E v588 v589 (v589, (0 : Int), v588)) = some (laws_markFloat32S_l0_E v588 v589 (v589, (0 : Int), v588))) <|
  (.call (laws_markFloat32S_l0_g (v589, (0 : Int), v588)) fun v598 =>
  .leaf (v598.1, v598.2)))

noncomputable def laws_markFloat32S_g (v588 : List Nat) (v589 : Int) : Option (Int × (List Nat)) := (laws_markFloat32S_T v588 v589).run
def laws_markFloat32S_enc (v588 : List Nat) (v589 : Int) (y : Int × (List Nat)) : Rs := (.int .i64 y.1, [.row (.f32 y.2) 0])
theorem laws_markFloat32S_den (v588 : List Nat) (v589 : Int) : (den TT (tabD laws_markFloat32S_tab) (tabM laws_markFloat32S_tab) (laws_markFloat32S_LO v588 v589) (codeOf Try.f22) ([.own 0 0 v588.length, .int .i64 v589] ++ List.replicate (Try.f22.ntmps - ([.own 0 0 v588.length, .int .i64 v589] : List DV).length) .undef) [.row (.f32 v588) 0]).bind (retD TT Try.f22.results.toList 1) = (laws_markFloat32S_T v588 v589).bind fun y => .leaf (laws_markFloat32S_enc v588 v589 y) := by kernel_rfl
theorem laws_markFloat32S_fn (v588 : List Nat) (v589 : Int) (F : Fr) (hm : F.ids.length = 1) (h0 : St F [.row (.f32 v588) 0] F.H0) (hA : DVs.Ok F [.row (.f32 v588) 0] [.own 0 0 v588.length, .int .i64 v589]) {y : Int × (List Nat)} (hy : laws_markFloat32S_g v588 v589 = some y) : ∃ H', FnOk Try.prog 22 (DVs.av F [.own 0 0 v588.length, .int .i64 v589]) F.H0 ((laws_markFloat32S_enc v588 v589 y).1.av F) H' ∧ St F (laws_markFloat32S_enc v588 v589 y).2 H' ∧ (laws_markFloat32S_enc v588 v589 y).1.Ok F (laws_markFloat32S_enc v588 v589 y).2 :=
  fn_fin tok laws_markFloat32S_hO mixed Try.func22 Try.call22 (by kernel_rfl) (LoopsOk_eq (l := [(0, bodyOf Try.f22 0)]) (by kernel_rfl) ⟨laws_markFloat32S_l0_ok v588 v589, trivial⟩) (laws_markFloat32S_den v588 v589) hy hm h0 hA
noncomputable def laws_markFloat32S_F : DFn := fun args L =>
  match args with
  | [a1, .int .i64 v589] =>
    optT (ownF32 L a1) fun qv588 =>
    (match sepB [qv588.1] [] with
    | true =>
    .call (laws_markFloat32S_g qv588.2 v589) fun y => .grd (decide (y.2.length = qv588.2.length)) (.leaf (.int .i64 y.1, setRows L ([qv588.1].zip [.f32 y.2])))
    | false => .fail)
  | _ => .fail
theorem laws_markFloat32S_Fok : COk Try.prog 22 laws_markFloat32S_F false := by
  intro F L H args r L' hs ha hr
  unfold laws_markFloat32S_F at hr
  split at hr
  · rename_i a1 v589
    obtain ⟨⟨jv588, v588⟩, hqv588, hr⟩ := optT_run hr
    simp only at hr
    split at hr
    · rename_i hsep
      obtain ⟨hnd, hsepv⟩ := sepB_spec hsep
      simp only [Tree.run] at hr
      obtain ⟨y, hy, hr⟩ := Option.bind_eq_some_iff.1 hr
      try simp only [Tree.run] at hr
      obtain ⟨hl0, hr⟩ := ite_run hr
      simp only [Option.some.injEq, Prod.mk.injEq] at hr
      obtain ⟨rfl, rfl⟩ := hr
      obtain ⟨hr0, hu0, ha0, hb0⟩ := (ownR_spec (DVs.okAt ha 0 rfl) (ownF32_or hqv588))
      exact mut_ok hs (fun k => (([a1.av F] : List AV)[k]?).getD .top) [a1, .int .i64 v589] [.own 0 0 v588.length, .int .i64 v589] [jv588] [.f32 v588] [.f32 y.2] hnd rfl rfl (fun i j q h1 h2 => by
          rcases i with _ | i
          · simp at h1 h2; subst h1; subst h2; exact hr0
          · simp at h1) (fun i q q' h1 h2 => by
          rcases i with _ | i
          · simp at h1 h2; subst h1; subst h2; exact of_decide_eq_true hl0
          · simp at h1) (fun j hj => by simp at hj; subst hj; simp [DVs.refs, DV.refs, hu0]) (fun F' h0 hi hρ hst hS => ⟨by (have ab0 : F'.abs 0 = F.abs jv588 := (by simp [Fr.abs, hi]); simp [DVs.av, DV.av, BR.av, hρ, Row.len, ha0, ab0]), by
          obtain ⟨H1, k1, k2, _⟩ := laws_markFloat32S_fn v588 v589 F' (by rw [hi]; rfl) hst ⟨⟨_, rfl, Nat.le_refl _, Nat.le_refl _, fun _ => rfl, (ownR_spec (DVs.okAt ha 0 rfl) (ownF32_or hqv588)).2.2.2⟩, trivial, trivial⟩ hy
          exact ⟨H1, k1, k2⟩⟩) (fun F' => rfl) (fun L' => trivial)
    · cases hr
  · cases hr
/-! laws.markMatrix -/
noncomputable def laws_markMatrix_LO (v599 : Int) (v600 : Int) (v601 : List Nat) (v602 : Int) : LOr := fun id e L =>
  match id with
  | _ => .fail
noncomputable def laws_markMatrix_tab : List (FuncId × DFn × Bool) := [(22, laws_markFloat32S_F, false)]
theorem laws_markMatrix_hO : OrcOk Try.prog (tabD laws_markMatrix_tab) (tabM laws_markMatrix_tab) := tabD_cons laws_markFloat32S_Fok (tabD_nil _)
noncomputable def laws_markMatrix_T (v601 : List Nat) (v602 : Int) : Tree (Int × (List Nat)) :=
  (.call (laws_markFloat32S_g v601 v602) fun v603 =>
  (.grd (decide (v603.2.length = v601.length)) <|
  .leaf (v603.1, v603.2)))

noncomputable def laws_markMatrix_g (v601 : List Nat) (v602 : Int) : Option (Int × (List Nat)) := (laws_markMatrix_T v601 v602).run
def laws_markMatrix_enc (v599 : Int) (v600 : Int) (v601 : List Nat) (v602 : Int) (y : Int × (List Nat)) : Rs := (.int .i64 y.1, [.row (.f32 y.2) 0])
theorem laws_markMatrix_den (v599 : Int) (v600 : Int) (v601 : List Nat) (v602 : Int) : (den TT (tabD laws_markMatrix_tab) (tabM laws_markMatrix_tab) (laws_markMatrix_LO v599 v600 v601 v602) (codeOf Try.f21) ([.agg [.int .i64 v599, .int .i64 v600, .own 0 0 v601.length], .int .i64 v602] ++ List.replicate (Try.f21.ntmps - ([.agg [.int .i64 v599, .int .i64 v600, .own 0 0 v601.length], .int .i64 v602] : List DV).length) .undef) [.row (.f32 v601) 0]).bind (retD TT Try.f21.results.toList 1) = (laws_markMatrix_T v601 v602).bind fun y => .leaf (laws_markMatrix_enc v599 v600 v601 v602 y) := by kernel_rfl
theorem laws_markMatrix_fn (v599 : Int) (v600 : Int) (v601 : List Nat) (v602 : Int) (F : Fr) (hm : F.ids.length = 1) (h0 : St F [.row (.f32 v601) 0] F.H0) (hA : DVs.Ok F [.row (.f32 v601) 0] [.agg [.int .i64 v599, .int .i64 v600, .own 0 0 v601.length], .int .i64 v602]) {y : Int × (List Nat)} (hy : laws_markMatrix_g v601 v602 = some y) : ∃ H', FnOk Try.prog 21 (DVs.av F [.agg [.int .i64 v599, .int .i64 v600, .own 0 0 v601.length], .int .i64 v602]) F.H0 ((laws_markMatrix_enc v599 v600 v601 v602 y).1.av F) H' ∧ St F (laws_markMatrix_enc v599 v600 v601 v602 y).2 H' ∧ (laws_markMatrix_enc v599 v600 v601 v602 y).1.Ok F (laws_markMatrix_enc v599 v600 v601 v602 y).2 :=
  fn_fin tok laws_markMatrix_hO mixed Try.func21 Try.call21 (by kernel_rfl) (LoopsOk_eq (l := []) (by kernel_rfl) trivial) (laws_markMatrix_den v599 v600 v601 v602) hy hm h0 hA
noncomputable def laws_markMatrix_F : DFn := fun args L =>
  match args with
  | [.agg [.int .i64 v599, .int .i64 v600, a1], .int .i64 v602] =>
    optT (ownF32 L a1) fun qv601 =>
    (match sepB [qv601.1] [] with
    | true =>
    .call (laws_markMatrix_g qv601.2 v602) fun y => .grd (decide (y.2.length = qv601.2.length)) (.leaf (.int .i64 y.1, setRows L ([qv601.1].zip [.f32 y.2])))
    | false => .fail)
  | _ => .fail
theorem laws_markMatrix_Fok : COk Try.prog 21 laws_markMatrix_F false := by
  intro F L H args r L' hs ha hr
  unfold laws_markMatrix_F at hr
  split at hr
  · rename_i v599 v600 a1 v602
    obtain ⟨⟨jv601, v601⟩, hqv601, hr⟩ := optT_run hr
    simp only at hr
    split at hr
    · rename_i hsep
      obtain ⟨hnd, hsepv⟩ := sepB_spec hsep
      simp only [Tree.run] at hr
      obtain ⟨y, hy, hr⟩ := Option.bind_eq_some_iff.1 hr
      try simp only [Tree.run] at hr
      obtain ⟨hl0, hr⟩ := ite_run hr
      simp only [Option.some.injEq, Prod.mk.injEq] at hr
      obtain ⟨rfl, rfl⟩ := hr
      obtain ⟨hr0, hu0, ha0, hb0⟩ := (ownR_spec (DVs.okAt (DVs.okAt ha 0 rfl) 2 rfl) (ownF32_or hqv601))
      exact mut_ok hs (fun k => (([a1.av F] : List AV)[k]?).getD .top) [.agg [.int .i64 v599, .int .i64 v600, a1], .int .i64 v602] [.agg [.int .i64 v599, .int .i64 v600, .own 0 0 v601.length], .int .i64 v602] [jv601] [.f32 v601] [.f32 y.2] hnd rfl rfl (fun i j q h1 h2 => by
          rcases i with _ | i
          · simp at h1 h2; subst h1; subst h2; exact hr0
          · simp at h1) (fun i q q' h1 h2 => by
          rcases i with _ | i
          · simp at h1 h2; subst h1; subst h2; exact of_decide_eq_true hl0
          · simp at h1) (fun j hj => by simp at hj; subst hj; simp [DVs.refs, DV.refs, hu0]) (fun F' h0 hi hρ hst hS => ⟨by (have ab0 : F'.abs 0 = F.abs jv601 := (by simp [Fr.abs, hi]); simp [DVs.av, DV.av, BR.av, hρ, Row.len, ha0, ab0]), by
          obtain ⟨H1, k1, k2, _⟩ := laws_markMatrix_fn v599 v600 v601 v602 F' (by rw [hi]; rfl) hst ⟨⟨trivial, trivial, ⟨_, rfl, Nat.le_refl _, Nat.le_refl _, fun _ => rfl, (ownR_spec (DVs.okAt (DVs.okAt ha 0 rfl) 2 rfl) (ownF32_or hqv601)).2.2.2⟩, trivial⟩, trivial, trivial⟩ hy
          exact ⟨H1, k1, k2⟩⟩) (fun F' => rfl) (fun L' => trivial)
    · cases hr
  · cases hr
/-! laws.markFloat32S -/
noncomputable def laws_markFloat32S_i1_l0_T (s : Unit) : Tree ((Unit) ⊕ (Unit)) :=
  (.br (decide ((0 : Int) < (0 : Int))) (
   .fail
  ) (
   .leaf (.inr ())
  ))

noncomputable def laws_markFloat32S_i1_l0_g (s0 : Unit) : Option (Unit) := whileM (fun s => (laws_markFloat32S_i1_l0_T s).run) s0
def laws_markFloat32S_i1_l0_E (v610 : Int) (s : Unit) : Sd := ([.nilslc, .int .i64 v610, .top, .top, .top, .int .i64 (0 : Int), .top, .top, .top, .top, .top, .top, .top, .top, .top, .top, .top, .top, .top, .top], [])
def laws_markFloat32S_i1_l0_X (v610 : Int) (x : Unit) : Out := (.normal, [.top, .int .i64 v610, .top, .top, .top, .top, .top, .top, .top, .top, .top, .top, .top, .top, .top, .top, .top, .top, .top, .top], [])
def laws_markFloat32S_i1_l0_kill : List Nat := [0, 0, 1, 1, 1, 0, 1, 1, 1, 1, 1, 1, 1, 1, 1, 1, 1, 1, 1, 1]
def laws_markFloat32S_i1_l0_nx : Exit → List Nat
  | .exit 0 => [1, 0, 1, 1, 1, 1, 1, 1, 1, 1, 1, 1, 1, 1, 1, 1, 1, 1, 1, 1]
  | .ret => [1, 1, 1, 1, 0, 1, 1, 1, 1, 1, 1, 1, 1, 1, 1, 1, 1, 1, 1, 1]
  | _ => []
noncomputable def laws_markFloat32S_i1_LO (v610 : Int) : LOr := fun id e L =>
  match id with
  | 0 => .need (normA 0 laws_markFloat32S_i1_l0_kill e L = some (laws_markFloat32S_i1_l0_E v610 ())) (.call (laws_markFloat32S_i1_l0_g ()) fun x => .leaf (laws_markFloat32S_i1_l0_X v610 x))
  | _ => .fail
noncomputable def laws_markFloat32S_i1_tab : List (FuncId × DFn × Bool) := []
theorem laws_markFloat32S_i1_hO : OrcOk Try.prog (tabD laws_markFloat32S_i1_tab) (tabM laws_markFloat32S_i1_tab) := tabD_nil _
theorem laws_markFloat32S_i1_l0_be (v610 : Int) (s : Unit) : bodyT TT (tabD laws_markFloat32S_i1_tab) (tabM laws_markFloat32S_i1_tab) (laws_markFloat32S_i1_LO v610) 0 laws_markFloat32S_i1_l0_kill laws_markFloat32S_i1_l0_nx (bodyOf Try.f22 0) 0 (laws_markFloat32S_i1_l0_E v610 s) = (laws_markFloat32S_i1_l0_T s).bind fun y => .leaf (outS (laws_markFloat32S_i1_l0_E v610) (laws_markFloat32S_i1_l0_X v610) y) := by kernel_rfl
theorem laws_markFloat32S_i1_l0_ok (v610 : Int) : LSound Try.prog 0 (laws_markFloat32S_i1_LO v610) 0 (bodyOf Try.f22 0) := by
  intro e L out h
  exact lo_ok (E := laws_markFloat32S_i1_l0_E v610) (gT := laws_markFloat32S_i1_l0_T) (X := laws_markFloat32S_i1_l0_X v610) (s0 := ()) tok laws_markFloat32S_i1_hO mixed (LoopsOk_eq (l := []) (by kernel_rfl) trivial) (laws_markFloat32S_i1_l0_be v610) rfl (by intro x; rfl) h
noncomputable def laws_markFloat32S_i1_T (v610 : Int) : Tree (Int) :=
  (.need (some (laws_markFloat32S_i1_l0_E v610 ()) = some (laws_markFloat32S_i1_l0_E v610 ())) <|
  (.call (laws_markFloat32S_i1_l0_g ()) fun v613 =>
  .leaf v610))

noncomputable def laws_markFloat32S_i1_g (v610 : Int) : Option (Int) := (laws_markFloat32S_i1_T v610).run
def laws_markFloat32S_i1_enc (v610 : Int) (y : Int) : Rs := (.int .i64 y, [])
theorem laws_markFloat32S_i1_den (v610 : Int) : (den TT (tabD laws_markFloat32S_i1_tab) (tabM laws_markFloat32S_i1_tab) (laws_markFloat32S_i1_LO v610) (codeOf Try.f22) ([.nilslc, .int .i64 v610] ++ List.replicate (Try.f22.ntmps - ([.nilslc, .int .i64 v610] : List DV).length) .undef) []).bind (retD TT Try.f22.results.toList 0) = (laws_markFloat32S_i1_T v610).bind fun y => .leaf (laws_markFloat32S_i1_enc v610 y) := by kernel_rfl
theorem laws_markFloat32S_i1_fn (v610 : Int) (F : Fr) (hm : F.ids.length = 0) (h0 : St F [] F.H0) (hA : DVs.Ok F [] [.nilslc, .int .i64 v610]) {y : Int} (hy : laws_markFloat32S_i1_g v610 = some y) : ∃ H', FnOk Try.prog 22 (DVs.av F [.nilslc, .int .i64 v610]) F.H0 ((laws_markFloat32S_i1_enc v610 y).1.av F) H' ∧ St F (laws_markFloat32S_i1_enc v610 y).2 H' ∧ (laws_markFloat32S_i1_enc v610 y).1.Ok F (laws_markFloat32S_i1_enc v610 y).2 :=
  fn_fin tok laws_markFloat32S_i1_hO mixed Try.func22 Try.call22 (by kernel_rfl) (LoopsOk_eq (l := [(0, bodyOf Try.f22 0)]) (by kernel_rfl) ⟨laws_markFloat32S_i1_l0_ok v610, trivial⟩) (laws_markFloat32S_i1_den v610) hy hm h0 hA
noncomputable def laws_markFloat32S_i1_F : DFn := fun args L =>
  match args with
  | [.nilslc, .int .i64 v610] =>
    .call (laws_markFloat32S_i1_g v610) fun y => .leaf (.int .i64 y, L)
  | _ => .fail
theorem laws_markFloat32S_i1_Fok : COk Try.prog 22 laws_markFloat32S_i1_F true := by
  intro F L H args r L' hs ha hr
  unfold laws_markFloat32S_i1_F at hr
  split at hr
  · rename_i v610
    simp only [Tree.run] at hr
    obtain ⟨y, hy, hr⟩ := Option.bind_eq_some_iff.1 hr
    simp only [Tree.run, Option.some.injEq, Prod.mk.injEq] at hr
    obtain ⟨rfl, rfl⟩ := hr
    exact call_ok0 hs (fun k => (([] : List AV)[k]?).getD .top) [.nilslc, .int .i64 v610] [.nilslc, .int .i64 v610] (fun F' h0 hi hρ => ⟨by simp [DVs.av, DV.av, BR.av, hρ], laws_markFloat32S_i1_fn v610 F' (by rw [hi]; rfl) (st_nil hi) ⟨trivial, trivial, trivial⟩ hy⟩) rfl
  · cases hr
/-! laws.markMatrix -/
noncomputable def laws_markMatrix_i1_LO (v607 : Int) (v608 : Int) (v609 : Int) : LOr := fun id e L =>
  match id with
  | _ => .fail
noncomputable def laws_markMatrix_i1_tab : List (FuncId × DFn × Bool) := [(22, laws_markFloat32S_i1_F, true)]
theorem laws_markMatrix_i1_hO : OrcOk Try.prog (tabD laws_markMatrix_i1_tab) (tabM laws_markMatrix_i1_tab) := tabD_cons laws_markFloat32S_i1_Fok (tabD_nil _)
noncomputable def laws_markMatrix_i1_T (v609 : Int) : Tree (Int) :=
  (.call (laws_markFloat32S_i1_g v609) fun v614 =>
  .leaf v614)

noncomputable def laws_markMatrix_i1_g (v609 : Int) : Option (Int) := (laws_markMatrix_i1_T v609).run
def laws_markMatrix_i1_enc (v607 : Int) (v608 : Int) (v609 : Int) (y : Int) : Rs := (.int .i64 y, [])
theorem laws_markMatrix_i1_den (v607 : Int) (v608 : Int) (v609 : Int) : (den TT (tabD laws_markMatrix_i1_tab) (tabM laws_markMatrix_i1_tab) (laws_markMatrix_i1_LO v607 v608 v609) (codeOf Try.f21) ([.agg [.int .i64 v607, .int .i64 v608, .nilslc], .int .i64 v609] ++ List.replicate (Try.f21.ntmps - ([.agg [.int .i64 v607, .int .i64 v608, .nilslc], .int .i64 v609] : List DV).length) .undef) []).bind (retD TT Try.f21.results.toList 0) = (laws_markMatrix_i1_T v609).bind fun y => .leaf (laws_markMatrix_i1_enc v607 v608 v609 y) := by kernel_rfl
theorem laws_markMatrix_i1_fn (v607 : Int) (v608 : Int) (v609 : Int) (F : Fr) (hm : F.ids.length = 0) (h0 : St F [] F.H0) (hA : DVs.Ok F [] [.agg [.int .i64 v607, .int .i64 v608, .nilslc], .int .i64 v609]) {y : Int} (hy : laws_markMatrix_i1_g v609 = some y) : ∃ H', FnOk Try.prog 21 (DVs.av F [.agg [.int .i64 v607, .int .i64 v608, .nilslc], .int .i64 v609]) F.H0 ((laws_markMatrix_i1_enc v607 v608 v609 y).1.av F) H' ∧ St F (laws_markMatrix_i1_enc v607 v608 v609 y).2 H' ∧ (laws_markMatrix_i1_enc v607 v608 v609 y).1.Ok F (laws_markMatrix_i1_enc v607 v608 v609 y).2 :=
  fn_fin tok laws_markMatrix_i1_hO mixed Try.func21 Try.call21 (by kernel_rfl) (LoopsOk_eq (l := []) (by kernel_rfl) trivial) (laws_markMatrix_i1_den v607 v608 v609) hy hm h0 hA
noncomputable def laws_markMatrix_i1_F : DFn := fun args L =>
  match args with
  | [.agg [.int .i64 v607, .int .i64 v608, .nilslc], .int .i64 v609] =>
    .call (laws_markMatrix_i1_g v609) fun y => .leaf (.int .i64 y, L)
  | _ => .fail
theorem laws_markMatrix_i1_Fok : COk Try.prog 21 laws_markMatrix_i1_F true := by
  intro F L H args r L' hs ha hr
  unfold laws_markMatrix_i1_F at hr
  split at hr
  · rename_i v607 v608 v609
    simp only [Tree.run] at hr
    obtain ⟨y, hy, hr⟩ := Option.bind_eq_some_iff.1 hr
    simp only [Tree.run, Option.some.injEq, Prod.mk.injEq] at hr
    obtain ⟨rfl, rfl⟩ := hr
    exact call_ok0 hs (fun k => (([] : List AV)[k]?).getD .top) [.agg [.int .i64 v607, .int .i64 v608, .nilslc], .int .i64 v609] [.agg [.int .i64 v607, .int .i64 v608, .nilslc], .int .i64 v609] (fun F' h0 hi hρ => ⟨by simp [DVs.av, DV.av, BR.av, hρ], laws_markMatrix_i1_fn v607 v608 v609 F' (by rw [hi]; rfl) (st_nil hi) ⟨⟨trivial, trivial, trivial, trivial⟩, trivial, trivial⟩ hy⟩) rfl
  · cases hr
/-! laws.heldFloat32S -/
noncomputable def laws_heldFloat32S_l0_T (v620 : List Nat) (s : Int × Int) : Tree ((Int × Int) ⊕ ((Unit) ⊕ (Int))) :=
  (.br (decide (s.2 < ((v620.length : Nat) : Int))) (
   (.grd (inb s.2 v620.length) <|
   (.br (!feq .f32 (nth v620 (Int.toNat s.2)) (fofint .f32 s.1)) (
    .leaf (.inr (.inl ()))
   ) (
    .leaf (.inl (IntKind.i64.wrap (s.1 + (1 : Int)), IntKind.i64.wrap (s.2 + (1 : Int))))
   )))
  ) (
   .leaf (.inr (.inr s.1))
  ))

noncomputable def laws_heldFloat32S_l0_g (v620 : List Nat) (s0 : Int × Int) : Option ((Unit) ⊕ (Int)) := whileM (fun s => (laws_heldFloat32S_l0_T v620 s).run) s0
def laws_heldFloat32S_l0_E (v620 : List Nat) (v621 : Int) (s : Int × Int) : Sd := ([.bslc (BR.root 0) (.f32 v620), .int .i64 s.1, .top, .top, .top, .int .i64 s.2, .top, .top, .top, .top, .top, .top, .top, .top, .top, .top, .top, .top, .top, .top, .top, .top], [])
def laws_heldFloat32S_l0_X (v620 : List Nat) (v621 : Int) (x : (Unit) ⊕ (Int)) : Out := (match x with | .inl x => (.ret, [.top, .top, .top, .top, .int .i64 (-1 : Int), .top, .top, .top, .top, .top, .top, .top, .top, .top, .top, .top, .top, .top, .top, .top, .top, .top], []) | .inr x => (.normal, [.top, .int .i64 x, .top, .top, .top, .top, .top, .top, .top, .top, .top, .top, .top, .top, .top, .top, .top, .top, .top, .top, .top, .top], []))
def laws_heldFloat32S_l0_kill : List Nat := [0, 0, 1, 1, 1, 0, 1, 1, 1, 1, 1, 1, 1, 1, 1, 1, 1, 1, 1, 1, 1, 1]
def laws_heldFloat32S_l0_nx : Exit → List Nat
  | .exit 0 => [1, 0, 1, 1, 1, 1, 1, 1, 1, 1, 1, 1, 1, 1, 1, 1, 1, 1, 1, 1, 1, 1]
  | .ret => [1, 1, 1, 1, 0, 1, 1, 1, 1, 1, 1, 1, 1, 1, 1, 1, 1, 1, 1, 1, 1, 1]
  | _ => []
noncomputable def laws_heldFloat32S_LO (v620 : List Nat) (v621 : Int) : LOr := fun id e L =>
  match id with
  | 0 => .need (normA 0 laws_heldFloat32S_l0_kill e L = some (laws_heldFloat32S_l0_E v620 v621 ((gI (vAt e 1)), (gI (vAt e 5))))) (.call (laws_heldFloat32S_l0_g v620 ((gI (vAt e 1)), (gI (vAt e 5)))) fun x => .sum x (fun b0 => .leaf (laws_heldFloat32S_l0_X v620 v621 (.inl b0))) (fun c0 => .leaf (laws_heldFloat32S_l0_X v620 v621 (.inr c0))))
  | _ => .fail
noncomputable def laws_heldFloat32S_tab : List (FuncId × DFn × Bool) := []
theorem laws_heldFloat32S_hO : OrcOk Try.prog (tabD laws_heldFloat32S_tab) (tabM laws_heldFloat32S_tab) := tabD_nil _
theorem laws_heldFloat32S_l0_be (v620 : List Nat) (v621 : Int) (s : Int × Int) : bodyT TT (tabD laws_heldFloat32S_tab) (tabM laws_heldFloat32S_tab) (laws_heldFloat32S_LO v620 v621) 0 laws_heldFloat32S_l0_kill laws_heldFloat32S_l0_nx (bodyOf Try.f24 0) 0 (laws_heldFloat32S_l0_E v620 v621 s) = (laws_heldFloat32S_l0_T v620 s).bind fun y => .leaf (outS (laws_heldFloat32S_l0_E v620 v621) (laws_heldFloat32S_l0_X v620 v621) y) := by kernel_rfl
theorem laws_heldFloat32S_l0_ok (v620 : List Nat) (v621 : Int) : LSound Try.prog 0 (laws_heldFloat32S_LO v620 v621) 0 (bodyOf Try.f24 0) := by
  intro e L out h
  exact lo_ok (E := laws_heldFloat32S_l0_E v620 v621) (gT := laws_heldFloat32S_l0_T v620) (X := laws_heldFloat32S_l0_X v620 v621) (s0 := ((gI (vAt e 1)), (gI (vAt e 5)))) tok laws_heldFloat32S_hO mixed (LoopsOk_eq (l := []) (by kernel_rfl) trivial) (laws_heldFloat32S_l0_be v620 v621) rfl (by intro x; (cases x with | inl b => rfl | inr x => exact rfl)) h
noncomputable def laws_heldFloat32S_T (v620 : List Nat) (v621 : Int) : Tree (Int) :=
  (.need (some (laws_heldFloat32S_l0_E v620 v621 (v621, (0 : Int))) = some (laws_heldFloat32S_l0_E v620 v621 (v621, (0 : Int)))) <|
  (.call (laws_heldFloat32S_l0_g v620 (v621, (0 : Int))) fun v628 =>
  (.sum v628 (fun v629 =>
   .leaf (-1 : Int)
  ) (fun v630 =>
   .leaf v630
  ))))

noncomputable def laws_heldFloat32S_g (v620 : List Nat) (v621 : Int) : Option (Int) := (laws_heldFloat32S_T v620 v621).run
def laws_heldFloat32S_enc (v620 : List Nat) (v621 : Int) (y : Int) : Rs := (.int .i64 y, [])
theorem laws_heldFloat32S_den (v620 : List Nat) (v621 : Int) : (den TT (tabD laws_heldFloat32S_tab) (tabM laws_heldFloat32S_tab) (laws_heldFloat32S_LO v620 v621) (codeOf Try.f24) ([.bslc (BR.root 0) (.f32 v620), .int .i64 v621] ++ List.replicate (Try.f24.ntmps - ([.bslc (BR.root 0) (.f32 v620), .int .i64 v621] : List DV).length) .undef) []).bind (retD TT Try.f24.results.toList 0) = (laws_heldFloat32S_T v620 v621).bind fun y => .leaf (laws_heldFloat32S_enc v620 v621 y) := by kernel_rfl
theorem laws_heldFloat32S_fn (v620 : List Nat) (v621 : Int) (F : Fr) (hm : F.ids.length = 0) (h0 : St F [] F.H0) (hA : DVs.Ok F [] [.bslc (BR.root 0) (.f32 v620), .int .i64 v621]) {y : Int} (hy : laws_heldFloat32S_g v620 v621 = some y) : ∃ H', FnOk Try.prog 24 (DVs.av F [.bslc (BR.root 0) (.f32 v620), .int .i64 v621]) F.H0 ((laws_heldFloat32S_enc v620 v621 y).1.av F) H' ∧ St F (laws_heldFloat32S_enc v620 v621 y).2 H' ∧ (laws_heldFloat32S_enc v620 v621 y).1.Ok F (laws_heldFloat32S_enc v620 v621 y).2 :=
  fn_fin tok laws_heldFloat32S_hO mixed Try.func24 Try.call24 (by kernel_rfl) (LoopsOk_eq (l := [(0, bodyOf Try.f24 0)]) (by kernel_rfl) ⟨laws_heldFloat32S_l0_ok v620 v621, trivial⟩) (laws_heldFloat32S_den v620 v621) hy hm h0 hA
noncomputable def laws_heldFloat32S_F : DFn := fun args L =>
  match args with
  | [a1, .int .i64 v621] =>
    optT (rowF32 L a1) fun v620 =>
    .call (laws_heldFloat32S_g v620 v621) fun y => .leaf (.int .i64 y, L)
  | _ => .fail
theorem laws_heldFloat32S_Fok : COk Try.prog 24 laws_heldFloat32S_F true := by
  intro F L H args r L' hs ha hr
  unfold laws_heldFloat32S_F at hr
  split at hr
  · rename_i a1 v621
    obtain ⟨v620, hv620, hr⟩ := optT_run hr
    simp only [Tree.run] at hr
    obtain ⟨y, hy, hr⟩ := Option.bind_eq_some_iff.1 hr
    simp only [Tree.run, Option.some.injEq, Prod.mk.injEq] at hr
    obtain ⟨rfl, rfl⟩ := hr
    exact call_ok0 hs (fun k => (([a1.av F] : List AV)[k]?).getD .top) [a1, .int .i64 v621] [.bslc (BR.root 0) (.f32 v620), .int .i64 v621] (fun F' h0 hi hρ => ⟨by simp [DVs.av, DV.av, BR.av, hρ], laws_heldFloat32S_fn v620 v621 F' (by rw [hi]; rfl) (st_nil hi) ⟨bslc_ok hi (by rw [h0, hρ]; exact rowF32_ok hs (DVs.okAt ha 0 rfl) hv620), trivial, trivial⟩ hy⟩) rfl
  · cases hr
/-! laws.heldMatrix -/
noncomputable def laws_heldMatrix_LO (v616 : Int) (v617 : Int) (v618 : List Nat) (v619 : Int) : LOr := fun id e L =>
  match id with
  | _ => .fail
noncomputable def laws_heldMatrix_tab : List (FuncId × DFn × Bool) := [(24, laws_heldFloat32S_F, true)]
theorem laws_heldMatrix_hO : OrcOk Try.prog (tabD laws_heldMatrix_tab) (tabM laws_heldMatrix_tab) := tabD_cons laws_heldFloat32S_Fok (tabD_nil _)
noncomputable def laws_heldMatrix_T (v618 : List Nat) (v619 : Int) : Tree (Int) :=
  (.call (laws_heldFloat32S_g v618 v619) fun v631 =>
  (.br (decide (v631 < (0 : Int))) (
   .leaf (-1 : Int)
  ) (
   .leaf v631
  )))

noncomputable def laws_heldMatrix_g (v618 : List Nat) (v619 : Int) : Option (Int) := (laws_heldMatrix_T v618 v619).run
def laws_heldMatrix_enc (v616 : Int) (v617 : Int) (v618 : List Nat) (v619 : Int) (y : Int) : Rs := (.int .i64 y, [])
theorem laws_heldMatrix_den (v616 : Int) (v617 : Int) (v618 : List Nat) (v619 : Int) : (den TT (tabD laws_heldMatrix_tab) (tabM laws_heldMatrix_tab) (laws_heldMatrix_LO v616 v617 v618 v619) (codeOf Try.f23) ([.agg [.int .i64 v616, .int .i64 v617, .bslc (BR.root 0) (.f32 v618)], .int .i64 v619] ++ List.replicate (Try.f23.ntmps - ([.agg [.int .i64 v616, .int .i64 v617, .bslc (BR.root 0) (.f32 v618)], .int .i64 v619] : List DV).length) .undef) []).bind (retD TT Try.f23.results.toList 0) = (laws_heldMatrix_T v618 v619).bind fun y => .leaf (laws_heldMatrix_enc v616 v617 v618 v619 y) := by kernel_rfl
theorem laws_heldMatrix_fn (v616 : Int) (v617 : Int) (v618 : List Nat) (v619 : Int) (F : Fr) (hm : F.ids.length = 0) (h0 : St F [] F.H0) (hA : DVs.Ok F [] [.agg [.int .i64 v616, .int .i64 v617, .bslc (BR.root 0) (.f32 v618)], .int .i64 v619]) {y : Int} (hy : laws_heldMatrix_g v618 v619 = some y) : ∃ H', FnOk Try.prog 23 (DVs.av F [.agg [.int .i64 v616, .int .i64 v617, .bslc (BR.root 0) (.f32 v618)], .int .i64 v619]) F.H0 ((laws_heldMatrix_enc v616 v617 v618 v619 y).1.av F) H' ∧ St F (laws_heldMatrix_enc v616 v617 v618 v619 y).2 H' ∧ (laws_heldMatrix_enc v616 v617 v618 v619 y).1.Ok F (laws_heldMatrix_enc v616 v617 v618 v619 y).2 :=
  fn_fin tok laws_heldMatrix_hO mixed Try.func23 Try.call23 (by kernel_rfl) (LoopsOk_eq (l := []) (by kernel_rfl) trivial) (laws_heldMatrix_den v616 v617 v618 v619) hy hm h0 hA
noncomputable def laws_heldMatrix_F : DFn := fun args L =>
  match args with
  | [.agg [.int .i64 v616, .int .i64 v617, a1], .int .i64 v619] =>
    optT (rowF32 L a1) fun v618 =>
    .call (laws_heldMatrix_g v618 v619) fun y => .leaf (.int .i64 y, L)
  | _ => .fail
theorem laws_heldMatrix_Fok : COk Try.prog 23 laws_heldMatrix_F true := by
  intro F L H args r L' hs ha hr
  unfold laws_heldMatrix_F at hr
  split at hr
  · rename_i v616 v617 a1 v619
    obtain ⟨v618, hv618, hr⟩ := optT_run hr
    simp only [Tree.run] at hr
    obtain ⟨y, hy, hr⟩ := Option.bind_eq_some_iff.1 hr
    simp only [Tree.run, Option.some.injEq, Prod.mk.injEq] at hr
    obtain ⟨rfl, rfl⟩ := hr
    exact call_ok0 hs (fun k => (([a1.av F] : List AV)[k]?).getD .top) [.agg [.int .i64 v616, .int .i64 v617, a1], .int .i64 v619] [.agg [.int .i64 v616, .int .i64 v617, .bslc (BR.root 0) (.f32 v618)], .int .i64 v619] (fun F' h0 hi hρ => ⟨by simp [DVs.av, DV.av, BR.av, hρ], laws_heldMatrix_fn v616 v617 v618 v619 F' (by rw [hi]; rfl) (st_nil hi) ⟨⟨trivial, trivial, bslc_ok hi (by rw [h0, hρ]; exact rowF32_ok hs (DVs.okAt (DVs.okAt ha 0 rfl) 2 rfl) hv618), trivial⟩, trivial, trivial⟩ hy⟩) rfl
  · cases hr
/-! laws.FnExactMulBlocks -/
noncomputable def laws_FnExactMulBlocks_LO (v1 : Int) (v2 : Int) (v3 : List Nat) (v4 : Int) (v5 : Int) (v6 : List Nat) (v7 : Int) : LOr := fun id e L =>
  match id with
  | _ => .fail
noncomputable def laws_FnExactMulBlocks_tab : List (FuncId × DFn × Bool) := [(15, laws_szMatrix_F, true), (17, laws_toMatrix_F, true), (27, spec_MulBlocks_F, true), (28, impl_MulBlocks_F, true), (19, laws_eqMatrix_F, true), (21, (orD (fun args => match args with | [.agg [_, _, .nilslc], _] => true | _ => false) laws_markMatrix_i1_F laws_markMatrix_F), false), (23, laws_heldMatrix_F, true)]
theorem laws_FnExactMulBlocks_hO : OrcOk Try.prog (tabD laws_FnExactMulBlocks_tab) (tabM laws_FnExactMulBlocks_tab) := tabD_cons laws_szMatrix_Fok (tabD_cons laws_toMatrix_Fok (tabD_cons spec_MulBlocks_Fok (tabD_cons impl_MulBlocks_Fok (tabD_cons laws_eqMatrix_Fok (tabD_cons (orD_ok (COk.weak laws_markMatrix_i1_Fok) laws_markMatrix_Fok) (tabD_cons laws_heldMatrix_Fok (tabD_nil _)))))))
noncomputable def laws_FnExactMulBlocks_T (v1 : Int) (v2 : Int) (v3 : List Nat) (v4 : Int) (v5 : Int) (v6 : List Nat) (v7 : Int) : Tree (Bool) :=
  (.br (decide ((laws_szMatrix_v v3 (1048576 : Int)) < (0 : Int))) (
   .leaf true
  ) (
   (.br (decide ((laws_szMatrix_v v6 (laws_szMatrix_v v3 (1048576 : Int))) < (0 : Int))) (
    .leaf true
   ) (
    (.call (laws_toMatrix_g v1 v2 v3) fun v25 =>
    (.call (laws_toMatrix_g v4 v5 v6) fun v26 =>
    (.call (spec_MulBlocks_g v25.1 v25.2.1 v25.2.2 v26.1 v26.2.1 v26.2.2 v7) fun v340 =>
    (.sum v340 (fun v341 =>
     (.call (laws_toMatrix_g v1 v2 v3) fun v343 =>
     (.call (laws_toMatrix_g v4 v5 v6) fun v344 =>
     (.call (impl_MulBlocks_g v343.1 v343.2.1 v343.2.2 v344.1 v344.2.1 v344.2.2 v7) fun v555 =>
     (.sum v555 (fun v556 =>
      (.call (laws_eqMatrix_g (0 : Int) (0 : Int) ([] : List Nat) (0 : Int) (0 : Int) ([] : List Nat)) fun v575 =>
      (.br (!v575) (
       .leaf false
      ) (
       (.br (!(false == false)) (
        .leaf false
       ) (
        (.call (laws_toMatrix_g v1 v2 v3) fun v576 =>
        (.call (laws_eqMatrix_g v343.1 v343.2.1 v343.2.2 v576.1 v576.2.1 v576.2.2) fun v577 =>
        (.br (!v577) (
         .leaf false
        ) (
         (.call (laws_toMatrix_g v4 v5 v6) fun v578 =>
         (.call (laws_eqMatrix_g v344.1 v344.2.1 v344.2.2 v578.1 v578.2.1 v578.2.2) fun v579 =>
         (.br (!v579) (
          .leaf false
         ) (
          (.call (laws_markMatrix_g v343.2.2 (1 : Int)) fun v604 =>
          (.grd (decide (v604.2.length = v343.2.2.length)) <|
          (.call (laws_markMatrix_g v344.2.2 v604.1) fun v605 =>
          (.grd (decide (v605.2.length = v344.2.2.length)) <|
          (.br (decide (v605.1 < (0 : Int))) (
           .leaf false
          ) (
           (.call (laws_eqMatrix_g (0 : Int) (0 : Int) ([] : List Nat) (0 : Int) (0 : Int) ([] : List Nat)) fun v606 =>
           (.br (!v606) (
            .leaf false
           ) (
            (.br (!(false == false)) (
             .leaf false
            ) (
             (.call (laws_markMatrix_i1_g (1 : Int)) fun v615 =>
             (.call (laws_heldMatrix_g ([] : List Nat) (1 : Int)) fun v632 =>
             (.br (decide (v632 < (0 : Int))) (
              .leaf false
             ) (
              (.br (!decide (v632 = v615)) (
               .leaf false
              ) (
               (.call (laws_toMatrix_g v1 v2 v3) fun v633 =>
               (.call (laws_toMatrix_g v4 v5 v6) fun v634 =>
               (.call (impl_MulBlocks_g v633.1 v633.2.1 v633.2.2 v634.1 v634.2.1 v634.2.2 v7) fun v635 =>
               (.sum v635 (fun v636 =>
                (.call (laws_eqMatrix_g (0 : Int) (0 : Int) ([] : List Nat) (0 : Int) (0 : Int) ([] : List Nat)) fun v638 =>
                (.br (!v638) (
                 .leaf false
                ) (
                 (.br (!(false == false)) (
                  .leaf false
                 ) (
                  (.call (laws_heldMatrix_g ([] : List Nat) (1 : Int)) fun v639 =>
                  (.br (decide (v639 < (0 : Int))) (
                   .leaf false
                  ) (
                   (.br (!decide (v639 = v615)) (
                    .leaf false
                   ) (
                    .leaf true
                   ))
                  )))
                 ))
                )))
               ) (fun v637 =>
                (.call (laws_eqMatrix_g v637.1 v637.2.1 v637.2.2 (0 : Int) (0 : Int) ([] : List Nat)) fun v640 =>
                (.br (!v640) (
                 .leaf false
                ) (
                 (.br (!(true == false)) (
                  .leaf false
                 ) (
                  (.call (laws_heldMatrix_g ([] : List Nat) (1 : Int)) fun v641 =>
                  (.br (decide (v641 < (0 : Int))) (
                   .leaf false
                  ) (
                   (.br (!decide (v641 = v615)) (
                    .leaf false
                   ) (
                    .leaf true
                   ))
                  )))
                 ))
                )))
               )))))
              ))
             ))))
            ))
           )))
          ))))))
         ))))
        ))))
       ))
      )))
     ) (fun v557 =>
      (.call (laws_eqMatrix_g v557.1 v557.2.1 v557.2.2 (0 : Int) (0 : Int) ([] : List Nat)) fun v642 =>
      (.br (!v642) (
       .leaf false
      ) (
       (.br (!(true == false)) (
        .leaf false
       ) (
        (.call (laws_toMatrix_g v1 v2 v3) fun v643 =>
        (.call (laws_eqMatrix_g v343.1 v343.2.1 v343.2.2 v643.1 v643.2.1 v643.2.2) fun v644 =>
        (.br (!v644) (
         .leaf false
        ) (
         (.call (laws_toMatrix_g v4 v5 v6) fun v645 =>
         (.call (laws_eqMatrix_g v344.1 v344.2.1 v344.2.2 v645.1 v645.2.1 v645.2.2) fun v646 =>
         (.br (!v646) (
          .leaf false
         ) (
          (.call (laws_markMatrix_g v343.2.2 (1 : Int)) fun v647 =>
          (.grd (decide (v647.2.length = v343.2.2.length)) <|
          (.call (laws_markMatrix_g v344.2.2 v647.1) fun v648 =>
          (.grd (decide (v648.2.length = v344.2.2.length)) <|
          (.br (decide (v648.1 < (0 : Int))) (
           .leaf false
          ) (
           (.call (laws_eqMatrix_g v557.1 v557.2.1 v557.2.2 (0 : Int) (0 : Int) ([] : List Nat)) fun v649 =>
           (.br (!v649) (
            .leaf false
           ) (
            (.br (!(true == false)) (
             .leaf false
            ) (
             (.call (laws_markMatrix_g v557.2.2 (1 : Int)) fun v650 =>
             (.grd (decide (v650.2.length = v557.2.2.length)) <|
             (.call (laws_heldMatrix_g v650.2 (1 : Int)) fun v651 =>
             (.br (decide (v651 < (0 : Int))) (
              .leaf false
             ) (
              (.br (!decide (v651 = v650.1)) (
               .leaf false
              ) (
               (.call (laws_toMatrix_g v1 v2 v3) fun v652 =>
               (.call (laws_toMatrix_g v4 v5 v6) fun v653 =>
               (.call (impl_MulBlocks_g v652.1 v652.2.1 v652.2.2 v653.1 v653.2.1 v653.2.2 v7) fun v654 =>
               (.sum v654 (fun v655 =>
                (.call (laws_eqMatrix_g (0 : Int) (0 : Int) ([] : List Nat) (0 : Int) (0 : Int) ([] : List Nat)) fun v657 =>
                (.br (!v657) (
                 .leaf false
                ) (
                 (.br (!(false == false)) (
                  .leaf false
                 ) (
                  (.call (laws_heldMatrix_g v650.2 (1 : Int)) fun v658 =>
                  (.br (decide (v658 < (0 : Int))) (
                   .leaf false
                  ) (
                   (.br (!decide (v658 = v650.1)) (
                    .leaf false
                   ) (
                    .leaf true
                   ))
                  )))
                 ))
                )))
               ) (fun v656 =>
                (.call (laws_eqMatrix_g v656.1 v656.2.1 v656.2.2 (0 : Int) (0 : Int) ([] : List Nat)) fun v659 =>
                (.br (!v659) (
                 .leaf false
                ) (
                 (.br (!(true == false)) (
                  .leaf false
                 ) (
                  (.call (laws_heldMatrix_g v650.2 (1 : Int)) fun v660 =>
                  (.br (decide (v660 < (0 : Int))) (
                   .leaf false
                  ) (
                   (.br (!decide (v660 = v650.1)) (
                    .leaf false
                   ) (
                    .leaf true
                   ))
                  )))
                 ))
                )))
               )))))
              ))
             )))))
            ))
           )))
          ))))))
         ))))
        ))))
       ))
      )))
     )))))
    ) (fun v342 =>
     (.call (laws_toMatrix_g v1 v2 v3) fun v661 =>
     (.call (laws_toMatrix_g v4 v5 v6) fun v662 =>
     (.call (impl_MulBlocks_g v661.1 v661.2.1 v661.2.2 v662.1 v662.2.1 v662.2.2 v7) fun v663 =>
     (.sum v663 (fun v664 =>
      (.call (laws_eqMatrix_g (0 : Int) (0 : Int) ([] : List Nat) v342.1 v342.2.1 v342.2.2) fun v666 =>
      (.br (!v666) (
       .leaf false
      ) (
       (.br (!(false == true)) (
        .leaf false
       ) (
        (.call (laws_toMatrix_g v1 v2 v3) fun v667 =>
        (.call (laws_eqMatrix_g v661.1 v661.2.1 v661.2.2 v667.1 v667.2.1 v667.2.2) fun v668 =>
        (.br (!v668) (
         .leaf false
        ) (
         (.call (laws_toMatrix_g v4 v5 v6) fun v669 =>
         (.call (laws_eqMatrix_g v662.1 v662.2.1 v662.2.2 v669.1 v669.2.1 v669.2.2) fun v670 =>
         (.br (!v670) (
          .leaf false
         ) (
          (.call (laws_markMatrix_g v661.2.2 (1 : Int)) fun v671 =>
          (.grd (decide (v671.2.length = v661.2.2.length)) <|
          (.call (laws_markMatrix_g v662.2.2 v671.1) fun v672 =>
          (.grd (decide (v672.2.length = v662.2.2.length)) <|
          (.br (decide (v672.1 < (0 : Int))) (
           .leaf false
          ) (
           (.call (laws_eqMatrix_g (0 : Int) (0 : Int) ([] : List Nat) v342.1 v342.2.1 v342.2.2) fun v673 =>
           (.br (!v673) (
            .leaf false
           ) (
            (.br (!(false == true)) (
             .leaf false
            ) (
             (.call (laws_markMatrix_i1_g (1 : Int)) fun v674 =>
             (.call (laws_heldMatrix_g ([] : List Nat) (1 : Int)) fun v675 =>
             (.br (decide (v675 < (0 : Int))) (
              .leaf false
             ) (
              (.br (!decide (v675 = v674)) (
               .leaf false
              ) (
               (.call (laws_toMatrix_g v1 v2 v3) fun v676 =>
               (.call (laws_toMatrix_g v4 v5 v6) fun v677 =>
               (.call (impl_MulBlocks_g v676.1 v676.2.1 v676.2.2 v677.1 v677.2.1 v677.2.2 v7) fun v678 =>
               (.sum v678 (fun v679 =>
                (.call (laws_eqMatrix_g (0 : Int) (0 : Int) ([] : List Nat) v342.1 v342.2.1 v342.2.2) fun v681 =>
                (.br (!v681) (
                 .leaf false
                ) (
                 (.br (!(false == true)) (
                  .leaf false
                 ) (
                  (.call (laws_heldMatrix_g ([] : List Nat) (1 : Int)) fun v682 =>
                  (.br (decide (v682 < (0 : Int))) (
                   .leaf false
                  ) (
                   (.br (!decide (v682 = v674)) (
                    .leaf false
                   ) (
                    .leaf true
                   ))
                  )))
                 ))
                )))
               ) (fun v680 =>
                (.call (laws_eqMatrix_g v680.1 v680.2.1 v680.2.2 v342.1 v342.2.1 v342.2.2) fun v683 =>
                (.br (!v683) (
                 .leaf false
                ) (
                 (.br (!(true == true)) (
                  .leaf false
                 ) (
                  (.call (laws_heldMatrix_g ([] : List Nat) (1 : Int)) fun v684 =>
                  (.br (decide (v684 < (0 : Int))) (
                   .leaf false
                  ) (
                   (.br (!decide (v684 = v674)) (
                    .leaf false
                   ) (
                    .leaf true
                   ))
                  )))
                 ))
                )))
               )))))
              ))
             ))))
            ))
           )))
          ))))))
         ))))
        ))))
       ))
      )))
     ) (fun v665 =>
      (.call (laws_eqMatrix_g v665.1 v665.2.1 v665.2.2 v342.1 v342.2.1 v342.2.2) fun v685 =>
      (.br (!v685) (
       .leaf false
      ) (
       (.br (!(true == true)) (
        .leaf false
       ) (
        (.call (laws_toMatrix_g v1 v2 v3) fun v686 =>
        (.call (laws_eqMatrix_g v661.1 v661.2.1 v661.2.2 v686.1 v686.2.1 v686.2.2) fun v687 =>
        (.br (!v687) (
         .leaf false
        ) (
         (.call (laws_toMatrix_g v4 v5 v6) fun v688 =>
         (.call (laws_eqMatrix_g v662.1 v662.2.1 v662.2.2 v688.1 v688.2.1 v688.2.2) fun v689 =>
         (.br (!v689) (
          .leaf false
         ) (
          (.call (laws_markMatrix_g v661.2.2 (1 : Int)) fun v690 =>
          (.grd (decide (v690.2.length = v661.2.2.length)) <|
          (.call (laws_markMatrix_g v662.2.2 v690.1) fun v691 =>
          (.grd (decide (v691.2.length = v662.2.2.length)) <|
          (.br (decide (v691.1 < (0 : Int))) (
           .leaf false
          ) (
           (.call (laws_eqMatrix_g v665.1 v665.2.1 v665.2.2 v342.1 v342.2.1 v342.2.2) fun v692 =>
           (.br (!v692) (
            .leaf false
           ) (
            (.br (!(true == true)) (
             .leaf false
            ) (
             (.call (laws_markMatrix_g v665.2.2 (1 : Int)) fun v693 =>
             (.grd (decide (v693.2.length = v665.2.2.length)) <|
             (.call (laws_heldMatrix_g v693.2 (1 : Int)) fun v694 =>
             (.br (decide (v694 < (0 : Int))) (
              .leaf false
             ) (
              (.br (!decide (v694 = v693.1)) (
               .leaf false
              ) (
               (.call (laws_toMatrix_g v1 v2 v3) fun v695 =>
               (.call (laws_toMatrix_g v4 v5 v6) fun v696 =>
               (.call (impl_MulBlocks_g v695.1 v695.2.1 v695.2.2 v696.1 v696.2.1 v696.2.2 v7) fun v697 =>
               (.sum v697 (fun v698 =>
                (.call (laws_eqMatrix_g (0 : Int) (0 : Int) ([] : List Nat) v342.1 v342.2.1 v342.2.2) fun v700 =>
                (.br (!v700) (
                 .leaf false
                ) (
                 (.br (!(false == true)) (
                  .leaf false
                 ) (
                  (.call (laws_heldMatrix_g v693.2 (1 : Int)) fun v701 =>
                  (.br (decide (v701 < (0 : Int))) (
                   .leaf false
                  ) (
                   (.br (!decide (v701 = v693.1)) (
                    .leaf false
                   ) (
                    .leaf true
                   ))
                  )))
                 ))
                )))
               ) (fun v699 =>
                (.call (laws_eqMatrix_g v699.1 v699.2.1 v699.2.2 v342.1 v342.2.1 v342.2.2) fun v702 =>
                (.br (!v702) (
                 .leaf false
                ) (
                 (.br (!(true == true)) (
                  .leaf false
                 ) (
                  (.call (laws_heldMatrix_g v693.2 (1 : Int)) fun v703 =>
                  (.br (decide (v703 < (0 : Int))) (
                   .leaf false
                  ) (
                   (.br (!decide (v703 = v693.1)) (
                    .leaf false
                   ) (
                    .leaf true
                   ))
                  )))
                 ))
                )))
               )))))
              ))
             )))))
            ))
           )))
          ))))))
         ))))
        ))))
       ))
      )))
     )))))
    )))))
   ))
  ))

noncomputable def laws_FnExactMulBlocks_g (v1 : Int) (v2 : Int) (v3 : List Nat) (v4 : Int) (v5 : Int) (v6 : List Nat) (v7 : Int) : Option (Bool) := (laws_FnExactMulBlocks_T v1 v2 v3 v4 v5 v6 v7).run
def laws_FnExactMulBlocks_enc (v1 : Int) (v2 : Int) (v3 : List Nat) (v4 : Int) (v5 : Int) (v6 : List Nat) (v7 : Int) (y : Bool) : Rs := (.bool y, [])
theorem laws_FnExactMulBlocks_den (v1 : Int) (v2 : Int) (v3 : List Nat) (v4 : Int) (v5 : Int) (v6 : List Nat) (v7 : Int) : (den TT (tabD laws_FnExactMulBlocks_tab) (tabM laws_FnExactMulBlocks_tab) (laws_FnExactMulBlocks_LO v1 v2 v3 v4 v5 v6 v7) (codeOf Try.f5) ([.agg [.int .i64 v1, .int .i64 v2, .bslc (BR.root 0) (.f32 v3)], .agg [.int .i64 v4, .int .i64 v5, .bslc (BR.root 1) (.f32 v6)], .int .i64 v7] ++ List.replicate (Try.f5.ntmps - ([.agg [.int .i64 v1, .int .i64 v2, .bslc (BR.root 0) (.f32 v3)], .agg [.int .i64 v4, .int .i64 v5, .bslc (BR.root 1) (.f32 v6)], .int .i64 v7] : List DV).length) .undef) []).bind (retD TT Try.f5.results.toList 0) = (laws_FnExactMulBlocks_T v1 v2 v3 v4 v5 v6 v7).bind fun y => .leaf (laws_FnExactMulBlocks_enc v1 v2 v3 v4 v5 v6 v7 y) := by kernel_rfl
theorem laws_FnExactMulBlocks_fn (v1 : Int) (v2 : Int) (v3 : List Nat) (v4 : Int) (v5 : Int) (v6 : List Nat) (v7 : Int) (F : Fr) (hm : F.ids.length = 0) (h0 : St F [] F.H0) (hA : DVs.Ok F [] [.agg [.int .i64 v1, .int .i64 v2, .bslc (BR.root 0) (.f32 v3)], .agg [.int .i64 v4, .int .i64 v5, .bslc (BR.root 1) (.f32 v6)], .int .i64 v7]) {y : Bool} (hy : laws_FnExactMulBlocks_g v1 v2 v3 v4 v5 v6 v7 = some y) : ∃ H', FnOk Try.prog 5 (DVs.av F [.agg [.int .i64 v1, .int .i64 v2, .bslc (BR.root 0) (.f32 v3)], .agg [.int .i64 v4, .int .i64 v5, .bslc (BR.root 1) (.f32 v6)], .int .i64 v7]) F.H0 ((laws_FnExactMulBlocks_enc v1 v2 v3 v4 v5 v6 v7 y).1.av F) H' ∧ St F (laws_FnExactMulBlocks_enc v1 v2 v3 v4 v5 v6 v7 y).2 H' ∧ (laws_FnExactMulBlocks_enc v1 v2 v3 v4 v5 v6 v7 y).1.Ok F (laws_FnExactMulBlocks_enc v1 v2 v3 v4 v5 v6 v7 y).2 :=
  fn_fin tok laws_FnExactMulBlocks_hO mixed Try.func5 Try.call5 (by kernel_rfl) (LoopsOk_eq (l := []) (by kernel_rfl) trivial) (laws_FnExactMulBlocks_den v1 v2 v3 v4 v5 v6 v7) hy hm h0 hA
noncomputable def laws_FnExactMulBlocks_F : DFn := fun args L =>
  match args with
  | [.agg [.int .i64 v1, .int .i64 v2, a1], .agg [.int .i64 v4, .int .i64 v5, a2], .int .i64 v7] =>
    optT (rowF32 L a1) fun v3 =>
    optT (rowF32 L a2) fun v6 =>
    .call (laws_FnExactMulBlocks_g v1 v2 v3 v4 v5 v6 v7) fun y => .leaf (.bool y, L)
  | _ => .fail
theorem laws_FnExactMulBlocks_Fok : COk Try.prog 5 laws_FnExactMulBlocks_F true := by
  intro F L H args r L' hs ha hr
  unfold laws_FnExactMulBlocks_F at hr
  split at hr
  · rename_i v1 v2 a1 v4 v5 a2 v7
    obtain ⟨v3, hv3, hr⟩ := optT_run hr
    obtain ⟨v6, hv6, hr⟩ := optT_run hr
    simp only [Tree.run] at hr
    obtain ⟨y, hy, hr⟩ := Option.bind_eq_some_iff.1 hr
    simp only [Tree.run, Option.some.injEq, Prod.mk.injEq] at hr
    obtain ⟨rfl, rfl⟩ := hr
    exact call_ok0 hs (fun k => (([a1.av F, a2.av F] : List AV)[k]?).getD .top) [.agg [.int .i64 v1, .int .i64 v2, a1], .agg [.int .i64 v4, .int .i64 v5, a2], .int .i64 v7] [.agg [.int .i64 v1, .int .i64 v2, .bslc (BR.root 0) (.f32 v3)], .agg [.int .i64 v4, .int .i64 v5, .bslc (BR.root 1) (.f32 v6)], .int .i64 v7] (fun F' h0 hi hρ => ⟨by simp [DVs.av, DV.av, BR.av, hρ], laws_FnExactMulBlocks_fn v1 v2 v3 v4 v5 v6 v7 F' (by rw [hi]; rfl) (st_nil hi) ⟨⟨trivial, trivial, bslc_ok hi (by rw [h0, hρ]; exact rowF32_ok hs (DVs.okAt (DVs.okAt ha 0 rfl) 2 rfl) hv3), trivial⟩, ⟨trivial, trivial, bslc_ok hi (by rw [h0, hρ]; exact rowF32_ok hs (DVs.okAt (DVs.okAt ha 1 rfl) 2 rfl) hv6), trivial⟩, trivial, trivial⟩ hy⟩) rfl
  · cases hr
/-! laws.szFloat32S -/
noncomputable def laws_szFloat32S_len_LO (v715 : Nat) (v716 : Int) : LOr := fun id e L =>
  match id with
  | _ => .fail
noncomputable def laws_szFloat32S_len_tab : List (FuncId × DFn × Bool) := []
theorem laws_szFloat32S_len_hO : OrcOk Try.prog (tabD laws_szFloat32S_len_tab) (tabM laws_szFloat32S_len_tab) := tabD_nil _
noncomputable def laws_szFloat32S_len_T (v715 : Nat) (v716 : Int) : Tree (Int) :=
  (.br (decide (IntKind.i64.wrap (v716 - ((v715 : Nat) : Int)) < (0 : Int))) (
   .leaf (-1 : Int)
  ) (
   .leaf (IntKind.i64.wrap (v716 - ((v715 : Nat) : Int)))
  ))

noncomputable def laws_szFloat32S_len_g (v715 : Nat) (v716 : Int) : Option (Int) := (laws_szFloat32S_len_T v715 v716).run
def laws_szFloat32S_len_enc (v715 : Nat) (v716 : Int) (y : Int) : Rs := (.int .i64 y, [])
theorem laws_szFloat32S_len_den (v715 : Nat) (v716 : Int) : (den TT (tabD laws_szFloat32S_len_tab) (tabM laws_szFloat32S_len_tab) (laws_szFloat32S_len_LO v715 v716) (codeOf Try.f56) ([.hslc (BR.root 0) v715, .int .i64 v716] ++ List.replicate (Try.f56.ntmps - ([.hslc (BR.root 0) v715, .int .i64 v716] : List DV).length) .undef) []).bind (retD TT Try.f56.results.toList 0) = (laws_szFloat32S_len_T v715 v716).bind fun y => .leaf (laws_szFloat32S_len_enc v715 v716 y) := by kernel_rfl
theorem laws_szFloat32S_len_fn (v715 : Nat) (v716 : Int) (F : Fr) (hm : F.ids.length = 0) (h0 : St F [] F.H0) (hA : DVs.Ok F [] [.hslc (BR.root 0) v715, .int .i64 v716]) {y : Int} (hy : laws_szFloat32S_len_g v715 v716 = some y) : ∃ H', FnOk Try.prog 56 (DVs.av F [.hslc (BR.root 0) v715, .int .i64 v716]) F.H0 ((laws_szFloat32S_len_enc v715 v716 y).1.av F) H' ∧ St F (laws_szFloat32S_len_enc v715 v716 y).2 H' ∧ (laws_szFloat32S_len_enc v715 v716 y).1.Ok F (laws_szFloat32S_len_enc v715 v716 y).2 :=
  fn_fin tok laws_szFloat32S_len_hO mixed Try.func56 Try.call56 (by kernel_rfl) (LoopsOk_eq (l := []) (by kernel_rfl) trivial) (laws_szFloat32S_len_den v715 v716) hy hm h0 hA
def laws_szFloat32S_len_v (v715 : Nat) (v716 : Int) : Int :=
  if (decide (IntKind.i64.wrap (v716 - ((v715 : Nat) : Int)) < (0 : Int))) = true then (
   (-1 : Int)
  ) else (
   IntKind.i64.wrap (v716 - ((v715 : Nat) : Int))
  )
theorem laws_szFloat32S_len_tot (v715 : Nat) (v716 : Int) : laws_szFloat32S_len_g v715 v716 = some (laws_szFloat32S_len_v v715 v716) := by
  unfold laws_szFloat32S_len_g laws_szFloat32S_len_T laws_szFloat32S_len_v
  simp only [Tree.run]
  repeat' (first | rfl | split)
noncomputable def laws_szFloat32S_len_F : DFn := fun args L =>
  match args with
  | [a1, .int .i64 v716] =>
    optT (lenV L a1) fun v715 =>
    .leaf (.int .i64 (laws_szFloat32S_len_v v715 v716), L)
  | _ => .fail
theorem laws_szFloat32S_len_Fok : COk Try.prog 56 laws_szFloat32S_len_F true := by
  intro F L H args r L' hs ha hr
  unfold laws_szFloat32S_len_F at hr
  split at hr
  · rename_i a1 v716
    obtain ⟨v715, hv715, hr⟩ := optT_run hr
    have hy := laws_szFloat32S_len_tot v715 v716
    generalize laws_szFloat32S_len_v v715 v716 = y at hy hr
    simp only [Tree.run, Option.some.injEq, Prod.mk.injEq] at hr
    obtain ⟨rfl, rfl⟩ := hr
    exact call_ok0 hs (fun k => (([a1.av F] : List AV)[k]?).getD .top) [a1, .int .i64 v716] [.hslc (BR.root 0) v715, .int .i64 v716] (fun F' h0 hi hρ => ⟨by simp [DVs.av, DV.av, BR.av, hρ], laws_szFloat32S_len_fn v715 v716 F' (by rw [hi]; rfl) (st_nil hi) ⟨hslc_ok hi (by rw [h0, hρ]; exact lenV_ok hs (DVs.okAt ha 0 rfl) hv715), trivial, trivial⟩ hy⟩) rfl
  · cases hr
/-! laws.szMatrix -/
noncomputable def laws_szMatrix_len_LO (v711 : Int) (v712 : Int) (v713 : Nat) (v714 : Int) : LOr := fun id e L =>
  match id with
  | _ => .fail
noncomputable def laws_szMatrix_len_tab : List (FuncId × DFn × Bool) := [(56, laws_szFloat32S_len_F, true)]
theorem laws_szMatrix_len_hO : OrcOk Try.prog (tabD laws_szMatrix_len_tab) (tabM laws_szMatrix_len_tab) := tabD_cons laws_szFloat32S_len_Fok (tabD_nil _)
noncomputable def laws_szMatrix_len_T (v713 : Nat) (v714 : Int) : Tree (Int) :=
  (.br (decide ((laws_szFloat32S_len_v v713 v714) < (0 : Int))) (
   .leaf (-1 : Int)
  ) (
   .leaf (laws_szFloat32S_len_v v713 v714)
  ))

noncomputable def laws_szMatrix_len_g (v713 : Nat) (v714 : Int) : Option (Int) := (laws_szMatrix_len_T v713 v714).run
def laws_szMatrix_len_enc (v711 : Int) (v712 : Int) (v713 : Nat) (v714 : Int) (y : Int) : Rs := (.int .i64 y, [])
theorem laws_szMatrix_len_den (v711 : Int) (v712 : Int) (v713 : Nat) (v714 : Int) : (den TT (tabD laws_szMatrix_len_tab) (tabM laws_szMatrix_len_tab) (laws_szMatrix_len_LO v711 v712 v713 v714) (codeOf Try.f15) ([.agg [.int .i64 v711, .int .i64 v712, .hslc (BR.root 0) v713], .int .i64 v714] ++ List.replicate (Try.f15.ntmps - ([.agg [.int .i64 v711, .int .i64 v712, .hslc (BR.root 0) v713], .int .i64 v714] : List DV).length) .undef) []).bind (retD TT Try.f15.results.toList 0) = (laws_szMatrix_len_T v713 v714).bind fun y => .leaf (laws_szMatrix_len_enc v711 v712 v713 v714 y) := by kernel_rfl
theorem laws_szMatrix_len_fn (v711 : Int) (v712 : Int) (v713 : Nat) (v714 : Int) (F : Fr) (hm : F.ids.length = 0) (h0 : St F [] F.H0) (hA : DVs.Ok F [] [.agg [.int .i64 v711, .int .i64 v712, .hslc (BR.root 0) v713], .int .i64 v714]) {y : Int} (hy : laws_szMatrix_len_g v713 v714 = some y) : ∃ H', FnOk Try.prog 15 (DVs.av F [.agg [.int .i64 v711, .int .i64 v712, .hslc (BR.root 0) v713], .int .i64 v714]) F.H0 ((laws_szMatrix_len_enc v711 v712 v713 v714 y).1.av F) H' ∧ St F (laws_szMatrix_len_enc v711 v712 v713 v714 y).2 H' ∧ (laws_szMatrix_len_enc v711 v712 v713 v714 y).1.Ok F (laws_szMatrix_len_enc v711 v712 v713 v714 y).2 :=
  fn_fin tok laws_szMatrix_len_hO mixed Try.func15 Try.call15 (by kernel_rfl) (LoopsOk_eq (l := []) (by kernel_rfl) trivial) (laws_szMatrix_len_den v711 v712 v713 v714) hy hm h0 hA
def laws_szMatrix_len_v (v713 : Nat) (v714 : Int) : Int :=
  if (decide ((laws_szFloat32S_len_v v713 v714) < (0 : Int))) = true then (
   (-1 : Int)
  ) else (
   (laws_szFloat32S_len_v v713 v714)
  )
theorem laws_szMatrix_len_tot (v713 : Nat) (v714 : Int) : laws_szMatrix_len_g v713 v714 = some (laws_szMatrix_len_v v713 v714) := by
  unfold laws_szMatrix_len_g laws_szMatrix_len_T laws_szMatrix_len_v
  simp only [Tree.run]
  repeat' (first | rfl | split)
noncomputable def laws_szMatrix_len_F : DFn := fun args L =>
  match args with
  | [.agg [.int .i64 v711, .int .i64 v712, a1], .int .i64 v714] =>
    optT (lenV L a1) fun v713 =>
    .leaf (.int .i64 (laws_szMatrix_len_v v713 v714), L)
  | _ => .fail
theorem laws_szMatrix_len_Fok : COk Try.prog 15 laws_szMatrix_len_F true := by
  intro F L H args r L' hs ha hr
  unfold laws_szMatrix_len_F at hr
  split at hr
  · rename_i v711 v712 a1 v714
    obtain ⟨v713, hv713, hr⟩ := optT_run hr
    have hy := laws_szMatrix_len_tot v713 v714
    generalize laws_szMatrix_len_v v713 v714 = y at hy hr
    simp only [Tree.run, Option.some.injEq, Prod.mk.injEq] at hr
    obtain ⟨rfl, rfl⟩ := hr
    exact call_ok0 hs (fun k => (([a1.av F] : List AV)[k]?).getD .top) [.agg [.int .i64 v711, .int .i64 v712, a1], .int .i64 v714] [.agg [.int .i64 v711, .int .i64 v712, .hslc (BR.root 0) v713], .int .i64 v714] (fun F' h0 hi hρ => ⟨by simp [DVs.av, DV.av, BR.av, hρ], laws_szMatrix_len_fn v711 v712 v713 v714 F' (by rw [hi]; rfl) (st_nil hi) ⟨⟨trivial, trivial, hslc_ok hi (by rw [h0, hρ]; exact lenV_ok hs (DVs.okAt (DVs.okAt ha 0 rfl) 2 rfl) hv713), trivial⟩, trivial, trivial⟩ hy⟩) rfl
  · cases hr
/-! laws.FnExactMulBlocks -/
noncomputable def laws_FnExactMulBlocks_len_LO (v704 : Int) (v705 : Int) (v706 : Nat) (v707 : Int) (v708 : Int) (v709 : Nat) (v710 : Int) : LOr := fun id e L =>
  match id with
  | _ => .fail
noncomputable def laws_FnExactMulBlocks_len_tab : List (FuncId × DFn × Bool) := [(15, laws_szMatrix_len_F, true)]
theorem laws_FnExactMulBlocks_len_hO : OrcOk Try.prog (tabD laws_FnExactMulBlocks_len_tab) (tabM laws_FnExactMulBlocks_len_tab) := tabD_cons laws_szMatrix_len_Fok (tabD_nil _)
noncomputable def laws_FnExactMulBlocks_len_T (v706 : Nat) (v709 : Nat) : Tree (Bool) :=
  (.br (decide ((laws_szMatrix_len_v v706 (1048576 : Int)) < (0 : Int))) (
   .leaf true
  ) (
   (.br (decide ((laws_szMatrix_len_v v709 (laws_szMatrix_len_v v706 (1048576 : Int))) < (0 : Int))) (
    .leaf true
   ) (
    .fail
   ))
  ))

noncomputable def laws_FnExactMulBlocks_len_g (v706 : Nat) (v709 : Nat) : Option (Bool) := (laws_FnExactMulBlocks_len_T v706 v709).run
def laws_FnExactMulBlocks_len_enc (v704 : Int) (v705 : Int) (v706 : Nat) (v707 : Int) (v708 : Int) (v709 : Nat) (v710 : Int) (y : Bool) : Rs := (.bool y, [])
theorem laws_FnExactMulBlocks_len_den (v704 : Int) (v705 : Int) (v706 : Nat) (v707 : Int) (v708 : Int) (v709 : Nat) (v710 : Int) : (den TT (tabD laws_FnExactMulBlocks_len_tab) (tabM laws_FnExactMulBlocks_len_tab) (laws_FnExactMulBlocks_len_LO v704 v705 v706 v707 v708 v709 v710) (codeOf Try.f5) ([.agg [.int .i64 v704, .int .i64 v705, .hslc (BR.root 0) v706], .agg [.int .i64 v707, .int .i64 v708, .hslc (BR.root 1) v709], .int .i64 v710] ++ List.replicate (Try.f5.ntmps - ([.agg [.int .i64 v704, .int .i64 v705, .hslc (BR.root 0) v706], .agg [.int .i64 v707, .int .i64 v708, .hslc (BR.root 1) v709], .int .i64 v710] : List DV).length) .undef) []).bind (retD TT Try.f5.results.toList 0) = (laws_FnExactMulBlocks_len_T v706 v709).bind fun y => .leaf (laws_FnExactMulBlocks_len_enc v704 v705 v706 v707 v708 v709 v710 y) := by kernel_rfl
theorem laws_FnExactMulBlocks_len_fn (v704 : Int) (v705 : Int) (v706 : Nat) (v707 : Int) (v708 : Int) (v709 : Nat) (v710 : Int) (F : Fr) (hm : F.ids.length = 0) (h0 : St F [] F.H0) (hA : DVs.Ok F [] [.agg [.int .i64 v704, .int .i64 v705, .hslc (BR.root 0) v706], .agg [.int .i64 v707, .int .i64 v708, .hslc (BR.root 1) v709], .int .i64 v710]) {y : Bool} (hy : laws_FnExactMulBlocks_len_g v706 v709 = some y) : ∃ H', FnOk Try.prog 5 (DVs.av F [.agg [.int .i64 v704, .int .i64 v705, .hslc (BR.root 0) v706], .agg [.int .i64 v707, .int .i64 v708, .hslc (BR.root 1) v709], .int .i64 v710]) F.H0 ((laws_FnExactMulBlocks_len_enc v704 v705 v706 v707 v708 v709 v710 y).1.av F) H' ∧ St F (laws_FnExactMulBlocks_len_enc v704 v705 v706 v707 v708 v709 v710 y).2 H' ∧ (laws_FnExactMulBlocks_len_enc v704 v705 v706 v707 v708 v709 v710 y).1.Ok F (laws_FnExactMulBlocks_len_enc v704 v705 v706 v707 v708 v709 v710 y).2 :=
  fn_fin tok laws_FnExactMulBlocks_len_hO mixed Try.func5 Try.call5 (by kernel_rfl) (LoopsOk_eq (l := []) (by kernel_rfl) trivial) (laws_FnExactMulBlocks_len_den v704 v705 v706 v707 v708 v709 v710) hy hm h0 hA
noncomputable def laws_FnExactMulBlocks_len_F : DFn := fun args L =>
  match args with
  | [.agg [.int .i64 v704, .int .i64 v705, a1], .agg [.int .i64 v707, .int .i64 v708, a2], .int .i64 v710] =>
    optT (lenV L a1) fun v706 =>
    optT (lenV L a2) fun v709 =>
    .call (laws_FnExactMulBlocks_len_g v706 v709) fun y => .leaf (.bool y, L)
  | _ => .fail
theorem laws_FnExactMulBlocks_len_Fok : COk Try.prog 5 laws_FnExactMulBlocks_len_F true := by
  intro F L H args r L' hs ha hr
  unfold laws_FnExactMulBlocks_len_F at hr
  split at hr
  · rename_i v704 v705 a1 v707 v708 a2 v710
    obtain ⟨v706, hv706, hr⟩ := optT_run hr
    obtain ⟨v709, hv709, hr⟩ := optT_run hr
    simp only [Tree.run] at hr
    obtain ⟨y, hy, hr⟩ := Option.bind_eq_some_iff.1 hr
    simp only [Tree.run, Option.some.injEq, Prod.mk.injEq] at hr
    obtain ⟨rfl, rfl⟩ := hr
    exact call_ok0 hs (fun k => (([a1.av F, a2.av F] : List AV)[k]?).getD .top) [.agg [.int .i64 v704, .int .i64 v705, a1], .agg [.int .i64 v707, .int .i64 v708, a2], .int .i64 v710] [.agg [.int .i64 v704, .int .i64 v705, .hslc (BR.root 0) v706], .agg [.int .i64 v707, .int .i64 v708, .hslc (BR.root 1) v709], .int .i64 v710] (fun F' h0 hi hρ => ⟨by simp [DVs.av, DV.av, BR.av, hρ], laws_FnExactMulBlocks_len_fn v704 v705 v706 v707 v708 v709 v710 F' (by rw [hi]; rfl) (st_nil hi) ⟨⟨trivial, trivial, hslc_ok hi (by rw [h0, hρ]; exact lenV_ok hs (DVs.okAt (DVs.okAt ha 0 rfl) 2 rfl) hv706), trivial⟩, ⟨trivial, trivial, hslc_ok hi (by rw [h0, hρ]; exact lenV_ok hs (DVs.okAt (DVs.okAt ha 1 rfl) 2 rfl) hv709), trivial⟩, trivial, trivial⟩ hy⟩) rfl
  · cases hr
end Go.Proofs.Ytooakheodgndaaa.AM
