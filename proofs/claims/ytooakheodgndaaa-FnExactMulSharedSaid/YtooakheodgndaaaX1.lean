/- Functions: what they come to. -/
import Derived.Test.YtooakheodgndaaaBase
set_option maxRecDepth 100000
set_option maxHeartbeats 4000000
set_option linter.unusedSimpArgs false
set_option linter.unusedVariables false
namespace Go.Proofs.Ytooakheodgndaaa.AM
open Go.Proofs
/-! laws.szFloat32S -/
noncomputable def laws_szFloat32S_LO (v12 : List Nat) (v13 : Int) : LOr := fun id e L =>
  match id with
  | _ => .fail
noncomputable def laws_szFloat32S_tab : List (FuncId × DFn × Bool) := []
theorem laws_szFloat32S_hO : OrcOk Try.prog (tabD laws_szFloat32S_tab) (tabM laws_szFloat32S_tab) := tabD_nil _
noncomputable def laws_szFloat32S_T (v12 : List Nat) (v13 : Int) : Tree (Int) :=
  (.br (decide (IntKind.i64.wrap (v13 - ((v12.length : Nat) : Int)) < (0 : Int))) (
   .leaf (-1 : Int)
  ) (
   .leaf (IntKind.i64.wrap (v13 - ((v12.length : Nat) : Int)))
  ))

noncomputable def laws_szFloat32S_g (v12 : List Nat) (v13 : Int) : Option (Int) := (laws_szFloat32S_T v12 v13).run
def laws_szFloat32S_enc (v12 : List Nat) (v13 : Int) (y : Int) : Rs := (.int .i64 y, [])
theorem laws_szFloat32S_den (v12 : List Nat) (v13 : Int) : (den TT (tabD laws_szFloat32S_tab) (tabM laws_szFloat32S_tab) (laws_szFloat32S_LO v12 v13) (codeOf Try.f56) ([.bslc (BR.root 0) (.f32 v12), .int .i64 v13] ++ List.replicate (Try.f56.ntmps - ([.bslc (BR.root 0) (.f32 v12), .int .i64 v13] : List DV).length) .undef) []).bind (retD TT Try.f56.results.toList 0) = (laws_szFloat32S_T v12 v13).bind fun y => .leaf (laws_szFloat32S_enc v12 v13 y) := by kernel_rfl
theorem laws_szFloat32S_fn (v12 : List Nat) (v13 : Int) (F : Fr) (hm : F.ids.length = 0) (h0 : St F [] F.H0) (hA : DVs.Ok F [] [.bslc (BR.root 0) (.f32 v12), .int .i64 v13]) {y : Int} (hy : laws_szFloat32S_g v12 v13 = some y) : ∃ H', FnOk Try.prog 56 (DVs.av F [.bslc (BR.root 0) (.f32 v12), .int .i64 v13]) F.H0 ((laws_szFloat32S_enc v12 v13 y).1.av F) H' ∧ St F (laws_szFloat32S_enc v12 v13 y).2 H' ∧ (laws_szFloat32S_enc v12 v13 y).1.Ok F (laws_szFloat32S_enc v12 v13 y).2 :=
  fn_fin tok laws_szFloat32S_hO mixed Try.func56 Try.call56 (by kernel_rfl) (LoopsOk_eq (l := []) (by kernel_rfl) trivial) (laws_szFloat32S_den v12 v13) hy hm h0 hA
def laws_szFloat32S_v (v12 : List Nat) (v13 : Int) : Int :=
  if (decide (IntKind.i64.wrap (v13 - ((v12.length : Nat) : Int)) < (0 : Int))) = true then (
   (-1 : Int)
  ) else (
   IntKind.i64.wrap (v13 - ((v12.length : Nat) : Int))
  )
theorem laws_szFloat32S_tot (v12 : List Nat) (v13 : Int) : laws_szFloat32S_g v12 v13 = some (laws_szFloat32S_v v12 v13) := by
  unfold laws_szFloat32S_g laws_szFloat32S_T laws_szFloat32S_v
  simp only [Tree.run]
  repeat' (first | rfl | split)
noncomputable def laws_szFloat32S_F : DFn := fun args L =>
  match args with
  | [a1, .int .i64 v13] =>
    optT (rowF32 L a1) fun v12 =>
    .leaf (.int .i64 (laws_szFloat32S_v v12 v13), L)
  | _ => .fail
theorem laws_szFloat32S_Fok : COk Try.prog 56 laws_szFloat32S_F true := by
  intro F L H args r L' hs ha hr
  unfold laws_szFloat32S_F at hr
  split at hr
  · rename_i a1 v13
    obtain ⟨v12, hv12, hr⟩ := optT_run hr
    have hy := laws_szFloat32S_tot v12 v13
    generalize laws_szFloat32S_v v12 v13 = y at hy hr
    simp only [Tree.run, Option.some.injEq, Prod.mk.injEq] at hr
    obtain ⟨rfl, rfl⟩ := hr
    exact call_ok0 hs (fun k => (([a1.av F] : List AV)[k]?).getD .top) [a1, .int .i64 v13] [.bslc (BR.root 0) (.f32 v12), .int .i64 v13] (fun F' h0 hi hρ => ⟨by simp [DVs.av, DV.av, BR.av, hρ], laws_szFloat32S_fn v12 v13 F' (by rw [hi]; rfl) (st_nil hi) ⟨bslc_ok hi (by rw [h0, hρ]; exact rowF32_ok hs (DVs.okAt ha 0 rfl) hv12), trivial, trivial⟩ hy⟩) rfl
  · cases hr
/-! laws.szMatrix -/
noncomputable def laws_szMatrix_LO (v8 : Int) (v9 : Int) (v10 : List Nat) (v11 : Int) : LOr := fun id e L =>
  match id with
  | _ => .fail
noncomputable def laws_szMatrix_tab : List (FuncId × DFn × Bool) := [(56, laws_szFloat32S_F, true)]
theorem laws_szMatrix_hO : OrcOk Try.prog (tabD laws_szMatrix_tab) (tabM laws_szMatrix_tab) := tabD_cons laws_szFloat32S_Fok (tabD_nil _)
noncomputable def laws_szMatrix_T (v10 : List Nat) (v11 : Int) : Tree (Int) :=
  (.br (decide ((laws_szFloat32S_v v10 v11) < (0 : Int))) (
   .leaf (-1 : Int)
  ) (
   .leaf (laws_szFloat32S_v v10 v11)
  ))

noncomputable def laws_szMatrix_g (v10 : List Nat) (v11 : Int) : Option (Int) := (laws_szMatrix_T v10 v11).run
def laws_szMatrix_enc (v8 : Int) (v9 : Int) (v10 : List Nat) (v11 : Int) (y : Int) : Rs := (.int .i64 y, [])
theorem laws_szMatrix_den (v8 : Int) (v9 : Int) (v10 : List Nat) (v11 : Int) : (den TT (tabD laws_szMatrix_tab) (tabM laws_szMatrix_tab) (laws_szMatrix_LO v8 v9 v10 v11) (codeOf Try.f15) ([.agg [.int .i64 v8, .int .i64 v9, .bslc (BR.root 0) (.f32 v10)], .int .i64 v11] ++ List.replicate (Try.f15.ntmps - ([.agg [.int .i64 v8, .int .i64 v9, .bslc (BR.root 0) (.f32 v10)], .int .i64 v11] : List DV).length) .undef) []).bind (retD TT Try.f15.results.toList 0) = (laws_szMatrix_T v10 v11).bind fun y => .leaf (laws_szMatrix_enc v8 v9 v10 v11 y) := by kernel_rfl
theorem laws_szMatrix_fn (v8 : Int) (v9 : Int) (v10 : List Nat) (v11 : Int) (F : Fr) (hm : F.ids.length = 0) (h0 : St F [] F.H0) (hA : DVs.Ok F [] [.agg [.int .i64 v8, .int .i64 v9, .bslc (BR.root 0) (.f32 v10)], .int .i64 v11]) {y : Int} (hy : laws_szMatrix_g v10 v11 = some y) : ∃ H', FnOk Try.prog 15 (DVs.av F [.agg [.int .i64 v8, .int .i64 v9, .bslc (BR.root 0) (.f32 v10)], .int .i64 v11]) F.H0 ((laws_szMatrix_enc v8 v9 v10 v11 y).1.av F) H' ∧ St F (laws_szMatrix_enc v8 v9 v10 v11 y).2 H' ∧ (laws_szMatrix_enc v8 v9 v10 v11 y).1.Ok F (laws_szMatrix_enc v8 v9 v10 v11 y).2 :=
  fn_fin tok laws_szMatrix_hO mixed Try.func15 Try.call15 (by kernel_rfl) (LoopsOk_eq (l := []) (by kernel_rfl) trivial) (laws_szMatrix_den v8 v9 v10 v11) hy hm h0 hA
def laws_szMatrix_v (v10 : List Nat) (v11 : Int) : Int :=
  if (decide ((laws_szFloat32S_v v10 v11) < (0 : Int))) = true then (
   (-1 : Int)
  ) else (
   (laws_szFloat32S_v v10 v11)
  )
theorem laws_szMatrix_tot (v10 : List Nat) (v11 : Int) : laws_szMatrix_g v10 v11 = some (laws_szMatrix_v v10 v11) := by
  unfold laws_szMatrix_g laws_szMatrix_T laws_szMatrix_v
  simp only [Tree.run]
  repeat' (first | rfl | split)
noncomputable def laws_szMatrix_F : DFn := fun args L =>
  match args with
  | [.agg [.int .i64 v8, .int .i64 v9, a1], .int .i64 v11] =>
    optT (rowF32 L a1) fun v10 =>
    .leaf (.int .i64 (laws_szMatrix_v v10 v11), L)
  | _ => .fail
theorem laws_szMatrix_Fok : COk Try.prog 15 laws_szMatrix_F true := by
  intro F L H args r L' hs ha hr
  unfold laws_szMatrix_F at hr
  split at hr
  · rename_i v8 v9 a1 v11
    obtain ⟨v10, hv10, hr⟩ := optT_run hr
    have hy := laws_szMatrix_tot v10 v11
    generalize laws_szMatrix_v v10 v11 = y at hy hr
    simp only [Tree.run, Option.some.injEq, Prod.mk.injEq] at hr
    obtain ⟨rfl, rfl⟩ := hr
    exact call_ok0 hs (fun k => (([a1.av F] : List AV)[k]?).getD .top) [.agg [.int .i64 v8, .int .i64 v9, a1], .int .i64 v11] [.agg [.int .i64 v8, .int .i64 v9, .bslc (BR.root 0) (.f32 v10)], .int .i64 v11] (fun F' h0 hi hρ => ⟨by simp [DVs.av, DV.av, BR.av, hρ], laws_szMatrix_fn v8 v9 v10 v11 F' (by rw [hi]; rfl) (st_nil hi) ⟨⟨trivial, trivial, bslc_ok hi (by rw [h0, hρ]; exact rowF32_ok hs (DVs.okAt (DVs.okAt ha 0 rfl) 2 rfl) hv10), trivial⟩, trivial, trivial⟩ hy⟩) rfl
  · cases hr
/-! laws.toFloat32S -/
noncomputable def laws_toFloat32S_l0_T (v17 : List Nat) (s : Int × (List Nat)) : Tree ((Int × (List Nat)) ⊕ ((List Nat))) :=
  (.br (decide (s.1 < ((v17.length : Nat) : Int))) (
   (.grd (inb s.1 v17.length) <|
   (.grd (inb s.1 ((s.2).length)) <|
   .leaf (.inl (IntKind.i64.wrap (s.1 + (1 : Int)), List.set s.2 (Int.toNat s.1) (nth v17 (Int.toNat s.1))))))
  ) (
   .leaf (.inr s.2)
  ))

noncomputable def laws_toFloat32S_l0_g (v17 : List Nat) (s0 : Int × (List Nat)) : Option ((List Nat)) := whileM (fun s => (laws_toFloat32S_l0_T v17 s).run) s0
def laws_toFloat32S_l0_E (v17 : List Nat) (s : Int × (List Nat)) : Sd := ([.bslc (BR.root 0) (.f32 v17), .top, .top, .own 0 0 ((s.2).length), .int .i64 s.1, .top, .top, .top, .top, .top, .top, .top, .top, .top, .top, .top, .top, .top, .top, .top, .top, .top], [.row (.f32 s.2) 0])
def laws_toFloat32S_l0_X (v17 : List Nat) (x : (List Nat)) : Out := (.normal, [.top, .top, .top, .own 0 0 ((x).length), .top, .top, .top, .top, .top, .top, .top, .top, .top, .top, .top, .top, .top, .top, .top, .top, .top, .top], [.row (.f32 x) 0])
def laws_toFloat32S_l0_kill : List Nat := [0, 1, 1, 0, 0, 1, 1, 1, 1, 1, 1, 1, 1, 1, 1, 1, 1, 1, 1, 1, 1, 1]
def laws_toFloat32S_l0_nx : Exit → List Nat
  | .exit 0 => [1, 1, 1, 0, 1, 1, 1, 1, 1, 1, 1, 1, 1, 1, 1, 1, 1, 1, 1, 1, 1, 1]
  | .ret => [1, 1, 0, 1, 1, 1, 1, 1, 1, 1, 1, 1, 1, 1, 1, 1, 1, 1, 1, 1, 1, 1]
  | _ => []
noncomputable def laws_toFloat32S_LO (v17 : List Nat) : LOr := fun id e L =>
  match id with
  | 0 => .need (normA 0 laws_toFloat32S_l0_kill e L = some (laws_toFloat32S_l0_E v17 ((gI (vAt e 4)), (gRF L (vAt e 3))))) (.call (laws_toFloat32S_l0_g v17 ((gI (vAt e 4)), (gRF L (vAt e 3)))) fun x => .leaf (laws_toFloat32S_l0_X v17 x))
  | _ => .fail
noncomputable def laws_toFloat32S_tab : List (FuncId × DFn × Bool) := []
theorem laws_toFloat32S_hO : OrcOk Try.prog (tabD laws_toFloat32S_tab) (tabM laws_toFloat32S_tab) := tabD_nil _
theorem laws_toFloat32S_l0_be (v17 : List Nat) (s : Int × (List Nat)) : bodyT TT (tabD laws_toFloat32S_tab) (tabM laws_toFloat32S_tab) (laws_toFloat32S_LO v17) 0 laws_toFloat32S_l0_kill laws_toFloat32S_l0_nx (bodyOf Try.f33 0) 0 (laws_toFloat32S_l0_E v17 s) = (laws_toFloat32S_l0_T v17 s).bind fun y => .leaf (outS (laws_toFloat32S_l0_E v17) (laws_toFloat32S_l0_X v17) y) := by kernel_rfl
theorem laws_toFloat32S_l0_ok (v17 : List Nat) : LSound Try.prog 0 (laws_toFloat32S_LO v17) 0 (bodyOf Try.f33 0) := by
  intro e L out h
  exact lo_ok (E := laws_toFloat32S_l0_E v17) (gT := laws_toFloat32S_l0_T v17) (X := laws_toFloat32S_l0_X v17) (s0 := ((gI (vAt e 4)), (gRF L (vAt e 3)))) tok laws_toFloat32S_hO mixed (LoopsOk_eq (l := []) (by kernel_rfl) trivial) (laws_toFloat32S_l0_be v17) rfl (by intro x; rfl) h
noncomputable def laws_toFloat32S_T (v17 : List Nat) : Tree ((List Nat)) :=
  (.need (((v17.length : Nat) : Int) = ((v17.length : Nat) : Int)) <|
  (.grd (inb ((v17.length : Nat) : Int) (maxN + 1)) <|
  (.need (some (laws_toFloat32S_l0_E v17 ((0 : Int), List.replicate (Int.toNat ((v17.length : Nat) : Int)) (0 : Nat))) = some (laws_toFloat32S_l0_E v17 ((0 : Int), List.replicate (Int.toNat ((v17.length : Nat) : Int)) (0 : Nat)))) <|
  (.call (laws_toFloat32S_l0_g v17 ((0 : Int), List.replicate (Int.toNat ((v17.length : Nat) : Int)) (0 : Nat))) fun v23 =>
  .leaf v23))))

noncomputable def laws_toFloat32S_g (v17 : List Nat) : Option ((List Nat)) := (laws_toFloat32S_T v17).run
def laws_toFloat32S_enc (v17 : List Nat) (y : (List Nat)) : Rs := (.own 0 0 ((y).length), [.row (.f32 y) 0])
theorem laws_toFloat32S_den (v17 : List Nat) : (den TT (tabD laws_toFloat32S_tab) (tabM laws_toFloat32S_tab) (laws_toFloat32S_LO v17) (codeOf Try.f33) ([.bslc (BR.root 0) (.f32 v17)] ++ List.replicate (Try.f33.ntmps - ([.bslc (BR.root 0) (.f32 v17)] : List DV).length) .undef) []).bind (retD TT Try.f33.results.toList 0) = (laws_toFloat32S_T v17).bind fun y => .leaf (laws_toFloat32S_enc v17 y) := by kernel_rfl
theorem laws_toFloat32S_fn (v17 : List Nat) (F : Fr) (hm : F.ids.length = 0) (h0 : St F [] F.H0) (hA : DVs.Ok F [] [.bslc (BR.root 0) (.f32 v17)]) {y : (List Nat)} (hy : laws_toFloat32S_g v17 = some y) : ∃ H', FnOk Try.prog 33 (DVs.av F [.bslc (BR.root 0) (.f32 v17)]) F.H0 ((laws_toFloat32S_enc v17 y).1.av F) H' ∧ St F (laws_toFloat32S_enc v17 y).2 H' ∧ (laws_toFloat32S_enc v17 y).1.Ok F (laws_toFloat32S_enc v17 y).2 :=
  fn_fin tok laws_toFloat32S_hO mixed Try.func33 Try.call33 (by kernel_rfl) (LoopsOk_eq (l := [(0, bodyOf Try.f33 0)]) (by kernel_rfl) ⟨laws_toFloat32S_l0_ok v17, trivial⟩) (laws_toFloat32S_den v17) hy hm h0 hA
noncomputable def laws_toFloat32S_F : DFn := fun args L =>
  match args with
  | [a1] =>
    optT (rowF32 L a1) fun v17 =>
    .call (laws_toFloat32S_g v17) fun y => .leaf (.own (L.length + 0) 0 ((y).length), L ++ [.row (.f32 y) 0])
  | _ => .fail
theorem laws_toFloat32S_Fok : COk Try.prog 33 laws_toFloat32S_F true := by
  intro F L H args r L' hs ha hr
  unfold laws_toFloat32S_F at hr
  split at hr
  · rename_i a1
    obtain ⟨v17, hv17, hr⟩ := optT_run hr
    simp only [Tree.run] at hr
    obtain ⟨y, hy, hr⟩ := Option.bind_eq_some_iff.1 hr
    simp only [Tree.run, Option.some.injEq, Prod.mk.injEq] at hr
    obtain ⟨rfl, rfl⟩ := hr
    exact call_ok1 hs (fun k => (([a1.av F] : List AV)[k]?).getD .top) [a1] [.bslc (BR.root 0) (.f32 v17)] (fun F' h0 hi hρ => ⟨by simp [DVs.av, DV.av, BR.av, hρ], laws_toFloat32S_fn v17 F' (by rw [hi]; rfl) (st_nil hi) ⟨bslc_ok hi (by rw [h0, hρ]; exact rowF32_ok hs (DVs.okAt ha 0 rfl) hv17), trivial⟩ hy⟩) rfl rfl
  · cases hr
/-! laws.toMatrix -/
noncomputable def laws_toMatrix_LO (v14 : Int) (v15 : Int) (v16 : List Nat) : LOr := fun id e L =>
  match id with
  | _ => .fail
noncomputable def laws_toMatrix_tab : List (FuncId × DFn × Bool) := [(33, laws_toFloat32S_F, true)]
theorem laws_toMatrix_hO : OrcOk Try.prog (tabD laws_toMatrix_tab) (tabM laws_toMatrix_tab) := tabD_cons laws_toFloat32S_Fok (tabD_nil _)
noncomputable def laws_toMatrix_T (v14 : Int) (v15 : Int) (v16 : List Nat) : Tree (Int × Int × (List Nat)) :=
  (.call (laws_toFloat32S_g v16) fun v24 =>
  .leaf (v14, v15, v24))

noncomputable def laws_toMatrix_g (v14 : Int) (v15 : Int) (v16 : List Nat) : Option (Int × Int × (List Nat)) := (laws_toMatrix_T v14 v15 v16).run
def laws_toMatrix_enc (v14 : Int) (v15 : Int) (v16 : List Nat) (y : Int × Int × (List Nat)) : Rs := (.agg [.int .i64 y.1, .int .i64 y.2.1, .own 0 0 ((y.2.2).length)], [.row (.f32 y.2.2) 0])
theorem laws_toMatrix_den (v14 : Int) (v15 : Int) (v16 : List Nat) : (den TT (tabD laws_toMatrix_tab) (tabM laws_toMatrix_tab) (laws_toMatrix_LO v14 v15 v16) (codeOf Try.f17) ([.agg [.int .i64 v14, .int .i64 v15, .bslc (BR.root 0) (.f32 v16)]] ++ List.replicate (Try.f17.ntmps - ([.agg [.int .i64 v14, .int .i64 v15, .bslc (BR.root 0) (.f32 v16)]] : List DV).length) .undef) []).bind (retD TT Try.f17.results.toList 0) = (laws_toMatrix_T v14 v15 v16).bind fun y => .leaf (laws_toMatrix_enc v14 v15 v16 y) := by kernel_rfl
theorem laws_toMatrix_fn (v14 : Int) (v15 : Int) (v16 : List Nat) (F : Fr) (hm : F.ids.length = 0) (h0 : St F [] F.H0) (hA : DVs.Ok F [] [.agg [.int .i64 v14, .int .i64 v15, .bslc (BR.root 0) (.f32 v16)]]) {y : Int × Int × (List Nat)} (hy : laws_toMatrix_g v14 v15 v16 = some y) : ∃ H', FnOk Try.prog 17 (DVs.av F [.agg [.int .i64 v14, .int .i64 v15, .bslc (BR.root 0) (.f32 v16)]]) F.H0 ((laws_toMatrix_enc v14 v15 v16 y).1.av F) H' ∧ St F (laws_toMatrix_enc v14 v15 v16 y).2 H' ∧ (laws_toMatrix_enc v14 v15 v16 y).1.Ok F (laws_toMatrix_enc v14 v15 v16 y).2 :=
  fn_fin tok laws_toMatrix_hO mixed Try.func17 Try.call17 (by kernel_rfl) (LoopsOk_eq (l := []) (by kernel_rfl) trivial) (laws_toMatrix_den v14 v15 v16) hy hm h0 hA
noncomputable def laws_toMatrix_F : DFn := fun args L =>
  match args with
  | [.agg [.int .i64 v14, .int .i64 v15, a1]] =>
    optT (rowF32 L a1) fun v16 =>
    .call (laws_toMatrix_g v14 v15 v16) fun y => .leaf (.agg [.int .i64 y.1, .int .i64 y.2.1, .own (L.length + 0) 0 ((y.2.2).length)], L ++ [.row (.f32 y.2.2) 0])
  | _ => .fail
theorem laws_toMatrix_Fok : COk Try.prog 17 laws_toMatrix_F true := by
  intro F L H args r L' hs ha hr
  unfold laws_toMatrix_F at hr
  split at hr
  · rename_i v14 v15 a1
    obtain ⟨v16, hv16, hr⟩ := optT_run hr
    simp only [Tree.run] at hr
    obtain ⟨y, hy, hr⟩ := Option.bind_eq_some_iff.1 hr
    simp only [Tree.run, Option.some.injEq, Prod.mk.injEq] at hr
    obtain ⟨rfl, rfl⟩ := hr
    exact call_ok1 hs (fun k => (([a1.av F] : List AV)[k]?).getD .top) [.agg [.int .i64 v14, .int .i64 v15, a1]] [.agg [.int .i64 v14, .int .i64 v15, .bslc (BR.root 0) (.f32 v16)]] (fun F' h0 hi hρ => ⟨by simp [DVs.av, DV.av, BR.av, hρ], laws_toMatrix_fn v14 v15 v16 F' (by rw [hi]; rfl) (st_nil hi) ⟨⟨trivial, trivial, bslc_ok hi (by rw [h0, hρ]; exact rowF32_ok hs (DVs.okAt (DVs.okAt ha 0 rfl) 2 rfl) hv16), trivial⟩, trivial⟩ hy⟩) rfl rfl
  · cases hr
/-! spec.l00In -/
noncomputable def spec_l00In_LO (v45 : Int) (v46 : Int) (v47 : Int) : LOr := fun id e L =>
  match id with
  | _ => .fail
noncomputable def spec_l00In_tab : List (FuncId × DFn × Bool) := []
theorem spec_l00In_hO : OrcOk Try.prog (tabD spec_l00In_tab) (tabM spec_l00In_tab) := tabD_nil _
noncomputable def spec_l00In_T (v45 : Int) (v46 : Int) (v47 : Int) : Tree (Bool) :=
  (.br (decide (v46 ≤ v45)) (
   .leaf (decide (v45 ≤ v47))
  ) (
   .leaf false
  ))

noncomputable def spec_l00In_g (v45 : Int) (v46 : Int) (v47 : Int) : Option (Bool) := (spec_l00In_T v45 v46 v47).run
def spec_l00In_enc (v45 : Int) (v46 : Int) (v47 : Int) (y : Bool) : Rs := (.bool y, [])
theorem spec_l00In_den (v45 : Int) (v46 : Int) (v47 : Int) : (den TT (tabD spec_l00In_tab) (tabM spec_l00In_tab) (spec_l00In_LO v45 v46 v47) (codeOf Try.f70) ([.int .i64 v45, .int .i64 v46, .int .i64 v47] ++ List.replicate (Try.f70.ntmps - ([.int .i64 v45, .int .i64 v46, .int .i64 v47] : List DV).length) .undef) []).bind (retD TT Try.f70.results.toList 0) = (spec_l00In_T v45 v46 v47).bind fun y => .leaf (spec_l00In_enc v45 v46 v47 y) := by kernel_rfl
theorem spec_l00In_fn (v45 : Int) (v46 : Int) (v47 : Int) (F : Fr) (hm : F.ids.length = 0) (h0 : St F [] F.H0) (hA : DVs.Ok F [] [.int .i64 v45, .int .i64 v46, .int .i64 v47]) {y : Bool} (hy : spec_l00In_g v45 v46 v47 = some y) : ∃ H', FnOk Try.prog 70 (DVs.av F [.int .i64 v45, .int .i64 v46, .int .i64 v47]) F.H0 ((spec_l00In_enc v45 v46 v47 y).1.av F) H' ∧ St F (spec_l00In_enc v45 v46 v47 y).2 H' ∧ (spec_l00In_enc v45 v46 v47 y).1.Ok F (spec_l00In_enc v45 v46 v47 y).2 :=
  fn_fin tok spec_l00In_hO mixed Try.func70 Try.call70 (by kernel_rfl) (LoopsOk_eq (l := []) (by kernel_rfl) trivial) (spec_l00In_den v45 v46 v47) hy hm h0 hA
def spec_l00In_v (v45 : Int) (v46 : Int) (v47 : Int) : Bool :=
  if (decide (v46 ≤ v45)) = true then (
   decide (v45 ≤ v47)
  ) else (
   false
  )
theorem spec_l00In_tot (v45 : Int) (v46 : Int) (v47 : Int) : spec_l00In_g v45 v46 v47 = some (spec_l00In_v v45 v46 v47) := by
  unfold spec_l00In_g spec_l00In_T spec_l00In_v
  simp only [Tree.run]
  repeat' (first | rfl | split)
noncomputable def spec_l00In_F : DFn := fun args L =>
  match args with
  | [.int .i64 v45, .int .i64 v46, .int .i64 v47] =>
    .leaf (.bool (spec_l00In_v v45 v46 v47), L)
  | _ => .fail
theorem spec_l00In_Fok : COk Try.prog 70 spec_l00In_F true := by
  intro F L H args r L' hs ha hr
  unfold spec_l00In_F at hr
  split at hr
  · rename_i v45 v46 v47
    have hy := spec_l00In_tot v45 v46 v47
    generalize spec_l00In_v v45 v46 v47 = y at hy hr
    simp only [Tree.run, Option.some.injEq, Prod.mk.injEq] at hr
    obtain ⟨rfl, rfl⟩ := hr
    exact call_ok0 hs (fun k => (([] : List AV)[k]?).getD .top) [.int .i64 v45, .int .i64 v46, .int .i64 v47] [.int .i64 v45, .int .i64 v46, .int .i64 v47] (fun F' h0 hi hρ => ⟨by simp [DVs.av, DV.av, BR.av, hρ], spec_l00In_fn v45 v46 v47 F' (by rw [hi]; rfl) (st_nil hi) ⟨trivial, trivial, trivial, trivial⟩ hy⟩) rfl
  · cases hr
/-! spec.l02Sides -/
noncomputable def spec_l02Sides_LO (v43 : Int) (v44 : Int) : LOr := fun id e L =>
  match id with
  | _ => .fail
noncomputable def spec_l02Sides_tab : List (FuncId × DFn × Bool) := [(70, spec_l00In_F, true)]
theorem spec_l02Sides_hO : OrcOk Try.prog (tabD spec_l02Sides_tab) (tabM spec_l02Sides_tab) := tabD_cons spec_l00In_Fok (tabD_nil _)
noncomputable def spec_l02Sides_T (v43 : Int) (v44 : Int) : Tree (Bool) :=
  (.br (spec_l00In_v v43 (1 : Int) (12 : Int)) (
   .leaf (spec_l00In_v v44 (1 : Int) (12 : Int))
  ) (
   .leaf false
  ))

noncomputable def spec_l02Sides_g (v43 : Int) (v44 : Int) : Option (Bool) := (spec_l02Sides_T v43 v44).run
def spec_l02Sides_enc (v43 : Int) (v44 : Int) (y : Bool) : Rs := (.bool y, [])
theorem spec_l02Sides_den (v43 : Int) (v44 : Int) : (den TT (tabD spec_l02Sides_tab) (tabM spec_l02Sides_tab) (spec_l02Sides_LO v43 v44) (codeOf Try.f134) ([.int .i64 v43, .int .i64 v44] ++ List.replicate (Try.f134.ntmps - ([.int .i64 v43, .int .i64 v44] : List DV).length) .undef) []).bind (retD TT Try.f134.results.toList 0) = (spec_l02Sides_T v43 v44).bind fun y => .leaf (spec_l02Sides_enc v43 v44 y) := by kernel_rfl
theorem spec_l02Sides_fn (v43 : Int) (v44 : Int) (F : Fr) (hm : F.ids.length = 0) (h0 : St F [] F.H0) (hA : DVs.Ok F [] [.int .i64 v43, .int .i64 v44]) {y : Bool} (hy : spec_l02Sides_g v43 v44 = some y) : ∃ H', FnOk Try.prog 134 (DVs.av F [.int .i64 v43, .int .i64 v44]) F.H0 ((spec_l02Sides_enc v43 v44 y).1.av F) H' ∧ St F (spec_l02Sides_enc v43 v44 y).2 H' ∧ (spec_l02Sides_enc v43 v44 y).1.Ok F (spec_l02Sides_enc v43 v44 y).2 :=
  fn_fin tok spec_l02Sides_hO mixed Try.func134 Try.call134 (by kernel_rfl) (LoopsOk_eq (l := []) (by kernel_rfl) trivial) (spec_l02Sides_den v43 v44) hy hm h0 hA
def spec_l02Sides_v (v43 : Int) (v44 : Int) : Bool :=
  if (spec_l00In_v v43 (1 : Int) (12 : Int)) = true then (
   (spec_l00In_v v44 (1 : Int) (12 : Int))
  ) else (
   false
  )
theorem spec_l02Sides_tot (v43 : Int) (v44 : Int) : spec_l02Sides_g v43 v44 = some (spec_l02Sides_v v43 v44) := by
  unfold spec_l02Sides_g spec_l02Sides_T spec_l02Sides_v
  simp only [Tree.run]
  repeat' (first | rfl | split)
noncomputable def spec_l02Sides_F : DFn := fun args L =>
  match args with
  | [.int .i64 v43, .int .i64 v44] =>
    .leaf (.bool (spec_l02Sides_v v43 v44), L)
  | _ => .fail
theorem spec_l02Sides_Fok : COk Try.prog 134 spec_l02Sides_F true := by
  intro F L H args r L' hs ha hr
  unfold spec_l02Sides_F at hr
  split at hr
  · rename_i v43 v44
    have hy := spec_l02Sides_tot v43 v44
    generalize spec_l02Sides_v v43 v44 = y at hy hr
    simp only [Tree.run, Option.some.injEq, Prod.mk.injEq] at hr
    obtain ⟨rfl, rfl⟩ := hr
    exact call_ok0 hs (fun k => (([] : List AV)[k]?).getD .top) [.int .i64 v43, .int .i64 v44] [.int .i64 v43, .int .i64 v44] (fun F' h0 hi hρ => ⟨by simp [DVs.av, DV.av, BR.av, hρ], spec_l02Sides_fn v43 v44 F' (by rw [hi]; rfl) (st_nil hi) ⟨trivial, trivial, trivial⟩ hy⟩) rfl
  · cases hr
/-! spec.l01Finite -/
noncomputable def spec_l01Finite_LO (v50 : Nat) : LOr := fun id e L =>
  match id with
  | _ => .fail
noncomputable def spec_l01Finite_tab : List (FuncId × DFn × Bool) := []
theorem spec_l01Finite_hO : OrcOk Try.prog (tabD spec_l01Finite_tab) (tabM spec_l01Finite_tab) := tabD_nil _
noncomputable def spec_l01Finite_T (v50 : Nat) : Tree (Bool) :=
  .leaf (feq .f32 (fsub .f32 v50 v50) (0 : Nat))

noncomputable def spec_l01Finite_g (v50 : Nat) : Option (Bool) := (spec_l01Finite_T v50).run
def spec_l01Finite_enc (v50 : Nat) (y : Bool) : Rs := (.bool y, [])
theorem spec_l01Finite_den (v50 : Nat) : (den TT (tabD spec_l01Finite_tab) (tabM spec_l01Finite_tab) (spec_l01Finite_LO v50) (codeOf Try.f60) ([.flt .f32 v50] ++ List.replicate (Try.f60.ntmps - ([.flt .f32 v50] : List DV).length) .undef) []).bind (retD TT Try.f60.results.toList 0) = (spec_l01Finite_T v50).bind fun y => .leaf (spec_l01Finite_enc v50 y) := by kernel_rfl
theorem spec_l01Finite_fn (v50 : Nat) (F : Fr) (hm : F.ids.length = 0) (h0 : St F [] F.H0) (hA : DVs.Ok F [] [.flt .f32 v50]) {y : Bool} (hy : spec_l01Finite_g v50 = some y) : ∃ H', FnOk Try.prog 60 (DVs.av F [.flt .f32 v50]) F.H0 ((spec_l01Finite_enc v50 y).1.av F) H' ∧ St F (spec_l01Finite_enc v50 y).2 H' ∧ (spec_l01Finite_enc v50 y).1.Ok F (spec_l01Finite_enc v50 y).2 :=
  fn_fin tok spec_l01Finite_hO mixed Try.func60 Try.call60 (by kernel_rfl) (LoopsOk_eq (l := []) (by kernel_rfl) trivial) (spec_l01Finite_den v50) hy hm h0 hA
def spec_l01Finite_v (v50 : Nat) : Bool :=
  feq .f32 (fsub .f32 v50 v50) (0 : Nat)
theorem spec_l01Finite_tot (v50 : Nat) : spec_l01Finite_g v50 = some (spec_l01Finite_v v50) := by
  unfold spec_l01Finite_g spec_l01Finite_T spec_l01Finite_v
  simp only [Tree.run]
  repeat' (first | rfl | split)
noncomputable def spec_l01Finite_F : DFn := fun args L =>
  match args with
  | [.flt .f32 v50] =>
    .leaf (.bool (spec_l01Finite_v v50), L)
  | _ => .fail
theorem spec_l01Finite_Fok : COk Try.prog 60 spec_l01Finite_F true := by
  intro F L H args r L' hs ha hr
  unfold spec_l01Finite_F at hr
  split at hr
  · rename_i v50
    have hy := spec_l01Finite_tot v50
    generalize spec_l01Finite_v v50 = y at hy hr
    simp only [Tree.run, Option.some.injEq, Prod.mk.injEq] at hr
    obtain ⟨rfl, rfl⟩ := hr
    exact call_ok0 hs (fun k => (([] : List AV)[k]?).getD .top) [.flt .f32 v50] [.flt .f32 v50] (fun F' h0 hi hρ => ⟨by simp [DVs.av, DV.av, BR.av, hρ], spec_l01Finite_fn v50 F' (by rw [hi]; rfl) (st_nil hi) ⟨trivial, trivial⟩ hy⟩) rfl
  · cases hr
/-! spec.l02Finite -/
noncomputable def spec_l02Finite_l0_T (v48 : List Nat) (s : Int) : Tree ((Int) ⊕ ((Unit) ⊕ (Unit))) :=
  (.br (decide (s < ((v48.length : Nat) : Int))) (
   (.grd (inb s v48.length) <|
   (.br (!(spec_l01Finite_v (nth v48 (Int.toNat s)))) (
    .leaf (.inr (.inl ()))
   ) (
    .leaf (.inl (IntKind.i64.wrap (s + (1 : Int))))
   )))
  ) (
   .leaf (.inr (.inr ()))
  ))

noncomputable def spec_l02Finite_l0_g (v48 : List Nat) (s0 : Int) : Option ((Unit) ⊕ (Unit)) := whileM (fun s => (spec_l02Finite_l0_T v48 s).run) s0
def spec_l02Finite_l0_E (v48 : List Nat) (s : Int) : Sd := ([.bslc (BR.root 0) (.f32 v48), .top, .top, .int .i64 s, .top, .top, .top, .top, .top, .top, .top, .top, .top, .top, .top, .top], [])
def spec_l02Finite_l0_X (v48 : List Nat) (x : (Unit) ⊕ (Unit)) : Out := (match x with | .inl x => (.ret, [.top, .top, .lit false, .top, .top, .top, .top, .top, .top, .top, .top, .top, .top, .top, .top, .top], []) | .inr x => (.normal, [.top, .top, .top, .top, .top, .top, .top, .top, .top, .top, .top, .top, .top, .top, .top, .top], []))
def spec_l02Finite_l0_kill : List Nat := [0, 1, 1, 0, 1, 1, 1, 1, 1, 1, 1, 1, 1, 1, 1, 1]
def spec_l02Finite_l0_nx : Exit → List Nat
  | .exit 0 => [1, 1, 1, 1, 1, 1, 1, 1, 1, 1, 1, 1, 1, 1, 1, 1]
  | .ret => [1, 1, 0, 1, 1, 1, 1, 1, 1, 1, 1, 1, 1, 1, 1, 1]
  | _ => []
noncomputable def spec_l02Finite_LO (v48 : List Nat) : LOr := fun id e L =>
  match id with
  | 0 => .need (normA 0 spec_l02Finite_l0_kill e L = some (spec_l02Finite_l0_E v48 (gI (vAt e 3)))) (.call (spec_l02Finite_l0_g v48 (gI (vAt e 3))) fun x => .sum x (fun b0 => .leaf (spec_l02Finite_l0_X v48 (.inl b0))) (fun c0 => .leaf (spec_l02Finite_l0_X v48 (.inr c0))))
  | _ => .fail
noncomputable def spec_l02Finite_tab : List (FuncId × DFn × Bool) := [(60, spec_l01Finite_F, true)]
theorem spec_l02Finite_hO : OrcOk Try.prog (tabD spec_l02Finite_tab) (tabM spec_l02Finite_tab) := tabD_cons spec_l01Finite_Fok (tabD_nil _)
theorem spec_l02Finite_l0_be (v48 : List Nat) (s : Int) : bodyT TT (tabD spec_l02Finite_tab) (tabM spec_l02Finite_tab) (spec_l02Finite_LO v48) 0 spec_l02Finite_l0_kill spec_l02Finite_l0_nx (bodyOf Try.f135 0) 0 (spec_l02Finite_l0_E v48 s) = (spec_l02Finite_l0_T v48 s).bind fun y => .leaf (outS (spec_l02Finite_l0_E v48) (spec_l02Finite_l0_X v48) y) := by kernel_rfl
theorem spec_l02Finite_l0_ok (v48 : List Nat) : LSound Try.prog 0 (spec_l02Finite_LO v48) 0 (bodyOf Try.f135 0) := by
  intro e L out h
  exact lo_ok (E := spec_l02Finite_l0_E v48) (gT := spec_l02Finite_l0_T v48) (X := spec_l02Finite_l0_X v48) (s0 := (gI (vAt e 3))) tok spec_l02Finite_hO mixed (LoopsOk_eq (l := []) (by kernel_rfl) trivial) (spec_l02Finite_l0_be v48) rfl (by intro x; (cases x with | inl b => rfl | inr x => exact rfl)) h
noncomputable def spec_l02Finite_T (v48 : List Nat) : Tree (Bool) :=
  (.need (some (spec_l02Finite_l0_E v48 (0 : Int)) = some (spec_l02Finite_l0_E v48 (0 : Int))) <|
  (.call (spec_l02Finite_l0_g v48 (0 : Int)) fun v53 =>
  (.sum v53 (fun v54 =>
   .leaf false
  ) (fun v55 =>
   .leaf true
  ))))

noncomputable def spec_l02Finite_g (v48 : List Nat) : Option (Bool) := (spec_l02Finite_T v48).run
def spec_l02Finite_enc (v48 : List Nat) (y : Bool) : Rs := (.bool y, [])
theorem spec_l02Finite_den (v48 : List Nat) : (den TT (tabD spec_l02Finite_tab) (tabM spec_l02Finite_tab) (spec_l02Finite_LO v48) (codeOf Try.f135) ([.bslc (BR.root 0) (.f32 v48)] ++ List.replicate (Try.f135.ntmps - ([.bslc (BR.root 0) (.f32 v48)] : List DV).length) .undef) []).bind (retD TT Try.f135.results.toList 0) = (spec_l02Finite_T v48).bind fun y => .leaf (spec_l02Finite_enc v48 y) := by kernel_rfl
theorem spec_l02Finite_fn (v48 : List Nat) (F : Fr) (hm : F.ids.length = 0) (h0 : St F [] F.H0) (hA : DVs.Ok F [] [.bslc (BR.root 0) (.f32 v48)]) {y : Bool} (hy : spec_l02Finite_g v48 = some y) : ∃ H', FnOk Try.prog 135 (DVs.av F [.bslc (BR.root 0) (.f32 v48)]) F.H0 ((spec_l02Finite_enc v48 y).1.av F) H' ∧ St F (spec_l02Finite_enc v48 y).2 H' ∧ (spec_l02Finite_enc v48 y).1.Ok F (spec_l02Finite_enc v48 y).2 :=
  fn_fin tok spec_l02Finite_hO mixed Try.func135 Try.call135 (by kernel_rfl) (LoopsOk_eq (l := [(0, bodyOf Try.f135 0)]) (by kernel_rfl) ⟨spec_l02Finite_l0_ok v48, trivial⟩) (spec_l02Finite_den v48) hy hm h0 hA
noncomputable def spec_l02Finite_F : DFn := fun args L =>
  match args with
  | [a1] =>
    optT (rowF32 L a1) fun v48 =>
    .call (spec_l02Finite_g v48) fun y => .leaf (.bool y, L)
  | _ => .fail
theorem spec_l02Finite_Fok : COk Try.prog 135 spec_l02Finite_F true := by
  intro F L H args r L' hs ha hr
  unfold spec_l02Finite_F at hr
  split at hr
  · rename_i a1
    obtain ⟨v48, hv48, hr⟩ := optT_run hr
    simp only [Tree.run] at hr
    obtain ⟨y, hy, hr⟩ := Option.bind_eq_some_iff.1 hr
    simp only [Tree.run, Option.some.injEq, Prod.mk.injEq] at hr
    obtain ⟨rfl, rfl⟩ := hr
    exact call_ok0 hs (fun k => (([a1.av F] : List AV)[k]?).getD .top) [a1] [.bslc (BR.root 0) (.f32 v48)] (fun F' h0 hi hρ => ⟨by simp [DVs.av, DV.av, BR.av, hρ], spec_l02Finite_fn v48 F' (by rw [hi]; rfl) (st_nil hi) ⟨bslc_ok hi (by rw [h0, hρ]; exact rowF32_ok hs (DVs.okAt ha 0 rfl) hv48), trivial⟩ hy⟩) rfl
  · cases hr
/-! spec.l02Is -/
noncomputable def spec_l02Is_LO (v40 : Int) (v41 : Int) (v42 : List Nat) : LOr := fun id e L =>
  match id with
  | _ => .fail
noncomputable def spec_l02Is_tab : List (FuncId × DFn × Bool) := [(134, spec_l02Sides_F, true), (135, spec_l02Finite_F, true)]
theorem spec_l02Is_hO : OrcOk Try.prog (tabD spec_l02Is_tab) (tabM spec_l02Is_tab) := tabD_cons spec_l02Sides_Fok (tabD_cons spec_l02Finite_Fok (tabD_nil _))
noncomputable def spec_l02Is_T (v40 : Int) (v41 : Int) (v42 : List Nat) : Tree (Bool) :=
  (.br (spec_l02Sides_v v40 v41) (
   (.br (decide (((v42.length : Nat) : Int) = IntKind.i64.wrap (v40 * v41))) (
    (.call (spec_l02Finite_g v42) fun v56 =>
    .leaf v56)
   ) (
    .leaf false
   ))
  ) (
   .leaf false
  ))

noncomputable def spec_l02Is_g (v40 : Int) (v41 : Int) (v42 : List Nat) : Option (Bool) := (spec_l02Is_T v40 v41 v42).run
def spec_l02Is_enc (v40 : Int) (v41 : Int) (v42 : List Nat) (y : Bool) : Rs := (.bool y, [])
theorem spec_l02Is_den (v40 : Int) (v41 : Int) (v42 : List Nat) : (den TT (tabD spec_l02Is_tab) (tabM spec_l02Is_tab) (spec_l02Is_LO v40 v41 v42) (codeOf Try.f61) ([.bptr (BR.root 0) [.int .i64 v40, .int .i64 v41, .bslc (BR.root 1) (.f32 v42)]] ++ List.replicate (Try.f61.ntmps - ([.bptr (BR.root 0) [.int .i64 v40, .int .i64 v41, .bslc (BR.root 1) (.f32 v42)]] : List DV).length) .undef) []).bind (retD TT Try.f61.results.toList 0) = (spec_l02Is_T v40 v41 v42).bind fun y => .leaf (spec_l02Is_enc v40 v41 v42 y) := by kernel_rfl
theorem spec_l02Is_fn (v40 : Int) (v41 : Int) (v42 : List Nat) (F : Fr) (hm : F.ids.length = 0) (h0 : St F [] F.H0) (hA : DVs.Ok F [] [.bptr (BR.root 0) [.int .i64 v40, .int .i64 v41, .bslc (BR.root 1) (.f32 v42)]]) {y : Bool} (hy : spec_l02Is_g v40 v41 v42 = some y) : ∃ H', FnOk Try.prog 61 (DVs.av F [.bptr (BR.root 0) [.int .i64 v40, .int .i64 v41, .bslc (BR.root 1) (.f32 v42)]]) F.H0 ((spec_l02Is_enc v40 v41 v42 y).1.av F) H' ∧ St F (spec_l02Is_enc v40 v41 v42 y).2 H' ∧ (spec_l02Is_enc v40 v41 v42 y).1.Ok F (spec_l02Is_enc v40 v41 v42 y).2 :=
  fn_fin tok spec_l02Is_hO mixed Try.func61 Try.call61 (by kernel_rfl) (LoopsOk_eq (l := []) (by kernel_rfl) trivial) (spec_l02Is_den v40 v41 v42) hy hm h0 hA
noncomputable def spec_l02Is_F : DFn := fun args L =>
  match args with
  | [a1] =>
    optT (cellsOf L 3 a1) fun cs0 =>
    (match cs0 with
    | [.int .i64 v40, .int .i64 v41, a2] =>
    optT (rowF32 L a2) fun v42 =>
    .call (spec_l02Is_g v40 v41 v42) fun y => .leaf (.bool y, L)
    | _ => .fail)
  | _ => .fail
theorem spec_l02Is_Fok : COk Try.prog 61 spec_l02Is_F true := by
  intro F L H args r L' hs ha hr
  unfold spec_l02Is_F at hr
  split at hr
  · rename_i a1
    obtain ⟨cs0, hcp0, hr⟩ := optT_run hr
    split at hr
    · rename_i v40 v41 a2
      obtain ⟨v42, hv42, hr⟩ := optT_run hr
      simp only [Tree.run] at hr
      obtain ⟨y, hy, hr⟩ := Option.bind_eq_some_iff.1 hr
      simp only [Tree.run, Option.some.injEq, Prod.mk.injEq] at hr
      obtain ⟨rfl, rfl⟩ := hr
      exact call_ok0 hs (fun k => (([a1.av F, a2.av F] : List AV)[k]?).getD .top) [a1] [.bptr (BR.root 0) [.int .i64 v40, .int .i64 v41, .bslc (BR.root 1) (.f32 v42)]] (fun F' h0 hi hρ => ⟨by simp [DVs.av, DV.av, BR.av, hρ], spec_l02Is_fn v40 v41 v42 F' (by rw [hi]; rfl) (st_nil hi) ⟨bptr_ok hi (by rw [h0]; simpa [DVs.av, DV.av, BR.av, hρ] using (cellsOf_ok hs (DVs.okAt ha 0 rfl) hcp0).1) ⟨trivial, trivial, bslc_ok hi (by rw [h0, hρ]; exact rowF32_ok hs (DVs.okAt (cellsOf_ok hs (DVs.okAt ha 0 rfl) hcp0).2 2 rfl) hv42), trivial⟩, trivial⟩ hy⟩) rfl
    · cases hr
  · cases hr
/-! spec.l02Fit -/
noncomputable def spec_l02Fit_LO (v34 : Int) (v35 : Int) (v36 : List Nat) (v37 : Int) (v38 : Int) (v39 : List Nat) : LOr := fun id e L =>
  match id with
  | _ => .fail
noncomputable def spec_l02Fit_tab : List (FuncId × DFn × Bool) := [(61, spec_l02Is_F, true)]
theorem spec_l02Fit_hO : OrcOk Try.prog (tabD spec_l02Fit_tab) (tabM spec_l02Fit_tab) := tabD_cons spec_l02Is_Fok (tabD_nil _)
noncomputable def spec_l02Fit_T (v34 : Int) (v35 : Int) (v36 : List Nat) (v37 : Int) (v38 : Int) (v39 : List Nat) : Tree (Bool) :=
  (.call (spec_l02Is_g v34 v35 v36) fun v57 =>
  (.br v57 (
   (.call (spec_l02Is_g v37 v38 v39) fun v58 =>
   (.br v58 (
    .leaf (decide (v35 = v37))
   ) (
    .leaf false
   )))
  ) (
   .leaf false
  )))

noncomputable def spec_l02Fit_g (v34 : Int) (v35 : Int) (v36 : List Nat) (v37 : Int) (v38 : Int) (v39 : List Nat) : Option (Bool) := (spec_l02Fit_T v34 v35 v36 v37 v38 v39).run
def spec_l02Fit_enc (v34 : Int) (v35 : Int) (v36 : List Nat) (v37 : Int) (v38 : Int) (v39 : List Nat) (y : Bool) : Rs := (.bool y, [])
theorem spec_l02Fit_den (v34 : Int) (v35 : Int) (v36 : List Nat) (v37 : Int) (v38 : Int) (v39 : List Nat) : (den TT (tabD spec_l02Fit_tab) (tabM spec_l02Fit_tab) (spec_l02Fit_LO v34 v35 v36 v37 v38 v39) (codeOf Try.f69) ([.bptr (BR.root 0) [.int .i64 v34, .int .i64 v35, .bslc (BR.root 1) (.f32 v36)], .bptr (BR.root 2) [.int .i64 v37, .int .i64 v38, .bslc (BR.root 3) (.f32 v39)]] ++ List.replicate (Try.f69.ntmps - ([.bptr (BR.root 0) [.int .i64 v34, .int .i64 v35, .bslc (BR.root 1) (.f32 v36)], .bptr (BR.root 2) [.int .i64 v37, .int .i64 v38, .bslc (BR.root 3) (.f32 v39)]] : List DV).length) .undef) []).bind (retD TT Try.f69.results.toList 0) = (spec_l02Fit_T v34 v35 v36 v37 v38 v39).bind fun y => .leaf (spec_l02Fit_enc v34 v35 v36 v37 v38 v39 y) := by kernel_rfl
theorem spec_l02Fit_fn (v34 : Int) (v35 : Int) (v36 : List Nat) (v37 : Int) (v38 : Int) (v39 : List Nat) (F : Fr) (hm : F.ids.length = 0) (h0 : St F [] F.H0) (hA : DVs.Ok F [] [.bptr (BR.root 0) [.int .i64 v34, .int .i64 v35, .bslc (BR.root 1) (.f32 v36)], .bptr (BR.root 2) [.int .i64 v37, .int .i64 v38, .bslc (BR.root 3) (.f32 v39)]]) {y : Bool} (hy : spec_l02Fit_g v34 v35 v36 v37 v38 v39 = some y) : ∃ H', FnOk Try.prog 69 (DVs.av F [.bptr (BR.root 0) [.int .i64 v34, .int .i64 v35, .bslc (BR.root 1) (.f32 v36)], .bptr (BR.root 2) [.int .i64 v37, .int .i64 v38, .bslc (BR.root 3) (.f32 v39)]]) F.H0 ((spec_l02Fit_enc v34 v35 v36 v37 v38 v39 y).1.av F) H' ∧ St F (spec_l02Fit_enc v34 v35 v36 v37 v38 v39 y).2 H' ∧ (spec_l02Fit_enc v34 v35 v36 v37 v38 v39 y).1.Ok F (spec_l02Fit_enc v34 v35 v36 v37 v38 v39 y).2 :=
  fn_fin tok spec_l02Fit_hO mixed Try.func69 Try.call69 (by kernel_rfl) (LoopsOk_eq (l := []) (by kernel_rfl) trivial) (spec_l02Fit_den v34 v35 v36 v37 v38 v39) hy hm h0 hA
noncomputable def spec_l02Fit_F : DFn := fun args L =>
  match args with
  | [a1, a3] =>
    optT (cellsOf L 3 a1) fun cs0 =>
    (match cs0 with
    | [.int .i64 v34, .int .i64 v35, a2] =>
    optT (rowF32 L a2) fun v36 =>
    optT (cellsOf L 3 a3) fun cs2 =>
    (match cs2 with
    | [.int .i64 v37, .int .i64 v38, a4] =>
    optT (rowF32 L a4) fun v39 =>
    .call (spec_l02Fit_g v34 v35 v36 v37 v38 v39) fun y => .leaf (.bool y, L)
    | _ => .fail)
    | _ => .fail)
  | _ => .fail
theorem spec_l02Fit_Fok : COk Try.prog 69 spec_l02Fit_F true := by
  intro F L H args r L' hs ha hr
  unfold spec_l02Fit_F at hr
  split at hr
  · rename_i a1 a3
    obtain ⟨cs0, hcp0, hr⟩ := optT_run hr
    split at hr
    · rename_i v34 v35 a2
      obtain ⟨v36, hv36, hr⟩ := optT_run hr
      obtain ⟨cs2, hcp2, hr⟩ := optT_run hr
      split at hr
      · rename_i v37 v38 a4
        obtain ⟨v39, hv39, hr⟩ := optT_run hr
        simp only [Tree.run] at hr
        obtain ⟨y, hy, hr⟩ := Option.bind_eq_some_iff.1 hr
        simp only [Tree.run, Option.some.injEq, Prod.mk.injEq] at hr
        obtain ⟨rfl, rfl⟩ := hr
        exact call_ok0 hs (fun k => (([a1.av F, a2.av F, a3.av F, a4.av F] : List AV)[k]?).getD .top) [a1, a3] [.bptr (BR.root 0) [.int .i64 v34, .int .i64 v35, .bslc (BR.root 1) (.f32 v36)], .bptr (BR.root 2) [.int .i64 v37, .int .i64 v38, .bslc (BR.root 3) (.f32 v39)]] (fun F' h0 hi hρ => ⟨by simp [DVs.av, DV.av, BR.av, hρ], spec_l02Fit_fn v34 v35 v36 v37 v38 v39 F' (by rw [hi]; rfl) (st_nil hi) ⟨bptr_ok hi (by rw [h0]; simpa [DVs.av, DV.av, BR.av, hρ] using (cellsOf_ok hs (DVs.okAt ha 0 rfl) hcp0).1) ⟨trivial, trivial, bslc_ok hi (by rw [h0, hρ]; exact rowF32_ok hs (DVs.okAt (cellsOf_ok hs (DVs.okAt ha 0 rfl) hcp0).2 2 rfl) hv36), trivial⟩, bptr_ok hi (by rw [h0]; simpa [DVs.av, DV.av, BR.av, hρ] using (cellsOf_ok hs (DVs.okAt ha 1 rfl) hcp2).1) ⟨trivial, trivial, bslc_ok hi (by rw [h0, hρ]; exact rowF32_ok hs (DVs.okAt (cellsOf_ok hs (DVs.okAt ha 1 rfl) hcp2).2 2 rfl) hv39), trivial⟩, trivial⟩ hy⟩) rfl
      · cases hr
    · cases hr
  · cases hr
/-! spec.l02Blank -/
noncomputable def spec_l02Blank_LO (v66 : Int) (v67 : Int) : LOr := fun id e L =>
  match id with
  | _ => .fail
noncomputable def spec_l02Blank_tab : List (FuncId × DFn × Bool) := []
theorem spec_l02Blank_hO : OrcOk Try.prog (tabD spec_l02Blank_tab) (tabM spec_l02Blank_tab) := tabD_nil _
noncomputable def spec_l02Blank_T (v66 : Int) (v67 : Int) : Tree (Int × Int) :=
  .leaf (v66, v67)

noncomputable def spec_l02Blank_g (v66 : Int) (v67 : Int) : Option (Int × Int) := (spec_l02Blank_T v66 v67).run
def spec_l02Blank_enc (v66 : Int) (v67 : Int) (y : Int × Int) : Rs := (.agg [.int .i64 y.1, .int .i64 y.2, .own 0 0 ((([] : List Nat)).length)], [.row (.f32 ([] : List Nat)) 0])
theorem spec_l02Blank_den (v66 : Int) (v67 : Int) : (den TT (tabD spec_l02Blank_tab) (tabM spec_l02Blank_tab) (spec_l02Blank_LO v66 v67) (codeOf Try.f139) ([.int .i64 v66, .int .i64 v67] ++ List.replicate (Try.f139.ntmps - ([.int .i64 v66, .int .i64 v67] : List DV).length) .undef) []).bind (retD TT Try.f139.results.toList 0) = (spec_l02Blank_T v66 v67).bind fun y => .leaf (spec_l02Blank_enc v66 v67 y) := by kernel_rfl
theorem spec_l02Blank_fn (v66 : Int) (v67 : Int) (F : Fr) (hm : F.ids.length = 0) (h0 : St F [] F.H0) (hA : DVs.Ok F [] [.int .i64 v66, .int .i64 v67]) {y : Int × Int} (hy : spec_l02Blank_g v66 v67 = some y) : ∃ H', FnOk Try.prog 139 (DVs.av F [.int .i64 v66, .int .i64 v67]) F.H0 ((spec_l02Blank_enc v66 v67 y).1.av F) H' ∧ St F (spec_l02Blank_enc v66 v67 y).2 H' ∧ (spec_l02Blank_enc v66 v67 y).1.Ok F (spec_l02Blank_enc v66 v67 y).2 :=
  fn_fin tok spec_l02Blank_hO mixed Try.func139 Try.call139 (by kernel_rfl) (LoopsOk_eq (l := []) (by kernel_rfl) trivial) (spec_l02Blank_den v66 v67) hy hm h0 hA
def spec_l02Blank_v (v66 : Int) (v67 : Int) : Int × Int :=
  (v66, v67)
theorem spec_l02Blank_tot (v66 : Int) (v67 : Int) : spec_l02Blank_g v66 v67 = some (spec_l02Blank_v v66 v67) := by
  unfold spec_l02Blank_g spec_l02Blank_T spec_l02Blank_v
  simp only [Tree.run]
  repeat' (first | rfl | split)
noncomputable def spec_l02Blank_F : DFn := fun args L =>
  match args with
  | [.int .i64 v66, .int .i64 v67] =>
    .leaf (.agg [.int .i64 ((spec_l02Blank_v v66 v67).1), .int .i64 ((spec_l02Blank_v v66 v67).2), .own (L.length + 0) 0 ((([] : List Nat)).length)], L ++ [.row (.f32 ([] : List Nat)) 0])
  | _ => .fail
theorem spec_l02Blank_Fok : COk Try.prog 139 spec_l02Blank_F true := by
  intro F L H args r L' hs ha hr
  unfold spec_l02Blank_F at hr
  split at hr
  · rename_i v66 v67
    have hy := spec_l02Blank_tot v66 v67
    generalize spec_l02Blank_v v66 v67 = y at hy hr
    simp only [Tree.run, Option.some.injEq, Prod.mk.injEq] at hr
    obtain ⟨rfl, rfl⟩ := hr
    exact call_ok1 hs (fun k => (([] : List AV)[k]?).getD .top) [.int .i64 v66, .int .i64 v67] [.int .i64 v66, .int .i64 v67] (fun F' h0 hi hρ => ⟨by simp [DVs.av, DV.av, BR.av, hρ], spec_l02Blank_fn v66 v67 F' (by rw [hi]; rfl) (st_nil hi) ⟨trivial, trivial, trivial⟩ hy⟩) rfl rfl
  · cases hr
/-! spec.l02At -/
noncomputable def spec_l02At_LO (v72 : Int) (v73 : Int) (v74 : List Nat) (v75 : Int) (v76 : Int) : LOr := fun id e L =>
  match id with
  | _ => .fail
noncomputable def spec_l02At_tab : List (FuncId × DFn × Bool) := []
theorem spec_l02At_hO : OrcOk Try.prog (tabD spec_l02At_tab) (tabM spec_l02At_tab) := tabD_nil _
noncomputable def spec_l02At_T (v73 : Int) (v74 : List Nat) (v75 : Int) (v76 : Int) : Tree (Nat) :=
  (.grd (inb (IntKind.i64.wrap ((IntKind.i64.wrap (v75 * v73)) + v76)) v74.length) <|
  .leaf (nth v74 (Int.toNat (IntKind.i64.wrap ((IntKind.i64.wrap (v75 * v73)) + v76)))))

noncomputable def spec_l02At_g (v73 : Int) (v74 : List Nat) (v75 : Int) (v76 : Int) : Option (Nat) := (spec_l02At_T v73 v74 v75 v76).run
def spec_l02At_enc (v72 : Int) (v73 : Int) (v74 : List Nat) (v75 : Int) (v76 : Int) (y : Nat) : Rs := (.flt .f32 y, [])
theorem spec_l02At_den (v72 : Int) (v73 : Int) (v74 : List Nat) (v75 : Int) (v76 : Int) : (den TT (tabD spec_l02At_tab) (tabM spec_l02At_tab) (spec_l02At_LO v72 v73 v74 v75 v76) (codeOf Try.f59) ([.bptr (BR.root 0) [.int .i64 v72, .int .i64 v73, .bslc (BR.root 1) (.f32 v74)], .int .i64 v75, .int .i64 v76] ++ List.replicate (Try.f59.ntmps - ([.bptr (BR.root 0) [.int .i64 v72, .int .i64 v73, .bslc (BR.root 1) (.f32 v74)], .int .i64 v75, .int .i64 v76] : List DV).length) .undef) []).bind (retD TT Try.f59.results.toList 0) = (spec_l02At_T v73 v74 v75 v76).bind fun y => .leaf (spec_l02At_enc v72 v73 v74 v75 v76 y) := by kernel_rfl
theorem spec_l02At_fn (v72 : Int) (v73 : Int) (v74 : List Nat) (v75 : Int) (v76 : Int) (F : Fr) (hm : F.ids.length = 0) (h0 : St F [] F.H0) (hA : DVs.Ok F [] [.bptr (BR.root 0) [.int .i64 v72, .int .i64 v73, .bslc (BR.root 1) (.f32 v74)], .int .i64 v75, .int .i64 v76]) {y : Nat} (hy : spec_l02At_g v73 v74 v75 v76 = some y) : ∃ H', FnOk Try.prog 59 (DVs.av F [.bptr (BR.root 0) [.int .i64 v72, .int .i64 v73, .bslc (BR.root 1) (.f32 v74)], .int .i64 v75, .int .i64 v76]) F.H0 ((spec_l02At_enc v72 v73 v74 v75 v76 y).1.av F) H' ∧ St F (spec_l02At_enc v72 v73 v74 v75 v76 y).2 H' ∧ (spec_l02At_enc v72 v73 v74 v75 v76 y).1.Ok F (spec_l02At_enc v72 v73 v74 v75 v76 y).2 :=
  fn_fin tok spec_l02At_hO mixed Try.func59 Try.call59 (by kernel_rfl) (LoopsOk_eq (l := []) (by kernel_rfl) trivial) (spec_l02At_den v72 v73 v74 v75 v76) hy hm h0 hA
noncomputable def spec_l02At_F : DFn := fun args L =>
  match args with
  | [a1, .int .i64 v75, .int .i64 v76] =>
    optT (cellsOf L 3 a1) fun cs0 =>
    (match cs0 with
    | [.int .i64 v72, .int .i64 v73, a2] =>
    optT (rowF32 L a2) fun v74 =>
    .call (spec_l02At_g v73 v74 v75 v76) fun y => .leaf (.flt .f32 y, L)
    | _ => .fail)
  | _ => .fail
theorem spec_l02At_Fok : COk Try.prog 59 spec_l02At_F true := by
  intro F L H args r L' hs ha hr
  unfold spec_l02At_F at hr
  split at hr
  · rename_i a1 v75 v76
    obtain ⟨cs0, hcp0, hr⟩ := optT_run hr
    split at hr
    · rename_i v72 v73 a2
      obtain ⟨v74, hv74, hr⟩ := optT_run hr
      simp only [Tree.run] at hr
      obtain ⟨y, hy, hr⟩ := Option.bind_eq_some_iff.1 hr
      simp only [Tree.run, Option.some.injEq, Prod.mk.injEq] at hr
      obtain ⟨rfl, rfl⟩ := hr
      exact call_ok0 hs (fun k => (([a1.av F, a2.av F] : List AV)[k]?).getD .top) [a1, .int .i64 v75, .int .i64 v76] [.bptr (BR.root 0) [.int .i64 v72, .int .i64 v73, .bslc (BR.root 1) (.f32 v74)], .int .i64 v75, .int .i64 v76] (fun F' h0 hi hρ => ⟨by simp [DVs.av, DV.av, BR.av, hρ], spec_l02At_fn v72 v73 v74 v75 v76 F' (by rw [hi]; rfl) (st_nil hi) ⟨bptr_ok hi (by rw [h0]; simpa [DVs.av, DV.av, BR.av, hρ] using (cellsOf_ok hs (DVs.okAt ha 0 rfl) hcp0).1) ⟨trivial, trivial, bslc_ok hi (by rw [h0, hρ]; exact rowF32_ok hs (DVs.okAt (cellsOf_ok hs (DVs.okAt ha 0 rfl) hcp0).2 2 rfl) hv74), trivial⟩, trivial, trivial, trivial⟩ hy⟩) rfl
    · cases hr
  · cases hr
/-! spec.l02Mul -/
noncomputable def spec_l02Mul_l2_T (v61 : Int) (v62 : List Nat) (v64 : Int) (v65 : List Nat) (v125 : Int) (v128 : List Nat) (s : Nat × Int) : Tree ((Nat × Int) ⊕ (Nat)) :=
  (.br (decide (s.2 < v61)) (
   (.grd (!decide (v64 = 0)) <|
   (.call (spec_l02At_g v61 v62 (IntKind.i64.wrap (Int.tdiv v125 v64)) s.2) fun v129 =>
   (.grd (!decide (v64 = 0)) <|
   (.call (spec_l02At_g v64 v65 s.2 (Int.tmod v125 v64)) fun v130 =>
   .leaf (.inl (fadd .f32 s.1 (fmul .f32 v129 v130), IntKind.i64.wrap (s.2 + (1 : Int))))))))
  ) (
   .leaf (.inr s.1)
  ))

noncomputable def spec_l02Mul_l2_g (v61 : Int) (v62 : List Nat) (v64 : Int) (v65 : List Nat) (v125 : Int) (v128 : List Nat) (s0 : Nat × Int) : Option (Nat) := whileM (fun s => (spec_l02Mul_l2_T v61 v62 v64 v65 v125 v128 s).run) s0
def spec_l02Mul_l2_E (v60 : Int) (v61 : Int) (v62 : List Nat) (v63 : Int) (v64 : Int) (v65 : List Nat) (v125 : Int) (v128 : List Nat) (s : Nat × Int) : Sd := ([.bptr (BR.root 0) [.int .i64 v60, .int .i64 v61, .bslc (BR.root 1) (.f32 v62)], .bptr (BR.root 2) [.int .i64 v63, .int .i64 v64, .bslc (BR.root 3) (.f32 v65)], .top, .top, .ptr 0 (0 : Nat) 0 (3 : Nat), .ptr 1 (0 : Nat) 0 (3 : Nat), .int .i64 v125, .flt .f32 s.1, .int .i64 s.2, .top, .top, .top, .top, .top, .top, .top, .top, .top, .top, .top, .top, .top, .top, .top, .top, .top, .top, .top, .top, .top, .top, .top, .top, .top, .top, .top, .top, .top, .top, .top, .top, .top, .top, .top, .top, .top, .top, .top, .top, .top, .top, .top, .top, .top, .top, .top, .top, .top, .top, .top, .top, .top, .top, .top, .top, .top, .top], [.gen [.int .i64 (0 : Int), .int .i64 (0 : Int), .nilslc] false 0, .gen [.int .i64 ((spec_l02Blank_v v60 v64).1), .int .i64 ((spec_l02Blank_v v60 v64).2), .own 2 0 ((v128).length)] false 0, .row (.f32 v128) 0])
def spec_l02Mul_l2_X (v60 : Int) (v61 : Int) (v62 : List Nat) (v63 : Int) (v64 : Int) (v65 : List Nat) (v125 : Int) (v128 : List Nat) (x : Nat) : Out := (.normal, [.bptr (BR.root 0) [.int .i64 v60, .int .i64 v61, .bslc (BR.root 1) (.f32 v62)], .bptr (BR.root 2) [.int .i64 v63, .int .i64 v64, .bslc (BR.root 3) (.f32 v65)], .top, .top, .ptr 0 (0 : Nat) 0 (3 : Nat), .ptr 1 (0 : Nat) 0 (3 : Nat), .int .i64 v125, .flt .f32 x, .top, .top, .top, .top, .top, .top, .top, .top, .top, .top, .top, .top, .top, .top, .top, .top, .top, .top, .top, .top, .top, .top, .top, .top, .top, .top, .top, .top, .top, .top, .top, .top, .top, .top, .top, .top, .top, .top, .top, .top, .top, .top, .top, .top, .top, .top, .top, .top, .top, .top, .top, .top, .top, .top, .top, .top, .top, .top, .top], [.gen [.int .i64 (0 : Int), .int .i64 (0 : Int), .nilslc] false 0, .gen [.int .i64 ((spec_l02Blank_v v60 v64).1), .int .i64 ((spec_l02Blank_v v60 v64).2), .own 2 0 ((v128).length)] false 0, .row (.f32 v128) 0])
def spec_l02Mul_l2_kill : List Nat := [0, 0, 1, 1, 0, 0, 0, 0, 0, 1, 1, 1, 1, 1, 1, 1, 1, 1, 1, 1, 1, 1, 1, 1, 1, 1, 1, 1, 1, 1, 1, 1, 1, 1, 1, 1, 1, 1, 1, 1, 1, 1, 1, 1, 1, 1, 1, 1, 1, 1, 1, 1, 1, 1, 1, 1, 1, 1, 1, 1, 1, 1, 1, 1, 1, 1, 1]
def spec_l02Mul_l2_nx : Exit → List Nat
  | .exit 0 => [1, 1, 1, 1, 0, 0, 1, 1, 1, 1, 1, 1, 1, 1, 1, 1, 1, 1, 1, 1, 1, 1, 1, 1, 1, 1, 1, 1, 1, 1, 1, 1, 1, 1, 1, 1, 1, 1, 1, 1, 1, 1, 1, 1, 1, 1, 1, 1, 1, 1, 1, 1, 1, 1, 1, 1, 1, 1, 1, 1, 1, 1, 1, 1, 1, 1, 1]
  | .exit 1 => [0, 0, 1, 1, 0, 0, 0, 1, 1, 1, 1, 1, 1, 1, 1, 1, 1, 1, 1, 1, 1, 1, 1, 1, 1, 1, 1, 1, 1, 1, 1, 1, 1, 1, 1, 1, 1, 1, 1, 1, 1, 1, 1, 1, 1, 1, 1, 1, 1, 1, 1, 1, 1, 1, 1, 1, 1, 1, 1, 1, 1, 1, 1, 1, 1, 1, 1]
  | .exit 2 => [0, 0, 1, 1, 0, 0, 0, 0, 1, 1, 1, 1, 1, 1, 1, 1, 1, 1, 1, 1, 1, 1, 1, 1, 1, 1, 1, 1, 1, 1, 1, 1, 1, 1, 1, 1, 1, 1, 1, 1, 1, 1, 1, 1, 1, 1, 1, 1, 1, 1, 1, 1, 1, 1, 1, 1, 1, 1, 1, 1, 1, 1, 1, 1, 1, 1, 1]
  | .ret => [1, 1, 1, 1, 0, 1, 1, 1, 1, 1, 1, 1, 1, 1, 1, 1, 1, 1, 1, 1, 1, 1, 1, 1, 1, 1, 1, 1, 1, 1, 1, 1, 1, 1, 1, 1, 1, 1, 1, 1, 1, 1, 1, 1, 1, 1, 1, 1, 1, 1, 1, 1, 1, 1, 1, 1, 1, 1, 1, 1, 1, 1, 1, 1, 1, 1, 1]
  | _ => []
noncomputable def spec_l02Mul_l0_T (v60 : Int) (v61 : Int) (v62 : List Nat) (v63 : Int) (v64 : Int) (v65 : List Nat) (s : Int × (List Nat)) : Tree ((Int × (List Nat)) ⊕ ((List Nat))) :=
  (.br (decide (s.1 < IntKind.i64.wrap (v60 * v64))) (
   (.need (some (spec_l02Mul_l2_E v60 v61 v62 v63 v64 v65 s.1 s.2 ((0 : Nat), (0 : Int))) = some (spec_l02Mul_l2_E v60 v61 v62 v63 v64 v65 s.1 s.2 ((0 : Nat), (0 : Int)))) <|
   (.call (spec_l02Mul_l2_g v61 v62 v64 v65 s.1 s.2 ((0 : Nat), (0 : Int))) fun v131 =>
   (.grd (fits (s.2 ++ ([v131] : List Nat)).length) <|
   .leaf (.inl (IntKind.i64.wrap (s.1 + (1 : Int)), s.2 ++ ([v131] : List Nat))))))
  ) (
   .leaf (.inr s.2)
  ))

noncomputable def spec_l02Mul_l0_g (v60 : Int) (v61 : Int) (v62 : List Nat) (v63 : Int) (v64 : Int) (v65 : List Nat) (s0 : Int × (List Nat)) : Option ((List Nat)) := whileM (fun s => (spec_l02Mul_l0_T v60 v61 v62 v63 v64 v65 s).run) s0
def spec_l02Mul_l0_E (v60 : Int) (v61 : Int) (v62 : List Nat) (v63 : Int) (v64 : Int) (v65 : List Nat) (s : Int × (List Nat)) : Sd := ([.bptr (BR.root 0) [.int .i64 v60, .int .i64 v61, .bslc (BR.root 1) (.f32 v62)], .bptr (BR.root 2) [.int .i64 v63, .int .i64 v64, .bslc (BR.root 3) (.f32 v65)], .top, .top, .ptr 0 (0 : Nat) 0 (3 : Nat), .ptr 1 (0 : Nat) 0 (3 : Nat), .int .i64 s.1, .top, .top, .top, .top, .top, .top, .top, .top, .top, .top, .top, .top, .top, .top, .top, .top, .top, .top, .top, .top, .top, .top, .top, .top, .top, .top, .top, .top, .top, .top, .top, .top, .top, .top, .top, .top, .top, .top, .top, .top, .top, .top, .top, .top, .top, .top, .top, .top, .top, .top, .top, .top, .top, .top, .top, .top, .top, .top, .top, .top], [.gen [.int .i64 (0 : Int), .int .i64 (0 : Int), .nilslc] false 0, .gen [.int .i64 ((spec_l02Blank_v v60 v64).1), .int .i64 ((spec_l02Blank_v v60 v64).2), .own 2 0 ((s.2).length)] false 0, .row (.f32 s.2) 0])
def spec_l02Mul_l0_X (v60 : Int) (v61 : Int) (v62 : List Nat) (v63 : Int) (v64 : Int) (v65 : List Nat) (x : (List Nat)) : Out := (.normal, [.top, .top, .top, .top, .ptr 0 (0 : Nat) 0 (3 : Nat), .ptr 1 (0 : Nat) 0 (3 : Nat), .top, .top, .top, .top, .top, .top, .top, .top, .top, .top, .top, .top, .top, .top, .top, .top, .top, .top, .top, .top, .top, .top, .top, .top, .top, .top, .top, .top, .top, .top, .top, .top, .top, .top, .top, .top, .top, .top, .top, .top, .top, .top, .top, .top, .top, .top, .top, .top, .top, .top, .top, .top, .top, .top, .top, .top, .top, .top, .top, .top, .top], [.gen [.int .i64 (0 : Int), .int .i64 (0 : Int), .nilslc] false 0, .gen [.int .i64 ((spec_l02Blank_v v60 v64).1), .int .i64 ((spec_l02Blank_v v60 v64).2), .own 2 0 ((x).length)] false 0, .row (.f32 x) 0])
def spec_l02Mul_l0_kill : List Nat := [0, 0, 1, 1, 0, 0, 0, 1, 1, 1, 1, 1, 1, 1, 1, 1, 1, 1, 1, 1, 1, 1, 1, 1, 1, 1, 1, 1, 1, 1, 1, 1, 1, 1, 1, 1, 1, 1, 1, 1, 1, 1, 1, 1, 1, 1, 1, 1, 1, 1, 1, 1, 1, 1, 1, 1, 1, 1, 1, 1, 1, 1, 1, 1, 1, 1, 1]
def spec_l02Mul_l0_nx : Exit → List Nat
  | .exit 0 => [1, 1, 1, 1, 0, 0, 1, 1, 1, 1, 1, 1, 1, 1, 1, 1, 1, 1, 1, 1, 1, 1, 1, 1, 1, 1, 1, 1, 1, 1, 1, 1, 1, 1, 1, 1, 1, 1, 1, 1, 1, 1, 1, 1, 1, 1, 1, 1, 1, 1, 1, 1, 1, 1, 1, 1, 1, 1, 1, 1, 1, 1, 1, 1, 1, 1, 1]
  | .ret => [1, 1, 1, 1, 0, 1, 1, 1, 1, 1, 1, 1, 1, 1, 1, 1, 1, 1, 1, 1, 1, 1, 1, 1, 1, 1, 1, 1, 1, 1, 1, 1, 1, 1, 1, 1, 1, 1, 1, 1, 1, 1, 1, 1, 1, 1, 1, 1, 1, 1, 1, 1, 1, 1, 1, 1, 1, 1, 1, 1, 1, 1, 1, 1, 1, 1, 1]
  | _ => []
noncomputable def spec_l02Mul_LO (v60 : Int) (v61 : Int) (v62 : List Nat) (v63 : Int) (v64 : Int) (v65 : List Nat) : LOr := fun id e L =>
  match id with
  | 2 => .need (normA 0 spec_l02Mul_l2_kill e L = some (spec_l02Mul_l2_E v60 v61 v62 v63 v64 v65 (gI (vAt e 6)) (gRF L (cAt L (vAt e 5) 2)) ((gF (vAt e 7)), (gI (vAt e 8))))) (.call (spec_l02Mul_l2_g v61 v62 v64 v65 (gI (vAt e 6)) (gRF L (cAt L (vAt e 5) 2)) ((gF (vAt e 7)), (gI (vAt e 8)))) fun x => .leaf (spec_l02Mul_l2_X v60 v61 v62 v63 v64 v65 (gI (vAt e 6)) (gRF L (cAt L (vAt e 5) 2)) x))
  | 0 => .need (normA 0 spec_l02Mul_l0_kill e L = some (spec_l02Mul_l0_E v60 v61 v62 v63 v64 v65 ((gI (vAt e 6)), (gRF L (cAt L (vAt e 5) 2))))) (.call (spec_l02Mul_l0_g v60 v61 v62 v63 v64 v65 ((gI (vAt e 6)), (gRF L (cAt L (vAt e 5) 2)))) fun x => .leaf (spec_l02Mul_l0_X v60 v61 v62 v63 v64 v65 x))
  | _ => .fail
noncomputable def spec_l02Mul_tab : List (FuncId × DFn × Bool) := [(139, spec_l02Blank_F, true), (59, spec_l02At_F, true)]
theorem spec_l02Mul_hO : OrcOk Try.prog (tabD spec_l02Mul_tab) (tabM spec_l02Mul_tab) := tabD_cons spec_l02Blank_Fok (tabD_cons spec_l02At_Fok (tabD_nil _))
theorem spec_l02Mul_l2_be (v60 : Int) (v61 : Int) (v62 : List Nat) (v63 : Int) (v64 : Int) (v65 : List Nat) (v125 : Int) (v128 : List Nat) (s : Nat × Int) : bodyT TT (tabD spec_l02Mul_tab) (tabM spec_l02Mul_tab) (spec_l02Mul_LO v60 v61 v62 v63 v64 v65) 0 spec_l02Mul_l2_kill spec_l02Mul_l2_nx (bodyOf Try.f72 2) 2 (spec_l02Mul_l2_E v60 v61 v62 v63 v64 v65 v125 v128 s) = (spec_l02Mul_l2_T v61 v62 v64 v65 v125 v128 s).bind fun y => .leaf (outS (spec_l02Mul_l2_E v60 v61 v62 v63 v64 v65 v125 v128) (spec_l02Mul_l2_X v60 v61 v62 v63 v64 v65 v125 v128) y) := by kernel_rfl
theorem spec_l02Mul_l2_ok (v60 : Int) (v61 : Int) (v62 : List Nat) (v63 : Int) (v64 : Int) (v65 : List Nat) : LSound Try.prog 0 (spec_l02Mul_LO v60 v61 v62 v63 v64 v65) 2 (bodyOf Try.f72 2) := by
  intro e L out h
  exact lo_ok (E := spec_l02Mul_l2_E v60 v61 v62 v63 v64 v65 (gI (vAt e 6)) (gRF L (cAt L (vAt e 5) 2))) (gT := spec_l02Mul_l2_T v61 v62 v64 v65 (gI (vAt e 6)) (gRF L (cAt L (vAt e 5) 2))) (X := spec_l02Mul_l2_X v60 v61 v62 v63 v64 v65 (gI (vAt e 6)) (gRF L (cAt L (vAt e 5) 2))) (s0 := ((gF (vAt e 7)), (gI (vAt e 8)))) tok spec_l02Mul_hO mixed (LoopsOk_eq (l := []) (by kernel_rfl) trivial) (spec_l02Mul_l2_be v60 v61 v62 v63 v64 v65 (gI (vAt e 6)) (gRF L (cAt L (vAt e 5) 2))) rfl (by intro x; rfl) h
theorem spec_l02Mul_l0_be (v60 : Int) (v61 : Int) (v62 : List Nat) (v63 : Int) (v64 : Int) (v65 : List Nat) (s : Int × (List Nat)) : bodyT TT (tabD spec_l02Mul_tab) (tabM spec_l02Mul_tab) (spec_l02Mul_LO v60 v61 v62 v63 v64 v65) 0 spec_l02Mul_l0_kill spec_l02Mul_l0_nx (bodyOf Try.f72 0) 0 (spec_l02Mul_l0_E v60 v61 v62 v63 v64 v65 s) = (spec_l02Mul_l0_T v60 v61 v62 v63 v64 v65 s).bind fun y => .leaf (outS (spec_l02Mul_l0_E v60 v61 v62 v63 v64 v65) (spec_l02Mul_l0_X v60 v61 v62 v63 v64 v65) y) := by kernel_rfl
theorem spec_l02Mul_l0_ok (v60 : Int) (v61 : Int) (v62 : List Nat) (v63 : Int) (v64 : Int) (v65 : List Nat) : LSound Try.prog 0 (spec_l02Mul_LO v60 v61 v62 v63 v64 v65) 0 (bodyOf Try.f72 0) := by
  intro e L out h
  exact lo_ok (E := spec_l02Mul_l0_E v60 v61 v62 v63 v64 v65) (gT := spec_l02Mul_l0_T v60 v61 v62 v63 v64 v65) (X := spec_l02Mul_l0_X v60 v61 v62 v63 v64 v65) (s0 := ((gI (vAt e 6)), (gRF L (cAt L (vAt e 5) 2)))) tok spec_l02Mul_hO mixed (LoopsOk_eq (l := [(2, bodyOf Try.f72 2)]) (by kernel_rfl) ⟨spec_l02Mul_l2_ok v60 v61 v62 v63 v64 v65, trivial⟩) (spec_l02Mul_l0_be v60 v61 v62 v63 v64 v65) rfl (by intro x; rfl) h
noncomputable def spec_l02Mul_T (v60 : Int) (v61 : Int) (v62 : List Nat) (v63 : Int) (v64 : Int) (v65 : List Nat) : Tree (Int × Int × (List Nat)) :=
  (.need (some (spec_l02Mul_l0_E v60 v61 v62 v63 v64 v65 ((0 : Int), ([] : List Nat))) = some (spec_l02Mul_l0_E v60 v61 v62 v63 v64 v65 ((0 : Int), ([] : List Nat)))) <|
  (.call (spec_l02Mul_l0_g v60 v61 v62 v63 v64 v65 ((0 : Int), ([] : List Nat))) fun v132 =>
  .leaf ((spec_l02Blank_v v60 v64).1, (spec_l02Blank_v v60 v64).2, v132)))

noncomputable def spec_l02Mul_g (v60 : Int) (v61 : Int) (v62 : List Nat) (v63 : Int) (v64 : Int) (v65 : List Nat) : Option (Int × Int × (List Nat)) := (spec_l02Mul_T v60 v61 v62 v63 v64 v65).run
def spec_l02Mul_enc (v60 : Int) (v61 : Int) (v62 : List Nat) (v63 : Int) (v64 : Int) (v65 : List Nat) (y : Int × Int × (List Nat)) : Rs := (.agg [.int .i64 y.1, .int .i64 y.2.1, .own 0 0 ((y.2.2).length)], [.row (.f32 y.2.2) 0])
theorem spec_l02Mul_den (v60 : Int) (v61 : Int) (v62 : List Nat) (v63 : Int) (v64 : Int) (v65 : List Nat) : (den TT (tabD spec_l02Mul_tab) (tabM spec_l02Mul_tab) (spec_l02Mul_LO v60 v61 v62 v63 v64 v65) (codeOf Try.f72) ([.bptr (BR.root 0) [.int .i64 v60, .int .i64 v61, .bslc (BR.root 1) (.f32 v62)], .bptr (BR.root 2) [.int .i64 v63, .int .i64 v64, .bslc (BR.root 3) (.f32 v65)]] ++ List.replicate (Try.f72.ntmps - ([.bptr (BR.root 0) [.int .i64 v60, .int .i64 v61, .bslc (BR.root 1) (.f32 v62)], .bptr (BR.root 2) [.int .i64 v63, .int .i64 v64, .bslc (BR.root 3) (.f32 v65)]] : List DV).length) .undef) []).bind (retD TT Try.f72.results.toList 0) = (spec_l02Mul_T v60 v61 v62 v63 v64 v65).bind fun y => .leaf (spec_l02Mul_enc v60 v61 v62 v63 v64 v65 y) := by kernel_rfl
theorem spec_l02Mul_fn (v60 : Int) (v61 : Int) (v62 : List Nat) (v63 : Int) (v64 : Int) (v65 : List Nat) (F : Fr) (hm : F.ids.length = 0) (h0 : St F [] F.H0) (hA : DVs.Ok F [] [.bptr (BR.root 0) [.int .i64 v60, .int .i64 v61, .bslc (BR.root 1) (.f32 v62)], .bptr (BR.root 2) [.int .i64 v63, .int .i64 v64, .bslc (BR.root 3) (.f32 v65)]]) {y : Int × Int × (List Nat)} (hy : spec_l02Mul_g v60 v61 v62 v63 v64 v65 = some y) : ∃ H', FnOk Try.prog 72 (DVs.av F [.bptr (BR.root 0) [.int .i64 v60, .int .i64 v61, .bslc (BR.root 1) (.f32 v62)], .bptr (BR.root 2) [.int .i64 v63, .int .i64 v64, .bslc (BR.root 3) (.f32 v65)]]) F.H0 ((spec_l02Mul_enc v60 v61 v62 v63 v64 v65 y).1.av F) H' ∧ St F (spec_l02Mul_enc v60 v61 v62 v63 v64 v65 y).2 H' ∧ (spec_l02Mul_enc v60 v61 v62 v63 v64 v65 y).1.Ok F (spec_l02Mul_enc v60 v61 v62 v63 v64 v65 y).2 :=
  fn_fin tok spec_l02Mul_hO mixed Try.func72 Try.call72 (by kernel_rfl) (LoopsOk_eq (l := [(0, bodyOf Try.f72 0)]) (by kernel_rfl) ⟨spec_l02Mul_l0_ok v60 v61 v62 v63 v64 v65, trivial⟩) (spec_l02Mul_den v60 v61 v62 v63 v64 v65) hy hm h0 hA
noncomputable def spec_l02Mul_F : DFn := fun args L =>
  match args with
  | [a1, a3] =>
    optT (cellsOf L 3 a1) fun cs0 =>
    (match cs0 with
    | [.int .i64 v60, .int .i64 v61, a2] =>
    optT (rowF32 L a2) fun v62 =>
    optT (cellsOf L 3 a3) fun cs2 =>
    (match cs2 with
    | [.int .i64 v63, .int .i64 v64, a4] =>
    optT (rowF32 L a4) fun v65 =>
    .call (spec_l02Mul_g v60 v61 v62 v63 v64 v65) fun y => .leaf (.agg [.int .i64 y.1, .int .i64 y.2.1, .own (L.length + 0) 0 ((y.2.2).length)], L ++ [.row (.f32 y.2.2) 0])
    | _ => .fail)
    | _ => .fail)
  | _ => .fail
theorem spec_l02Mul_Fok : COk Try.prog 72 spec_l02Mul_F true := by
  intro F L H args r L' hs ha hr
  unfold spec_l02Mul_F at hr
  split at hr
  · rename_i a1 a3
    obtain ⟨cs0, hcp0, hr⟩ := optT_run hr
    split at hr
    · rename_i v60 v61 a2
      obtain ⟨v62, hv62, hr⟩ := optT_run hr
      obtain ⟨cs2, hcp2, hr⟩ := optT_run hr
      split at hr
      · rename_i v63 v64 a4
        obtain ⟨v65, hv65, hr⟩ := optT_run hr
        simp only [Tree.run] at hr
        obtain ⟨y, hy, hr⟩ := Option.bind_eq_some_iff.1 hr
        simp only [Tree.run, Option.some.injEq, Prod.mk.injEq] at hr
        obtain ⟨rfl, rfl⟩ := hr
        exact call_ok1 hs (fun k => (([a1.av F, a2.av F, a3.av F, a4.av F] : List AV)[k]?).getD .top) [a1, a3] [.bptr (BR.root 0) [.int .i64 v60, .int .i64 v61, .bslc (BR.root 1) (.f32 v62)], .bptr (BR.root 2) [.int .i64 v63, .int .i64 v64, .bslc (BR.root 3) (.f32 v65)]] (fun F' h0 hi hρ => ⟨by simp [DVs.av, DV.av, BR.av, hρ], spec_l02Mul_fn v60 v61 v62 v63 v64 v65 F' (by rw [hi]; rfl) (st_nil hi) ⟨bptr_ok hi (by rw [h0]; simpa [DVs.av, DV.av, BR.av, hρ] using (cellsOf_ok hs (DVs.okAt ha 0 rfl) hcp0).1) ⟨trivial, trivial, bslc_ok hi (by rw [h0, hρ]; exact rowF32_ok hs (DVs.okAt (cellsOf_ok hs (DVs.okAt ha 0 rfl) hcp0).2 2 rfl) hv62), trivial⟩, bptr_ok hi (by rw [h0]; simpa [DVs.av, DV.av, BR.av, hρ] using (cellsOf_ok hs (DVs.okAt ha 1 rfl) hcp2).1) ⟨trivial, trivial, bslc_ok hi (by rw [h0, hρ]; exact rowF32_ok hs (DVs.okAt (cellsOf_ok hs (DVs.okAt ha 1 rfl) hcp2).2 2 rfl) hv65), trivial⟩, trivial⟩ hy⟩) rfl rfl
      · cases hr
    · cases hr
  · cases hr
/-! spec.l02Give -/
noncomputable def spec_l02Give_LO (v134 : Int) (v135 : Int) (v136 : List Nat) : LOr := fun id e L =>
  match id with
  | _ => .fail
noncomputable def spec_l02Give_tab : List (FuncId × DFn × Bool) := [(61, spec_l02Is_F, true)]
theorem spec_l02Give_hO : OrcOk Try.prog (tabD spec_l02Give_tab) (tabM spec_l02Give_tab) := tabD_cons spec_l02Is_Fok (tabD_nil _)
noncomputable def spec_l02Give_T (v134 : Int) (v135 : Int) (v136 : List Nat) : Tree ((Unit) ⊕ (Int × Int)) :=
  (.call (spec_l02Is_g v134 v135 v136) fun v137 =>
  (.br (!v137) (
   .leaf (.inl ())
  ) (
   .leaf (.inr (v134, v135))
  )))

noncomputable def spec_l02Give_g (v134 : Int) (v135 : Int) (v136 : List Nat) : Option ((Unit) ⊕ (Int × Int)) := (spec_l02Give_T v134 v135 v136).run
def spec_l02Give_enc (v134 : Int) (v135 : Int) (v136 : List Nat) (y : (Unit) ⊕ (Int × Int)) : Rs := (match y with | .inl y => (.tup [.agg [.int .i64 (0 : Int), .int .i64 (0 : Int), .nilslc], .lit false], []) | .inr y => (.tup [.agg [.int .i64 y.1, .int .i64 y.2, .bslc (BR.root 0) (.f32 v136)], .lit true], []))
theorem spec_l02Give_den (v134 : Int) (v135 : Int) (v136 : List Nat) : (den TT (tabD spec_l02Give_tab) (tabM spec_l02Give_tab) (spec_l02Give_LO v134 v135 v136) (codeOf Try.f71) ([.agg [.int .i64 v134, .int .i64 v135, .bslc (BR.root 0) (.f32 v136)]] ++ List.replicate (Try.f71.ntmps - ([.agg [.int .i64 v134, .int .i64 v135, .bslc (BR.root 0) (.f32 v136)]] : List DV).length) .undef) []).bind (retD TT Try.f71.results.toList 0) = (spec_l02Give_T v134 v135 v136).bind fun y => .leaf (spec_l02Give_enc v134 v135 v136 y) := by kernel_rfl
theorem spec_l02Give_fn (v134 : Int) (v135 : Int) (v136 : List Nat) (F : Fr) (hm : F.ids.length = 0) (h0 : St F [] F.H0) (hA : DVs.Ok F [] [.agg [.int .i64 v134, .int .i64 v135, .bslc (BR.root 0) (.f32 v136)]]) {y : (Unit) ⊕ (Int × Int)} (hy : spec_l02Give_g v134 v135 v136 = some y) : ∃ H', FnOk Try.prog 71 (DVs.av F [.agg [.int .i64 v134, .int .i64 v135, .bslc (BR.root 0) (.f32 v136)]]) F.H0 ((spec_l02Give_enc v134 v135 v136 y).1.av F) H' ∧ St F (spec_l02Give_enc v134 v135 v136 y).2 H' ∧ (spec_l02Give_enc v134 v135 v136 y).1.Ok F (spec_l02Give_enc v134 v135 v136 y).2 :=
  fn_fin tok spec_l02Give_hO mixed Try.func71 Try.call71 (by kernel_rfl) (LoopsOk_eq (l := []) (by kernel_rfl) trivial) (spec_l02Give_den v134 v135 v136) hy hm h0 hA
noncomputable def spec_l02Give_F : DFn := fun args L =>
  match args with
  | [.agg [.int .i64 v134, .int .i64 v135, a1]] =>
    optT (rowF32 L a1) fun v136 =>
    .call (spec_l02Give_g v134 v135 v136) fun y => .sum y (fun y0 => .leaf (.tup [.agg [.int .i64 (0 : Int), .int .i64 (0 : Int), .nilslc], .lit false], L)) (fun z0 => .leaf (.tup [.agg [.int .i64 z0.1, .int .i64 z0.2, a1], .lit true], L))
  | _ => .fail
theorem spec_l02Give_Fok : COk Try.prog 71 spec_l02Give_F true := by
  intro F L H args r L' hs ha hr
  unfold spec_l02Give_F at hr
  split at hr
  · rename_i v134 v135 a1
    obtain ⟨v136, hv136, hr⟩ := optT_run hr
    simp only [Tree.run] at hr
    obtain ⟨y, hy, hr⟩ := Option.bind_eq_some_iff.1 hr
    cases y with
    | inl y =>
      simp only [Tree.run, Option.some.injEq, Prod.mk.injEq] at hr
      obtain ⟨rfl, rfl⟩ := hr
      exact call_ok0 hs (fun k => (([a1.av F] : List AV)[k]?).getD .top) [.agg [.int .i64 v134, .int .i64 v135, a1]] [.agg [.int .i64 v134, .int .i64 v135, .bslc (BR.root 0) (.f32 v136)]] (fun F' h0 hi hρ => ⟨by simp [DVs.av, DV.av, BR.av, hρ], spec_l02Give_fn v134 v135 v136 F' (by rw [hi]; rfl) (st_nil hi) ⟨⟨trivial, trivial, bslc_ok hi (by rw [h0, hρ]; exact rowF32_ok hs (DVs.okAt (DVs.okAt ha 0 rfl) 2 rfl) hv136), trivial⟩, trivial⟩ hy⟩) rfl
    | inr y =>
      simp only [Tree.run, Option.some.injEq, Prod.mk.injEq] at hr
      obtain ⟨rfl, rfl⟩ := hr
      exact call_al0 hs (fun k => (([a1.av F] : List AV)[k]?).getD .top) [.agg [.int .i64 v134, .int .i64 v135, a1]] [.agg [.int .i64 v134, .int .i64 v135, .bslc (BR.root 0) (.f32 v136)]] (fun F' h0 hi hρ => ⟨by simp [DVs.av, DV.av, BR.av, hρ], spec_l02Give_fn v134 v135 v136 F' (by rw [hi]; rfl) (st_nil hi) ⟨⟨trivial, trivial, bslc_ok hi (by rw [h0, hρ]; exact rowF32_ok hs (DVs.okAt (DVs.okAt ha 0 rfl) 2 rfl) hv136), trivial⟩, trivial⟩ hy⟩) (fun F' h0 hi hρ => by simp [spec_l02Give_enc, DVs.av, DV.av, BR.av, hρ]) ⟨⟨trivial, trivial, (DVs.okAt (DVs.okAt ha 0 rfl) 2 rfl), trivial⟩, trivial, trivial⟩
  · cases hr
/-! spec.MulShared -/
noncomputable def spec_MulShared_LO (v27 : Int) (v28 : Int) (v29 : List Nat) (v30 : Int) (v31 : Int) (v32 : List Nat) (v33 : Int) : LOr := fun id e L =>
  match id with
  | _ => .fail
noncomputable def spec_MulShared_tab : List (FuncId × DFn × Bool) := [(69, spec_l02Fit_F, true), (70, spec_l00In_F, true), (72, spec_l02Mul_F, true), (71, spec_l02Give_F, true)]
theorem spec_MulShared_hO : OrcOk Try.prog (tabD spec_MulShared_tab) (tabM spec_MulShared_tab) := tabD_cons spec_l02Fit_Fok (tabD_cons spec_l00In_Fok (tabD_cons spec_l02Mul_Fok (tabD_cons spec_l02Give_Fok (tabD_nil _))))
noncomputable def spec_MulShared_T (v27 : Int) (v28 : Int) (v29 : List Nat) (v30 : Int) (v31 : Int) (v32 : List Nat) (v33 : Int) : Tree ((Unit) ⊕ (Int × Int × (List Nat))) :=
  (.call (spec_l02Fit_g v27 v28 v29 v30 v31 v32) fun v59 =>
  (.br (!v59) (
   .leaf (.inl ())
  ) (
   (.br (!(spec_l00In_v v33 (1 : Int) (8 : Int))) (
    .leaf (.inl ())
   ) (
    (.call (spec_l02Mul_g v27 v28 v29 v30 v31 v32) fun v133 =>
    (.call (spec_l02Give_g v133.1 v133.2.1 v133.2.2) fun v138 =>
    (.sum v138 (fun v139 =>
     .leaf (.inl ())
    ) (fun v140 =>
     .leaf (.inr (v140.1, v140.2, v133.2.2))
    ))))
   ))
  )))

noncomputable def spec_MulShared_g (v27 : Int) (v28 : Int) (v29 : List Nat) (v30 : Int) (v31 : Int) (v32 : List Nat) (v33 : Int) : Option ((Unit) ⊕ (Int × Int × (List Nat))) := (spec_MulShared_T v27 v28 v29 v30 v31 v32 v33).run
def spec_MulShared_enc (v27 : Int) (v28 : Int) (v29 : List Nat) (v30 : Int) (v31 : Int) (v32 : List Nat) (v33 : Int) (y : (Unit) ⊕ (Int × Int × (List Nat))) : Rs := (match y with | .inl y => (.tup [.agg [.int .i64 (0 : Int), .int .i64 (0 : Int), .nilslc], .lit false], []) | .inr y => (.tup [.agg [.int .i64 y.1, .int .i64 y.2.1, .own 0 0 ((y.2.2).length)], .lit true], [.row (.f32 y.2.2) 0]))
theorem spec_MulShared_den (v27 : Int) (v28 : Int) (v29 : List Nat) (v30 : Int) (v31 : Int) (v32 : List Nat) (v33 : Int) : (den TT (tabD spec_MulShared_tab) (tabM spec_MulShared_tab) (spec_MulShared_LO v27 v28 v29 v30 v31 v32 v33) (codeOf Try.f25) ([.agg [.int .i64 v27, .int .i64 v28, .bslc (BR.root 0) (.f32 v29)], .agg [.int .i64 v30, .int .i64 v31, .bslc (BR.root 1) (.f32 v32)], .int .i64 v33] ++ List.replicate (Try.f25.ntmps - ([.agg [.int .i64 v27, .int .i64 v28, .bslc (BR.root 0) (.f32 v29)], .agg [.int .i64 v30, .int .i64 v31, .bslc (BR.root 1) (.f32 v32)], .int .i64 v33] : List DV).length) .undef) []).bind (retD TT Try.f25.results.toList 0) = (spec_MulShared_T v27 v28 v29 v30 v31 v32 v33).bind fun y => .leaf (spec_MulShared_enc v27 v28 v29 v30 v31 v32 v33 y) := by kernel_rfl
theorem spec_MulShared_fn (v27 : Int) (v28 : Int) (v29 : List Nat) (v30 : Int) (v31 : Int) (v32 : List Nat) (v33 : Int) (F : Fr) (hm : F.ids.length = 0) (h0 : St F [] F.H0) (hA : DVs.Ok F [] [.agg [.int .i64 v27, .int .i64 v28, .bslc (BR.root 0) (.f32 v29)], .agg [.int .i64 v30, .int .i64 v31, .bslc (BR.root 1) (.f32 v32)], .int .i64 v33]) {y : (Unit) ⊕ (Int × Int × (List Nat))} (hy : spec_MulShared_g v27 v28 v29 v30 v31 v32 v33 = some y) : ∃ H', FnOk Try.prog 25 (DVs.av F [.agg [.int .i64 v27, .int .i64 v28, .bslc (BR.root 0) (.f32 v29)], .agg [.int .i64 v30, .int .i64 v31, .bslc (BR.root 1) (.f32 v32)], .int .i64 v33]) F.H0 ((spec_MulShared_enc v27 v28 v29 v30 v31 v32 v33 y).1.av F) H' ∧ St F (spec_MulShared_enc v27 v28 v29 v30 v31 v32 v33 y).2 H' ∧ (spec_MulShared_enc v27 v28 v29 v30 v31 v32 v33 y).1.Ok F (spec_MulShared_enc v27 v28 v29 v30 v31 v32 v33 y).2 :=
  fn_fin tok spec_MulShared_hO mixed Try.func25 Try.call25 (by kernel_rfl) (LoopsOk_eq (l := []) (by kernel_rfl) trivial) (spec_MulShared_den v27 v28 v29 v30 v31 v32 v33) hy hm h0 hA
noncomputable def spec_MulShared_F : DFn := fun args L =>
  match args with
  | [.agg [.int .i64 v27, .int .i64 v28, a1], .agg [.int .i64 v30, .int .i64 v31, a2], .int .i64 v33] =>
    optT (rowF32 L a1) fun v29 =>
    optT (rowF32 L a2) fun v32 =>
    .call (spec_MulShared_g v27 v28 v29 v30 v31 v32 v33) fun y => .sum y (fun y0 => .leaf (.tup [.agg [.int .i64 (0 : Int), .int .i64 (0 : Int), .nilslc], .lit false], L)) (fun z0 => .leaf (.tup [.agg [.int .i64 z0.1, .int .i64 z0.2.1, .own (L.length + 0) 0 ((z0.2.2).length)], .lit true], L ++ [.row (.f32 z0.2.2) 0]))
  | _ => .fail
theorem spec_MulShared_Fok : COk Try.prog 25 spec_MulShared_F true := by
  intro F L H args r L' hs ha hr
  unfold spec_MulShared_F at hr
  split at hr
  · rename_i v27 v28 a1 v30 v31 a2 v33
    obtain ⟨v29, hv29, hr⟩ := optT_run hr
    obtain ⟨v32, hv32, hr⟩ := optT_run hr
    simp only [Tree.run] at hr
    obtain ⟨y, hy, hr⟩ := Option.bind_eq_some_iff.1 hr
    cases y with
    | inl y =>
      simp only [Tree.run, Option.some.injEq, Prod.mk.injEq] at hr
      obtain ⟨rfl, rfl⟩ := hr
      exact call_ok0 hs (fun k => (([a1.av F, a2.av F] : List AV)[k]?).getD .top) [.agg [.int .i64 v27, .int .i64 v28, a1], .agg [.int .i64 v30, .int .i64 v31, a2], .int .i64 v33] [.agg [.int .i64 v27, .int .i64 v28, .bslc (BR.root 0) (.f32 v29)], .agg [.int .i64 v30, .int .i64 v31, .bslc (BR.root 1) (.f32 v32)], .int .i64 v33] (fun F' h0 hi hρ => ⟨by simp [DVs.av, DV.av, BR.av, hρ], spec_MulShared_fn v27 v28 v29 v30 v31 v32 v33 F' (by rw [hi]; rfl) (st_nil hi) ⟨⟨trivial, trivial, bslc_ok hi (by rw [h0, hρ]; exact rowF32_ok hs (DVs.okAt (DVs.okAt ha 0 rfl) 2 rfl) hv29), trivial⟩, ⟨trivial, trivial, bslc_ok hi (by rw [h0, hρ]; exact rowF32_ok hs (DVs.okAt (DVs.okAt ha 1 rfl) 2 rfl) hv32), trivial⟩, trivial, trivial⟩ hy⟩) rfl
    | inr y =>
      simp only [Tree.run, Option.some.injEq, Prod.mk.injEq] at hr
      obtain ⟨rfl, rfl⟩ := hr
      exact call_ok1 hs (fun k => (([a1.av F, a2.av F] : List AV)[k]?).getD .top) [.agg [.int .i64 v27, .int .i64 v28, a1], .agg [.int .i64 v30, .int .i64 v31, a2], .int .i64 v33] [.agg [.int .i64 v27, .int .i64 v28, .bslc (BR.root 0) (.f32 v29)], .agg [.int .i64 v30, .int .i64 v31, .bslc (BR.root 1) (.f32 v32)], .int .i64 v33] (fun F' h0 hi hρ => ⟨by simp [DVs.av, DV.av, BR.av, hρ], spec_MulShared_fn v27 v28 v29 v30 v31 v32 v33 F' (by rw [hi]; rfl) (st_nil hi) ⟨⟨trivial, trivial, bslc_ok hi (by rw [h0, hρ]; exact rowF32_ok hs (DVs.okAt (DVs.okAt ha 0 rfl) 2 rfl) hv29), trivial⟩, ⟨trivial, trivial, bslc_ok hi (by rw [h0, hρ]; exact rowF32_ok hs (DVs.okAt (DVs.okAt ha 1 rfl) 2 rfl) hv32), trivial⟩, trivial, trivial⟩ hy⟩) rfl rfl
  · cases hr
/-! impl.inRange -/
noncomputable def impl_inRange_LO (v153 : Int) (v154 : Int) (v155 : Int) : LOr := fun id e L =>
  match id with
  | _ => .fail
noncomputable def impl_inRange_tab : List (FuncId × DFn × Bool) := []
theorem impl_inRange_hO : OrcOk Try.prog (tabD impl_inRange_tab) (tabM impl_inRange_tab) := tabD_nil _
noncomputable def impl_inRange_T (v153 : Int) (v154 : Int) (v155 : Int) : Tree (Bool) :=
  (.br (decide (v154 ≤ v153)) (
   .leaf (decide (v153 ≤ v155))
  ) (
   .leaf false
  ))

noncomputable def impl_inRange_g (v153 : Int) (v154 : Int) (v155 : Int) : Option (Bool) := (impl_inRange_T v153 v154 v155).run
def impl_inRange_enc (v153 : Int) (v154 : Int) (v155 : Int) (y : Bool) : Rs := (.bool y, [])
theorem impl_inRange_den (v153 : Int) (v154 : Int) (v155 : Int) : (den TT (tabD impl_inRange_tab) (tabM impl_inRange_tab) (impl_inRange_LO v153 v154 v155) (codeOf Try.f73) ([.int .i64 v153, .int .i64 v154, .int .i64 v155] ++ List.replicate (Try.f73.ntmps - ([.int .i64 v153, .int .i64 v154, .int .i64 v155] : List DV).length) .undef) []).bind (retD TT Try.f73.results.toList 0) = (impl_inRange_T v153 v154 v155).bind fun y => .leaf (impl_inRange_enc v153 v154 v155 y) := by kernel_rfl
theorem impl_inRange_fn (v153 : Int) (v154 : Int) (v155 : Int) (F : Fr) (hm : F.ids.length = 0) (h0 : St F [] F.H0) (hA : DVs.Ok F [] [.int .i64 v153, .int .i64 v154, .int .i64 v155]) {y : Bool} (hy : impl_inRange_g v153 v154 v155 = some y) : ∃ H', FnOk Try.prog 73 (DVs.av F [.int .i64 v153, .int .i64 v154, .int .i64 v155]) F.H0 ((impl_inRange_enc v153 v154 v155 y).1.av F) H' ∧ St F (impl_inRange_enc v153 v154 v155 y).2 H' ∧ (impl_inRange_enc v153 v154 v155 y).1.Ok F (impl_inRange_enc v153 v154 v155 y).2 :=
  fn_fin tok impl_inRange_hO mixed Try.func73 Try.call73 (by kernel_rfl) (LoopsOk_eq (l := []) (by kernel_rfl) trivial) (impl_inRange_den v153 v154 v155) hy hm h0 hA
def impl_inRange_v (v153 : Int) (v154 : Int) (v155 : Int) : Bool :=
  if (decide (v154 ≤ v153)) = true then (
   decide (v153 ≤ v155)
  ) else (
   false
  )
theorem impl_inRange_tot (v153 : Int) (v154 : Int) (v155 : Int) : impl_inRange_g v153 v154 v155 = some (impl_inRange_v v153 v154 v155) := by
  unfold impl_inRange_g impl_inRange_T impl_inRange_v
  simp only [Tree.run]
  repeat' (first | rfl | split)
noncomputable def impl_inRange_F : DFn := fun args L =>
  match args with
  | [.int .i64 v153, .int .i64 v154, .int .i64 v155] =>
    .leaf (.bool (impl_inRange_v v153 v154 v155), L)
  | _ => .fail
theorem impl_inRange_Fok : COk Try.prog 73 impl_inRange_F true := by
  intro F L H args r L' hs ha hr
  unfold impl_inRange_F at hr
  split at hr
  · rename_i v153 v154 v155
    have hy := impl_inRange_tot v153 v154 v155
    generalize impl_inRange_v v153 v154 v155 = y at hy hr
    simp only [Tree.run, Option.some.injEq, Prod.mk.injEq] at hr
    obtain ⟨rfl, rfl⟩ := hr
    exact call_ok0 hs (fun k => (([] : List AV)[k]?).getD .top) [.int .i64 v153, .int .i64 v154, .int .i64 v155] [.int .i64 v153, .int .i64 v154, .int .i64 v155] (fun F' h0 hi hρ => ⟨by simp [DVs.av, DV.av, BR.av, hρ], impl_inRange_fn v153 v154 v155 F' (by rw [hi]; rfl) (st_nil hi) ⟨trivial, trivial, trivial, trivial⟩ hy⟩) rfl
  · cases hr
/-! impl.isSide -/
noncomputable def impl_isSide_LO (v171 : Int) : LOr := fun id e L =>
  match id with
  | _ => .fail
noncomputable def impl_isSide_tab : List (FuncId × DFn × Bool) := [(73, impl_inRange_F, true)]
theorem impl_isSide_hO : OrcOk Try.prog (tabD impl_isSide_tab) (tabM impl_isSide_tab) := tabD_cons impl_inRange_Fok (tabD_nil _)
noncomputable def impl_isSide_T (v171 : Int) : Tree (Bool) :=
  .leaf (impl_inRange_v v171 (1 : Int) (12 : Int))

noncomputable def impl_isSide_g (v171 : Int) : Option (Bool) := (impl_isSide_T v171).run
def impl_isSide_enc (v171 : Int) (y : Bool) : Rs := (.bool y, [])
theorem impl_isSide_den (v171 : Int) : (den TT (tabD impl_isSide_tab) (tabM impl_isSide_tab) (impl_isSide_LO v171) (codeOf Try.f77) ([.int .i64 v171] ++ List.replicate (Try.f77.ntmps - ([.int .i64 v171] : List DV).length) .undef) []).bind (retD TT Try.f77.results.toList 0) = (impl_isSide_T v171).bind fun y => .leaf (impl_isSide_enc v171 y) := by kernel_rfl
theorem impl_isSide_fn (v171 : Int) (F : Fr) (hm : F.ids.length = 0) (h0 : St F [] F.H0) (hA : DVs.Ok F [] [.int .i64 v171]) {y : Bool} (hy : impl_isSide_g v171 = some y) : ∃ H', FnOk Try.prog 77 (DVs.av F [.int .i64 v171]) F.H0 ((impl_isSide_enc v171 y).1.av F) H' ∧ St F (impl_isSide_enc v171 y).2 H' ∧ (impl_isSide_enc v171 y).1.Ok F (impl_isSide_enc v171 y).2 :=
  fn_fin tok impl_isSide_hO mixed Try.func77 Try.call77 (by kernel_rfl) (LoopsOk_eq (l := []) (by kernel_rfl) trivial) (impl_isSide_den v171) hy hm h0 hA
def impl_isSide_v (v171 : Int) : Bool :=
  (impl_inRange_v v171 (1 : Int) (12 : Int))
theorem impl_isSide_tot (v171 : Int) : impl_isSide_g v171 = some (impl_isSide_v v171) := by
  unfold impl_isSide_g impl_isSide_T impl_isSide_v
  simp only [Tree.run]
  repeat' (first | rfl | split)
noncomputable def impl_isSide_F : DFn := fun args L =>
  match args with
  | [.int .i64 v171] =>
    .leaf (.bool (impl_isSide_v v171), L)
  | _ => .fail
theorem impl_isSide_Fok : COk Try.prog 77 impl_isSide_F true := by
  intro F L H args r L' hs ha hr
  unfold impl_isSide_F at hr
  split at hr
  · rename_i v171
    have hy := impl_isSide_tot v171
    generalize impl_isSide_v v171 = y at hy hr
    simp only [Tree.run, Option.some.injEq, Prod.mk.injEq] at hr
    obtain ⟨rfl, rfl⟩ := hr
    exact call_ok0 hs (fun k => (([] : List AV)[k]?).getD .top) [.int .i64 v171] [.int .i64 v171] (fun F' h0 hi hρ => ⟨by simp [DVs.av, DV.av, BR.av, hρ], impl_isSide_fn v171 F' (by rw [hi]; rfl) (st_nil hi) ⟨trivial, trivial⟩ hy⟩) rfl
  · cases hr
/-! impl.length[float32] -/
noncomputable def impl_lengthF_LO (v172 : List Nat) : LOr := fun id e L =>
  match id with
  | _ => .fail
noncomputable def impl_lengthF_tab : List (FuncId × DFn × Bool) := []
theorem impl_lengthF_hO : OrcOk Try.prog (tabD impl_lengthF_tab) (tabM impl_lengthF_tab) := tabD_nil _
noncomputable def impl_lengthF_T (v172 : List Nat) : Tree (Int) :=
  .leaf ((v172.length : Nat) : Int)

noncomputable def impl_lengthF_g (v172 : List Nat) : Option (Int) := (impl_lengthF_T v172).run
def impl_lengthF_enc (v172 : List Nat) (y : Int) : Rs := (.int .i64 y, [])
theorem impl_lengthF_den (v172 : List Nat) : (den TT (tabD impl_lengthF_tab) (tabM impl_lengthF_tab) (impl_lengthF_LO v172) (codeOf Try.f112) ([.bslc (BR.root 0) (.f32 v172)] ++ List.replicate (Try.f112.ntmps - ([.bslc (BR.root 0) (.f32 v172)] : List DV).length) .undef) []).bind (retD TT Try.f112.results.toList 0) = (impl_lengthF_T v172).bind fun y => .leaf (impl_lengthF_enc v172 y) := by kernel_rfl
theorem impl_lengthF_fn (v172 : List Nat) (F : Fr) (hm : F.ids.length = 0) (h0 : St F [] F.H0) (hA : DVs.Ok F [] [.bslc (BR.root 0) (.f32 v172)]) {y : Int} (hy : impl_lengthF_g v172 = some y) : ∃ H', FnOk Try.prog 112 (DVs.av F [.bslc (BR.root 0) (.f32 v172)]) F.H0 ((impl_lengthF_enc v172 y).1.av F) H' ∧ St F (impl_lengthF_enc v172 y).2 H' ∧ (impl_lengthF_enc v172 y).1.Ok F (impl_lengthF_enc v172 y).2 :=
  fn_fin tok impl_lengthF_hO mixed Try.func112 Try.call112 (by kernel_rfl) (LoopsOk_eq (l := []) (by kernel_rfl) trivial) (impl_lengthF_den v172) hy hm h0 hA
def impl_lengthF_v (v172 : List Nat) : Int :=
  ((v172.length : Nat) : Int)
theorem impl_lengthF_tot (v172 : List Nat) : impl_lengthF_g v172 = some (impl_lengthF_v v172) := by
  unfold impl_lengthF_g impl_lengthF_T impl_lengthF_v
  simp only [Tree.run]
  repeat' (first | rfl | split)
noncomputable def impl_lengthF_F : DFn := fun args L =>
  match args with
  | [a1] =>
    optT (rowF32 L a1) fun v172 =>
    .leaf (.int .i64 (impl_lengthF_v v172), L)
  | _ => .fail
theorem impl_lengthF_Fok : COk Try.prog 112 impl_lengthF_F true := by
  intro F L H args r L' hs ha hr
  unfold impl_lengthF_F at hr
  split at hr
  · rename_i a1
    obtain ⟨v172, hv172, hr⟩ := optT_run hr
    have hy := impl_lengthF_tot v172
    generalize impl_lengthF_v v172 = y at hy hr
    simp only [Tree.run, Option.some.injEq, Prod.mk.injEq] at hr
    obtain ⟨rfl, rfl⟩ := hr
    exact call_ok0 hs (fun k => (([a1.av F] : List AV)[k]?).getD .top) [a1] [.bslc (BR.root 0) (.f32 v172)] (fun F' h0 hi hρ => ⟨by simp [DVs.av, DV.av, BR.av, hρ], impl_lengthF_fn v172 F' (by rw [hi]; rfl) (st_nil hi) ⟨bslc_ok hi (by rw [h0, hρ]; exact rowF32_ok hs (DVs.okAt ha 0 rfl) hv172), trivial⟩ hy⟩) rfl
  · cases hr
/-! math.IsNaN -/
noncomputable def math_IsNaN_LO (v180 : Nat) : LOr := fun id e L =>
  match id with
  | _ => .fail
noncomputable def math_IsNaN_tab : List (FuncId × DFn × Bool) := []
theorem math_IsNaN_hO : OrcOk Try.prog (tabD math_IsNaN_tab) (tabM math_IsNaN_tab) := tabD_nil _
noncomputable def math_IsNaN_T (v180 : Nat) : Tree (Bool) :=
  .leaf (!feq .f64 v180 v180)

noncomputable def math_IsNaN_g (v180 : Nat) : Option (Bool) := (math_IsNaN_T v180).run
def math_IsNaN_enc (v180 : Nat) (y : Bool) : Rs := (.bool y, [])
theorem math_IsNaN_den (v180 : Nat) : (den TT (tabD math_IsNaN_tab) (tabM math_IsNaN_tab) (math_IsNaN_LO v180) (codeOf Try.f172) ([.flt .f64 v180] ++ List.replicate (Try.f172.ntmps - ([.flt .f64 v180] : List DV).length) .undef) []).bind (retD TT Try.f172.results.toList 0) = (math_IsNaN_T v180).bind fun y => .leaf (math_IsNaN_enc v180 y) := by kernel_rfl
theorem math_IsNaN_fn (v180 : Nat) (F : Fr) (hm : F.ids.length = 0) (h0 : St F [] F.H0) (hA : DVs.Ok F [] [.flt .f64 v180]) {y : Bool} (hy : math_IsNaN_g v180 = some y) : ∃ H', FnOk Try.prog 172 (DVs.av F [.flt .f64 v180]) F.H0 ((math_IsNaN_enc v180 y).1.av F) H' ∧ St F (math_IsNaN_enc v180 y).2 H' ∧ (math_IsNaN_enc v180 y).1.Ok F (math_IsNaN_enc v180 y).2 :=
  fn_fin tok math_IsNaN_hO mixed Try.func172 Try.call172 (by kernel_rfl) (LoopsOk_eq (l := []) (by kernel_rfl) trivial) (math_IsNaN_den v180) hy hm h0 hA
def math_IsNaN_v (v180 : Nat) : Bool :=
  !feq .f64 v180 v180
theorem math_IsNaN_tot (v180 : Nat) : math_IsNaN_g v180 = some (math_IsNaN_v v180) := by
  unfold math_IsNaN_g math_IsNaN_T math_IsNaN_v
  simp only [Tree.run]
  repeat' (first | rfl | split)
noncomputable def math_IsNaN_F : DFn := fun args L =>
  match args with
  | [.flt .f64 v180] =>
    .leaf (.bool (math_IsNaN_v v180), L)
  | _ => .fail
theorem math_IsNaN_Fok : COk Try.prog 172 math_IsNaN_F true := by
  intro F L H args r L' hs ha hr
  unfold math_IsNaN_F at hr
  split at hr
  · rename_i v180
    have hy := math_IsNaN_tot v180
    generalize math_IsNaN_v v180 = y at hy hr
    simp only [Tree.run, Option.some.injEq, Prod.mk.injEq] at hr
    obtain ⟨rfl, rfl⟩ := hr
    exact call_ok0 hs (fun k => (([] : List AV)[k]?).getD .top) [.flt .f64 v180] [.flt .f64 v180] (fun F' h0 hi hρ => ⟨by simp [DVs.av, DV.av, BR.av, hρ], math_IsNaN_fn v180 F' (by rw [hi]; rfl) (st_nil hi) ⟨trivial, trivial⟩ hy⟩) rfl
  · cases hr
/-! math.IsInf -/
noncomputable def math_IsInf_LO (v181 : Nat) (v182 : Int) : LOr := fun id e L =>
  match id with
  | _ => .fail
noncomputable def math_IsInf_tab : List (FuncId × DFn × Bool) := [(97, Abs_F, true)]
theorem math_IsInf_hO : OrcOk Try.prog (tabD math_IsInf_tab) (tabM math_IsInf_tab) := tabD_cons Abs_Fok (tabD_nil _)
noncomputable def math_IsInf_T (v181 : Nat) (v182 : Int) : Tree (Bool) :=
  (.br (decide (v182 = (0 : Int))) (
   .leaf (fgrt .f64 (fabs v181) (9218868437227405311 : Nat))
  ) (
   (.br (decide (v182 < (0 : Int))) (
    .leaf (fgrt .f64 (fneg .f64 v181) (9218868437227405311 : Nat))
   ) (
    .leaf (fgrt .f64 v181 (9218868437227405311 : Nat))
   ))
  ))

noncomputable def math_IsInf_g (v181 : Nat) (v182 : Int) : Option (Bool) := (math_IsInf_T v181 v182).run
def math_IsInf_enc (v181 : Nat) (v182 : Int) (y : Bool) : Rs := (.bool y, [])
theorem math_IsInf_den (v181 : Nat) (v182 : Int) : (den TT (tabD math_IsInf_tab) (tabM math_IsInf_tab) (math_IsInf_LO v181 v182) (codeOf Try.f173) ([.flt .f64 v181, .int .i64 v182] ++ List.replicate (Try.f173.ntmps - ([.flt .f64 v181, .int .i64 v182] : List DV).length) .undef) []).bind (retD TT Try.f173.results.toList 0) = (math_IsInf_T v181 v182).bind fun y => .leaf (math_IsInf_enc v181 v182 y) := by kernel_rfl
theorem math_IsInf_fn (v181 : Nat) (v182 : Int) (F : Fr) (hm : F.ids.length = 0) (h0 : St F [] F.H0) (hA : DVs.Ok F [] [.flt .f64 v181, .int .i64 v182]) {y : Bool} (hy : math_IsInf_g v181 v182 = some y) : ∃ H', FnOk Try.prog 173 (DVs.av F [.flt .f64 v181, .int .i64 v182]) F.H0 ((math_IsInf_enc v181 v182 y).1.av F) H' ∧ St F (math_IsInf_enc v181 v182 y).2 H' ∧ (math_IsInf_enc v181 v182 y).1.Ok F (math_IsInf_enc v181 v182 y).2 :=
  fn_fin tok math_IsInf_hO mixed Try.func173 Try.call173 (by kernel_rfl) (LoopsOk_eq (l := []) (by kernel_rfl) trivial) (math_IsInf_den v181 v182) hy hm h0 hA
def math_IsInf_v (v181 : Nat) (v182 : Int) : Bool :=
  if (decide (v182 = (0 : Int))) = true then (
   fgrt .f64 (fabs v181) (9218868437227405311 : Nat)
  ) else (
   if (decide (v182 < (0 : Int))) = true then (
    fgrt .f64 (fneg .f64 v181) (9218868437227405311 : Nat)
   ) else (
    fgrt .f64 v181 (9218868437227405311 : Nat)
   )
  )
theorem math_IsInf_tot (v181 : Nat) (v182 : Int) : math_IsInf_g v181 v182 = some (math_IsInf_v v181 v182) := by
  unfold math_IsInf_g math_IsInf_T math_IsInf_v
  simp only [Tree.run]
  repeat' (first | rfl | split)
noncomputable def math_IsInf_F : DFn := fun args L =>
  match args with
  | [.flt .f64 v181, .int .i64 v182] =>
    .leaf (.bool (math_IsInf_v v181 v182), L)
  | _ => .fail
theorem math_IsInf_Fok : COk Try.prog 173 math_IsInf_F true := by
  intro F L H args r L' hs ha hr
  unfold math_IsInf_F at hr
  split at hr
  · rename_i v181 v182
    have hy := math_IsInf_tot v181 v182
    generalize math_IsInf_v v181 v182 = y at hy hr
    simp only [Tree.run, Option.some.injEq, Prod.mk.injEq] at hr
    obtain ⟨rfl, rfl⟩ := hr
    exact call_ok0 hs (fun k => (([] : List AV)[k]?).getD .top) [.flt .f64 v181, .int .i64 v182] [.flt .f64 v181, .int .i64 v182] (fun F' h0 hi hρ => ⟨by simp [DVs.av, DV.av, BR.av, hρ], math_IsInf_fn v181 v182 F' (by rw [hi]; rfl) (st_nil hi) ⟨trivial, trivial, trivial⟩ hy⟩) rfl
  · cases hr
/-! impl.isFinite64 -/
noncomputable def impl_isFinite64_LO (v179 : Nat) : LOr := fun id e L =>
  match id with
  | _ => .fail
noncomputable def impl_isFinite64_tab : List (FuncId × DFn × Bool) := [(172, math_IsNaN_F, true), (173, math_IsInf_F, true)]
theorem impl_isFinite64_hO : OrcOk Try.prog (tabD impl_isFinite64_tab) (tabM impl_isFinite64_tab) := tabD_cons math_IsNaN_Fok (tabD_cons math_IsInf_Fok (tabD_nil _))
noncomputable def impl_isFinite64_T (v179 : Nat) : Tree (Bool) :=
  (.br (!(math_IsNaN_v v179)) (
   .leaf (!(math_IsInf_v v179 (0 : Int)))
  ) (
   .leaf false
  ))

noncomputable def impl_isFinite64_g (v179 : Nat) : Option (Bool) := (impl_isFinite64_T v179).run
def impl_isFinite64_enc (v179 : Nat) (y : Bool) : Rs := (.bool y, [])
theorem impl_isFinite64_den (v179 : Nat) : (den TT (tabD impl_isFinite64_tab) (tabM impl_isFinite64_tab) (impl_isFinite64_LO v179) (codeOf Try.f149) ([.flt .f64 v179] ++ List.replicate (Try.f149.ntmps - ([.flt .f64 v179] : List DV).length) .undef) []).bind (retD TT Try.f149.results.toList 0) = (impl_isFinite64_T v179).bind fun y => .leaf (impl_isFinite64_enc v179 y) := by kernel_rfl
theorem impl_isFinite64_fn (v179 : Nat) (F : Fr) (hm : F.ids.length = 0) (h0 : St F [] F.H0) (hA : DVs.Ok F [] [.flt .f64 v179]) {y : Bool} (hy : impl_isFinite64_g v179 = some y) : ∃ H', FnOk Try.prog 149 (DVs.av F [.flt .f64 v179]) F.H0 ((impl_isFinite64_enc v179 y).1.av F) H' ∧ St F (impl_isFinite64_enc v179 y).2 H' ∧ (impl_isFinite64_enc v179 y).1.Ok F (impl_isFinite64_enc v179 y).2 :=
  fn_fin tok impl_isFinite64_hO mixed Try.func149 Try.call149 (by kernel_rfl) (LoopsOk_eq (l := []) (by kernel_rfl) trivial) (impl_isFinite64_den v179) hy hm h0 hA
def impl_isFinite64_v (v179 : Nat) : Bool :=
  if (!(math_IsNaN_v v179)) = true then (
   !(math_IsInf_v v179 (0 : Int))
  ) else (
   false
  )
theorem impl_isFinite64_tot (v179 : Nat) : impl_isFinite64_g v179 = some (impl_isFinite64_v v179) := by
  unfold impl_isFinite64_g impl_isFinite64_T impl_isFinite64_v
  simp only [Tree.run]
  repeat' (first | rfl | split)
noncomputable def impl_isFinite64_F : DFn := fun args L =>
  match args with
  | [.flt .f64 v179] =>
    .leaf (.bool (impl_isFinite64_v v179), L)
  | _ => .fail
theorem impl_isFinite64_Fok : COk Try.prog 149 impl_isFinite64_F true := by
  intro F L H args r L' hs ha hr
  unfold impl_isFinite64_F at hr
  split at hr
  · rename_i v179
    have hy := impl_isFinite64_tot v179
    generalize impl_isFinite64_v v179 = y at hy hr
    simp only [Tree.run, Option.some.injEq, Prod.mk.injEq] at hr
    obtain ⟨rfl, rfl⟩ := hr
    exact call_ok0 hs (fun k => (([] : List AV)[k]?).getD .top) [.flt .f64 v179] [.flt .f64 v179] (fun F' h0 hi hρ => ⟨by simp [DVs.av, DV.av, BR.av, hρ], impl_isFinite64_fn v179 F' (by rw [hi]; rfl) (st_nil hi) ⟨trivial, trivial⟩ hy⟩) rfl
  · cases hr
/-! impl.IsFinite -/
noncomputable def impl_IsFinite_LO (v178 : Nat) : LOr := fun id e L =>
  match id with
  | _ => .fail
noncomputable def impl_IsFinite_tab : List (FuncId × DFn × Bool) := [(149, impl_isFinite64_F, true)]
theorem impl_IsFinite_hO : OrcOk Try.prog (tabD impl_IsFinite_tab) (tabM impl_IsFinite_tab) := tabD_cons impl_isFinite64_Fok (tabD_nil _)
noncomputable def impl_IsFinite_T (v178 : Nat) : Tree (Bool) :=
  .leaf (impl_isFinite64_v (wid v178))

noncomputable def impl_IsFinite_g (v178 : Nat) : Option (Bool) := (impl_IsFinite_T v178).run
def impl_IsFinite_enc (v178 : Nat) (y : Bool) : Rs := (.bool y, [])
theorem impl_IsFinite_den (v178 : Nat) : (den TT (tabD impl_IsFinite_tab) (tabM impl_IsFinite_tab) (impl_IsFinite_LO v178) (codeOf Try.f96) ([.flt .f32 v178] ++ List.replicate (Try.f96.ntmps - ([.flt .f32 v178] : List DV).length) .undef) []).bind (retD TT Try.f96.results.toList 0) = (impl_IsFinite_T v178).bind fun y => .leaf (impl_IsFinite_enc v178 y) := by kernel_rfl
theorem impl_IsFinite_fn (v178 : Nat) (F : Fr) (hm : F.ids.length = 0) (h0 : St F [] F.H0) (hA : DVs.Ok F [] [.flt .f32 v178]) {y : Bool} (hy : impl_IsFinite_g v178 = some y) : ∃ H', FnOk Try.prog 96 (DVs.av F [.flt .f32 v178]) F.H0 ((impl_IsFinite_enc v178 y).1.av F) H' ∧ St F (impl_IsFinite_enc v178 y).2 H' ∧ (impl_IsFinite_enc v178 y).1.Ok F (impl_IsFinite_enc v178 y).2 :=
  fn_fin tok impl_IsFinite_hO mixed Try.func96 Try.call96 (by kernel_rfl) (LoopsOk_eq (l := []) (by kernel_rfl) trivial) (impl_IsFinite_den v178) hy hm h0 hA
def impl_IsFinite_v (v178 : Nat) : Bool :=
  (impl_isFinite64_v (wid v178))
theorem impl_IsFinite_tot (v178 : Nat) : impl_IsFinite_g v178 = some (impl_IsFinite_v v178) := by
  unfold impl_IsFinite_g impl_IsFinite_T impl_IsFinite_v
  simp only [Tree.run]
  repeat' (first | rfl | split)
noncomputable def impl_IsFinite_F : DFn := fun args L =>
  match args with
  | [.flt .f32 v178] =>
    .leaf (.bool (impl_IsFinite_v v178), L)
  | _ => .fail
theorem impl_IsFinite_Fok : COk Try.prog 96 impl_IsFinite_F true := by
  intro F L H args r L' hs ha hr
  unfold impl_IsFinite_F at hr
  split at hr
  · rename_i v178
    have hy := impl_IsFinite_tot v178
    generalize impl_IsFinite_v v178 = y at hy hr
    simp only [Tree.run, Option.some.injEq, Prod.mk.injEq] at hr
    obtain ⟨rfl, rfl⟩ := hr
    exact call_ok0 hs (fun k => (([] : List AV)[k]?).getD .top) [.flt .f32 v178] [.flt .f32 v178] (fun F' h0 hi hρ => ⟨by simp [DVs.av, DV.av, BR.av, hρ], impl_IsFinite_fn v178 F' (by rw [hi]; rfl) (st_nil hi) ⟨trivial, trivial⟩ hy⟩) rfl
  · cases hr
/-! impl.areFinite$1 -/
noncomputable def impl_areFinite_1_LO (v177 : Nat) : LOr := fun id e L =>
  match id with
  | _ => .fail
noncomputable def impl_areFinite_1_tab : List (FuncId × DFn × Bool) := [(96, impl_IsFinite_F, true)]
theorem impl_areFinite_1_hO : OrcOk Try.prog (tabD impl_areFinite_1_tab) (tabM impl_areFinite_1_tab) := tabD_cons impl_IsFinite_Fok (tabD_nil _)
noncomputable def impl_areFinite_1_T (v177 : Nat) : Tree (Bool) :=
  .leaf (!(impl_IsFinite_v v177))

noncomputable def impl_areFinite_1_g (v177 : Nat) : Option (Bool) := (impl_areFinite_1_T v177).run
def impl_areFinite_1_enc (v177 : Nat) (y : Bool) : Rs := (.bool y, [])
theorem impl_areFinite_1_den (v177 : Nat) : (den TT (tabD impl_areFinite_1_tab) (tabM impl_areFinite_1_tab) (impl_areFinite_1_LO v177) (codeOf Try.f138) ([.flt .f32 v177] ++ List.replicate (Try.f138.ntmps - ([.flt .f32 v177] : List DV).length) .undef) []).bind (retD TT Try.f138.results.toList 0) = (impl_areFinite_1_T v177).bind fun y => .leaf (impl_areFinite_1_enc v177 y) := by kernel_rfl
theorem impl_areFinite_1_fn (v177 : Nat) (F : Fr) (hm : F.ids.length = 0) (h0 : St F [] F.H0) (hA : DVs.Ok F [] [.flt .f32 v177]) {y : Bool} (hy : impl_areFinite_1_g v177 = some y) : ∃ H', FnOk Try.prog 138 (DVs.av F [.flt .f32 v177]) F.H0 ((impl_areFinite_1_enc v177 y).1.av F) H' ∧ St F (impl_areFinite_1_enc v177 y).2 H' ∧ (impl_areFinite_1_enc v177 y).1.Ok F (impl_areFinite_1_enc v177 y).2 :=
  fn_fin tok impl_areFinite_1_hO mixed Try.func138 Try.call138 (by kernel_rfl) (LoopsOk_eq (l := []) (by kernel_rfl) trivial) (impl_areFinite_1_den v177) hy hm h0 hA
def impl_areFinite_1_v (v177 : Nat) : Bool :=
  !(impl_IsFinite_v v177)
theorem impl_areFinite_1_tot (v177 : Nat) : impl_areFinite_1_g v177 = some (impl_areFinite_1_v v177) := by
  unfold impl_areFinite_1_g impl_areFinite_1_T impl_areFinite_1_v
  simp only [Tree.run]
  repeat' (first | rfl | split)
noncomputable def impl_areFinite_1_F : DFn := fun args L =>
  match args with
  | [.flt .f32 v177] =>
    .leaf (.bool (impl_areFinite_1_v v177), L)
  | _ => .fail
theorem impl_areFinite_1_Fok : COk Try.prog 138 impl_areFinite_1_F true := by
  intro F L H args r L' hs ha hr
  unfold impl_areFinite_1_F at hr
  split at hr
  · rename_i v177
    have hy := impl_areFinite_1_tot v177
    generalize impl_areFinite_1_v v177 = y at hy hr
    simp only [Tree.run, Option.some.injEq, Prod.mk.injEq] at hr
    obtain ⟨rfl, rfl⟩ := hr
    exact call_ok0 hs (fun k => (([] : List AV)[k]?).getD .top) [.flt .f32 v177] [.flt .f32 v177] (fun F' h0 hi hρ => ⟨by simp [DVs.av, DV.av, BR.av, hρ], impl_areFinite_1_fn v177 F' (by rw [hi]; rfl) (st_nil hi) ⟨trivial, trivial⟩ hy⟩) rfl
  · cases hr
/-! slices.IndexFunc[list of float32,float32] -/
noncomputable def slices_IndexFuncF_l0_T (v175 : List Nat) (s : Int) : Tree ((Int) ⊕ ((Int) ⊕ (Unit))) :=
  (.br (decide (s < ((v175.length : Nat) : Int))) (
   (.grd (inb s v175.length) <|
   (.br (impl_areFinite_1_v (nth v175 (Int.toNat s))) (
    .leaf (.inr (.inl s))
   ) (
    .leaf (.inl (IntKind.i64.wrap (s + (1 : Int))))
   )))
  ) (
   .leaf (.inr (.inr ()))
  ))

noncomputable def slices_IndexFuncF_l0_g (v175 : List Nat) (s0 : Int) : Option ((Int) ⊕ (Unit)) := whileM (fun s => (slices_IndexFuncF_l0_T v175 s).run) s0
def slices_IndexFuncF_l0_E (v175 : List Nat) (s : Int) : Sd := ([.bslc (BR.root 0) (.f32 v175), .fn 138 [], .top, .top, .top, .top, .top, .int .i64 ((v175.length : Nat) : Int), .int .i64 s, .top, .top, .top, .top, .top, .top, .top, .top, .top, .top], [])
def slices_IndexFuncF_l0_X (v175 : List Nat) (x : (Int) ⊕ (Unit)) : Out := (match x with | .inl x => (.ret, [.top, .top, .top, .top, .int .i64 x, .top, .top, .top, .top, .top, .top, .top, .top, .top, .top, .top, .top, .top, .top], []) | .inr x => (.normal, [.top, .top, .top, .top, .top, .top, .top, .top, .top, .top, .top, .top, .top, .top, .top, .top, .top, .top, .top], []))
def slices_IndexFuncF_l0_kill : List Nat := [0, 0, 1, 1, 1, 1, 1, 0, 0, 1, 1, 1, 1, 1, 1, 1, 1, 1, 1]
def slices_IndexFuncF_l0_nx : Exit → List Nat
  | .exit 0 => [1, 1, 1, 1, 1, 1, 1, 1, 1, 1, 1, 1, 1, 1, 1, 1, 1, 1, 1]
  | .ret => [1, 1, 1, 1, 0, 1, 1, 1, 1, 1, 1, 1, 1, 1, 1, 1, 1, 1, 1]
  | _ => []
noncomputable def slices_IndexFuncF_LO (v175 : List Nat) : LOr := fun id e L =>
  match id with
  | 0 => .need (normA 0 slices_IndexFuncF_l0_kill e L = some (slices_IndexFuncF_l0_E v175 (gI (vAt e 8)))) (.call (slices_IndexFuncF_l0_g v175 (gI (vAt e 8))) fun x => .sum x (fun b0 => .leaf (slices_IndexFuncF_l0_X v175 (.inl b0))) (fun c0 => .leaf (slices_IndexFuncF_l0_X v175 (.inr c0))))
  | _ => .fail
noncomputable def slices_IndexFuncF_tab : List (FuncId × DFn × Bool) := [(138, impl_areFinite_1_F, true)]
theorem slices_IndexFuncF_hO : OrcOk Try.prog (tabD slices_IndexFuncF_tab) (tabM slices_IndexFuncF_tab) := tabD_cons impl_areFinite_1_Fok (tabD_nil _)
theorem slices_IndexFuncF_l0_be (v175 : List Nat) (s : Int) : bodyT TT (tabD slices_IndexFuncF_tab) (tabM slices_IndexFuncF_tab) (slices_IndexFuncF_LO v175) 0 slices_IndexFuncF_l0_kill slices_IndexFuncF_l0_nx (bodyOf Try.f168 0) 0 (slices_IndexFuncF_l0_E v175 s) = (slices_IndexFuncF_l0_T v175 s).bind fun y => .leaf (outS (slices_IndexFuncF_l0_E v175) (slices_IndexFuncF_l0_X v175) y) := by kernel_rfl
theorem slices_IndexFuncF_l0_ok (v175 : List Nat) : LSound Try.prog 0 (slices_IndexFuncF_LO v175) 0 (bodyOf Try.f168 0) := by
  intro e L out h
  exact lo_ok (E := slices_IndexFuncF_l0_E v175) (gT := slices_IndexFuncF_l0_T v175) (X := slices_IndexFuncF_l0_X v175) (s0 := (gI (vAt e 8))) tok slices_IndexFuncF_hO mixed (LoopsOk_eq (l := []) (by kernel_rfl) trivial) (slices_IndexFuncF_l0_be v175) rfl (by intro x; (cases x with | inl b => rfl | inr x => exact rfl)) h
noncomputable def slices_IndexFuncF_T (v175 : List Nat) : Tree (Int) :=
  (.need (some (slices_IndexFuncF_l0_E v175 (0 : Int)) = some (slices_IndexFuncF_l0_E v175 (0 : Int))) <|
  (.call (slices_IndexFuncF_l0_g v175 (0 : Int)) fun v185 =>
  (.sum v185 (fun v186 =>
   .leaf v186
  ) (fun v187 =>
   .leaf (-1 : Int)
  ))))

noncomputable def slices_IndexFuncF_g (v175 : List Nat) : Option (Int) := (slices_IndexFuncF_T v175).run
def slices_IndexFuncF_enc (v175 : List Nat) (y : Int) : Rs := (.int .i64 y, [])
theorem slices_IndexFuncF_den (v175 : List Nat) : (den TT (tabD slices_IndexFuncF_tab) (tabM slices_IndexFuncF_tab) (slices_IndexFuncF_LO v175) (codeOf Try.f168) ([.bslc (BR.root 0) (.f32 v175), .fn 138 []] ++ List.replicate (Try.f168.ntmps - ([.bslc (BR.root 0) (.f32 v175), .fn 138 []] : List DV).length) .undef) []).bind (retD TT Try.f168.results.toList 0) = (slices_IndexFuncF_T v175).bind fun y => .leaf (slices_IndexFuncF_enc v175 y) := by kernel_rfl
theorem slices_IndexFuncF_fn (v175 : List Nat) (F : Fr) (hm : F.ids.length = 0) (h0 : St F [] F.H0) (hA : DVs.Ok F [] [.bslc (BR.root 0) (.f32 v175), .fn 138 []]) {y : Int} (hy : slices_IndexFuncF_g v175 = some y) : ∃ H', FnOk Try.prog 168 (DVs.av F [.bslc (BR.root 0) (.f32 v175), .fn 138 []]) F.H0 ((slices_IndexFuncF_enc v175 y).1.av F) H' ∧ St F (slices_IndexFuncF_enc v175 y).2 H' ∧ (slices_IndexFuncF_enc v175 y).1.Ok F (slices_IndexFuncF_enc v175 y).2 :=
  fn_fin tok slices_IndexFuncF_hO mixed Try.func168 Try.call168 (by kernel_rfl) (LoopsOk_eq (l := [(0, bodyOf Try.f168 0)]) (by kernel_rfl) ⟨slices_IndexFuncF_l0_ok v175, trivial⟩) (slices_IndexFuncF_den v175) hy hm h0 hA
noncomputable def slices_IndexFuncF_F : DFn := fun args L =>
  match args with
  | [a1, .fn 138 []] =>
    optT (rowF32 L a1) fun v175 =>
    .call (slices_IndexFuncF_g v175) fun y => .leaf (.int .i64 y, L)
  | _ => .fail
theorem slices_IndexFuncF_Fok : COk Try.prog 168 slices_IndexFuncF_F true := by
  intro F L H args r L' hs ha hr
  unfold slices_IndexFuncF_F at hr
  split at hr
  · rename_i a1
    obtain ⟨v175, hv175, hr⟩ := optT_run hr
    simp only [Tree.run] at hr
    obtain ⟨y, hy, hr⟩ := Option.bind_eq_some_iff.1 hr
    simp only [Tree.run, Option.some.injEq, Prod.mk.injEq] at hr
    obtain ⟨rfl, rfl⟩ := hr
    exact call_ok0 hs (fun k => (([a1.av F] : List AV)[k]?).getD .top) [a1, .fn 138 []] [.bslc (BR.root 0) (.f32 v175), .fn 138 []] (fun F' h0 hi hρ => ⟨by simp [DVs.av, DV.av, BR.av, hρ], slices_IndexFuncF_fn v175 F' (by rw [hi]; rfl) (st_nil hi) ⟨bslc_ok hi (by rw [h0, hρ]; exact rowF32_ok hs (DVs.okAt ha 0 rfl) hv175), trivial, trivial⟩ hy⟩) rfl
  · cases hr
/-! slices.ContainsFunc[list of float32,float32] -/
noncomputable def slices_ContainsFuncF_LO (v174 : List Nat) : LOr := fun id e L =>
  match id with
  | _ => .fail
noncomputable def slices_ContainsFuncF_tab : List (FuncId × DFn × Bool) := [(168, slices_IndexFuncF_F, true)]
theorem slices_ContainsFuncF_hO : OrcOk Try.prog (tabD slices_ContainsFuncF_tab) (tabM slices_ContainsFuncF_tab) := tabD_cons slices_IndexFuncF_Fok (tabD_nil _)
noncomputable def slices_ContainsFuncF_T (v174 : List Nat) : Tree (Bool) :=
  (.call (slices_IndexFuncF_g v174) fun v188 =>
  .leaf (decide ((0 : Int) ≤ v188)))

noncomputable def slices_ContainsFuncF_g (v174 : List Nat) : Option (Bool) := (slices_ContainsFuncF_T v174).run
def slices_ContainsFuncF_enc (v174 : List Nat) (y : Bool) : Rs := (.bool y, [])
theorem slices_ContainsFuncF_den (v174 : List Nat) : (den TT (tabD slices_ContainsFuncF_tab) (tabM slices_ContainsFuncF_tab) (slices_ContainsFuncF_LO v174) (codeOf Try.f137) ([.bslc (BR.root 0) (.f32 v174), .fn 138 []] ++ List.replicate (Try.f137.ntmps - ([.bslc (BR.root 0) (.f32 v174), .fn 138 []] : List DV).length) .undef) []).bind (retD TT Try.f137.results.toList 0) = (slices_ContainsFuncF_T v174).bind fun y => .leaf (slices_ContainsFuncF_enc v174 y) := by kernel_rfl
theorem slices_ContainsFuncF_fn (v174 : List Nat) (F : Fr) (hm : F.ids.length = 0) (h0 : St F [] F.H0) (hA : DVs.Ok F [] [.bslc (BR.root 0) (.f32 v174), .fn 138 []]) {y : Bool} (hy : slices_ContainsFuncF_g v174 = some y) : ∃ H', FnOk Try.prog 137 (DVs.av F [.bslc (BR.root 0) (.f32 v174), .fn 138 []]) F.H0 ((slices_ContainsFuncF_enc v174 y).1.av F) H' ∧ St F (slices_ContainsFuncF_enc v174 y).2 H' ∧ (slices_ContainsFuncF_enc v174 y).1.Ok F (slices_ContainsFuncF_enc v174 y).2 :=
  fn_fin tok slices_ContainsFuncF_hO mixed Try.func137 Try.call137 (by kernel_rfl) (LoopsOk_eq (l := []) (by kernel_rfl) trivial) (slices_ContainsFuncF_den v174) hy hm h0 hA
noncomputable def slices_ContainsFuncF_F : DFn := fun args L =>
  match args with
  | [a1, .fn 138 []] =>
    optT (rowF32 L a1) fun v174 =>
    .call (slices_ContainsFuncF_g v174) fun y => .leaf (.bool y, L)
  | _ => .fail
theorem slices_ContainsFuncF_Fok : COk Try.prog 137 slices_ContainsFuncF_F true := by
  intro F L H args r L' hs ha hr
  unfold slices_ContainsFuncF_F at hr
  split at hr
  · rename_i a1
    obtain ⟨v174, hv174, hr⟩ := optT_run hr
    simp only [Tree.run] at hr
    obtain ⟨y, hy, hr⟩ := Option.bind_eq_some_iff.1 hr
    simp only [Tree.run, Option.some.injEq, Prod.mk.injEq] at hr
    obtain ⟨rfl, rfl⟩ := hr
    exact call_ok0 hs (fun k => (([a1.av F] : List AV)[k]?).getD .top) [a1, .fn 138 []] [.bslc (BR.root 0) (.f32 v174), .fn 138 []] (fun F' h0 hi hρ => ⟨by simp [DVs.av, DV.av, BR.av, hρ], slices_ContainsFuncF_fn v174 F' (by rw [hi]; rfl) (st_nil hi) ⟨bslc_ok hi (by rw [h0, hρ]; exact rowF32_ok hs (DVs.okAt ha 0 rfl) hv174), trivial, trivial⟩ hy⟩) rfl
  · cases hr
/-! impl.areFinite -/
noncomputable def impl_areFinite_LO (v173 : List Nat) : LOr := fun id e L =>
  match id with
  | _ => .fail
noncomputable def impl_areFinite_tab : List (FuncId × DFn × Bool) := [(137, slices_ContainsFuncF_F, true)]
theorem impl_areFinite_hO : OrcOk Try.prog (tabD impl_areFinite_tab) (tabM impl_areFinite_tab) := tabD_cons slices_ContainsFuncF_Fok (tabD_nil _)
noncomputable def impl_areFinite_T (v173 : List Nat) : Tree (Bool) :=
  (.call (slices_ContainsFuncF_g v173) fun v189 =>
  .leaf (!v189))

noncomputable def impl_areFinite_g (v173 : List Nat) : Option (Bool) := (impl_areFinite_T v173).run
def impl_areFinite_enc (v173 : List Nat) (y : Bool) : Rs := (.bool y, [])
theorem impl_areFinite_den (v173 : List Nat) : (den TT (tabD impl_areFinite_tab) (tabM impl_areFinite_tab) (impl_areFinite_LO v173) (codeOf Try.f68) ([.bslc (BR.root 0) (.f32 v173)] ++ List.replicate (Try.f68.ntmps - ([.bslc (BR.root 0) (.f32 v173)] : List DV).length) .undef) []).bind (retD TT Try.f68.results.toList 0) = (impl_areFinite_T v173).bind fun y => .leaf (impl_areFinite_enc v173 y) := by kernel_rfl
theorem impl_areFinite_fn (v173 : List Nat) (F : Fr) (hm : F.ids.length = 0) (h0 : St F [] F.H0) (hA : DVs.Ok F [] [.bslc (BR.root 0) (.f32 v173)]) {y : Bool} (hy : impl_areFinite_g v173 = some y) : ∃ H', FnOk Try.prog 68 (DVs.av F [.bslc (BR.root 0) (.f32 v173)]) F.H0 ((impl_areFinite_enc v173 y).1.av F) H' ∧ St F (impl_areFinite_enc v173 y).2 H' ∧ (impl_areFinite_enc v173 y).1.Ok F (impl_areFinite_enc v173 y).2 :=
  fn_fin tok impl_areFinite_hO mixed Try.func68 Try.call68 (by kernel_rfl) (LoopsOk_eq (l := []) (by kernel_rfl) trivial) (impl_areFinite_den v173) hy hm h0 hA
noncomputable def impl_areFinite_F : DFn := fun args L =>
  match args with
  | [a1] =>
    optT (rowF32 L a1) fun v173 =>
    .call (impl_areFinite_g v173) fun y => .leaf (.bool y, L)
  | _ => .fail
theorem impl_areFinite_Fok : COk Try.prog 68 impl_areFinite_F true := by
  intro F L H args r L' hs ha hr
  unfold impl_areFinite_F at hr
  split at hr
  · rename_i a1
    obtain ⟨v173, hv173, hr⟩ := optT_run hr
    simp only [Tree.run] at hr
    obtain ⟨y, hy, hr⟩ := Option.bind_eq_some_iff.1 hr
    simp only [Tree.run, Option.some.injEq, Prod.mk.injEq] at hr
    obtain ⟨rfl, rfl⟩ := hr
    exact call_ok0 hs (fun k => (([a1.av F] : List AV)[k]?).getD .top) [a1] [.bslc (BR.root 0) (.f32 v173)] (fun F' h0 hi hρ => ⟨by simp [DVs.av, DV.av, BR.av, hρ], impl_areFinite_fn v173 F' (by rw [hi]; rfl) (st_nil hi) ⟨bslc_ok hi (by rw [h0, hρ]; exact rowF32_ok hs (DVs.okAt ha 0 rfl) hv173), trivial⟩ hy⟩) rfl
  · cases hr
/-! impl.ValidMatrix -/
noncomputable def impl_ValidMatrix_LO (v168 : Int) (v169 : Int) (v170 : List Nat) : LOr := fun id e L =>
  match id with
  | _ => .fail
noncomputable def impl_ValidMatrix_tab : List (FuncId × DFn × Bool) := [(77, impl_isSide_F, true), (112, impl_lengthF_F, true), (68, impl_areFinite_F, true)]
theorem impl_ValidMatrix_hO : OrcOk Try.prog (tabD impl_ValidMatrix_tab) (tabM impl_ValidMatrix_tab) := tabD_cons impl_isSide_Fok (tabD_cons impl_lengthF_Fok (tabD_cons impl_areFinite_Fok (tabD_nil _)))
noncomputable def impl_ValidMatrix_T (v168 : Int) (v169 : Int) (v170 : List Nat) : Tree (Bool) :=
  (.br (impl_isSide_v v168) (
   (.br (impl_isSide_v v169) (
    (.br (decide ((impl_lengthF_v v170) = IntKind.i64.wrap (v168 * v169))) (
     (.call (impl_areFinite_g v170) fun v190 =>
     .leaf v190)
    ) (
     .leaf false
    ))
   ) (
    .leaf false
   ))
  ) (
   .leaf false
  ))

noncomputable def impl_ValidMatrix_g (v168 : Int) (v169 : Int) (v170 : List Nat) : Option (Bool) := (impl_ValidMatrix_T v168 v169 v170).run
def impl_ValidMatrix_enc (v168 : Int) (v169 : Int) (v170 : List Nat) (y : Bool) : Rs := (.bool y, [])
theorem impl_ValidMatrix_den (v168 : Int) (v169 : Int) (v170 : List Nat) : (den TT (tabD impl_ValidMatrix_tab) (tabM impl_ValidMatrix_tab) (impl_ValidMatrix_LO v168 v169 v170) (codeOf Try.f67) ([.agg [.int .i64 v168, .int .i64 v169, .bslc (BR.root 0) (.f32 v170)]] ++ List.replicate (Try.f67.ntmps - ([.agg [.int .i64 v168, .int .i64 v169, .bslc (BR.root 0) (.f32 v170)]] : List DV).length) .undef) []).bind (retD TT Try.f67.results.toList 0) = (impl_ValidMatrix_T v168 v169 v170).bind fun y => .leaf (impl_ValidMatrix_enc v168 v169 v170 y) := by kernel_rfl
theorem impl_ValidMatrix_fn (v168 : Int) (v169 : Int) (v170 : List Nat) (F : Fr) (hm : F.ids.length = 0) (h0 : St F [] F.H0) (hA : DVs.Ok F [] [.agg [.int .i64 v168, .int .i64 v169, .bslc (BR.root 0) (.f32 v170)]]) {y : Bool} (hy : impl_ValidMatrix_g v168 v169 v170 = some y) : ∃ H', FnOk Try.prog 67 (DVs.av F [.agg [.int .i64 v168, .int .i64 v169, .bslc (BR.root 0) (.f32 v170)]]) F.H0 ((impl_ValidMatrix_enc v168 v169 v170 y).1.av F) H' ∧ St F (impl_ValidMatrix_enc v168 v169 v170 y).2 H' ∧ (impl_ValidMatrix_enc v168 v169 v170 y).1.Ok F (impl_ValidMatrix_enc v168 v169 v170 y).2 :=
  fn_fin tok impl_ValidMatrix_hO mixed Try.func67 Try.call67 (by kernel_rfl) (LoopsOk_eq (l := []) (by kernel_rfl) trivial) (impl_ValidMatrix_den v168 v169 v170) hy hm h0 hA
noncomputable def impl_ValidMatrix_F : DFn := fun args L =>
  match args with
  | [.agg [.int .i64 v168, .int .i64 v169, a1]] =>
    optT (rowF32 L a1) fun v170 =>
    .call (impl_ValidMatrix_g v168 v169 v170) fun y => .leaf (.bool y, L)
  | _ => .fail
theorem impl_ValidMatrix_Fok : COk Try.prog 67 impl_ValidMatrix_F true := by
  intro F L H args r L' hs ha hr
  unfold impl_ValidMatrix_F at hr
  split at hr
  · rename_i v168 v169 a1
    obtain ⟨v170, hv170, hr⟩ := optT_run hr
    simp only [Tree.run] at hr
    obtain ⟨y, hy, hr⟩ := Option.bind_eq_some_iff.1 hr
    simp only [Tree.run, Option.some.injEq, Prod.mk.injEq] at hr
    obtain ⟨rfl, rfl⟩ := hr
    exact call_ok0 hs (fun k => (([a1.av F] : List AV)[k]?).getD .top) [.agg [.int .i64 v168, .int .i64 v169, a1]] [.agg [.int .i64 v168, .int .i64 v169, .bslc (BR.root 0) (.f32 v170)]] (fun F' h0 hi hρ => ⟨by simp [DVs.av, DV.av, BR.av, hρ], impl_ValidMatrix_fn v168 v169 v170 F' (by rw [hi]; rfl) (st_nil hi) ⟨⟨trivial, trivial, bslc_ok hi (by rw [h0, hρ]; exact rowF32_ok hs (DVs.okAt (DVs.okAt ha 0 rfl) 2 rfl) hv170), trivial⟩, trivial⟩ hy⟩) rfl
  · cases hr
/-! impl.areFactors -/
noncomputable def impl_areFactors_LO (v162 : Int) (v163 : Int) (v164 : List Nat) (v165 : Int) (v166 : Int) (v167 : List Nat) : LOr := fun id e L =>
  match id with
  | _ => .fail
noncomputable def impl_areFactors_tab : List (FuncId × DFn × Bool) := [(67, impl_ValidMatrix_F, true)]
theorem impl_areFactors_hO : OrcOk Try.prog (tabD impl_areFactors_tab) (tabM impl_areFactors_tab) := tabD_cons impl_ValidMatrix_Fok (tabD_nil _)
noncomputable def impl_areFactors_T (v162 : Int) (v163 : Int) (v164 : List Nat) (v165 : Int) (v166 : Int) (v167 : List Nat) : Tree (Bool) :=
  (.call (impl_ValidMatrix_g v162 v163 v164) fun v191 =>
  (.br v191 (
   (.call (impl_ValidMatrix_g v165 v166 v167) fun v192 =>
   (.br v192 (
    .leaf (decide (v163 = v165))
   ) (
    .leaf false
   )))
  ) (
   .leaf false
  )))

noncomputable def impl_areFactors_g (v162 : Int) (v163 : Int) (v164 : List Nat) (v165 : Int) (v166 : Int) (v167 : List Nat) : Option (Bool) := (impl_areFactors_T v162 v163 v164 v165 v166 v167).run
def impl_areFactors_enc (v162 : Int) (v163 : Int) (v164 : List Nat) (v165 : Int) (v166 : Int) (v167 : List Nat) (y : Bool) : Rs := (.bool y, [])
theorem impl_areFactors_den (v162 : Int) (v163 : Int) (v164 : List Nat) (v165 : Int) (v166 : Int) (v167 : List Nat) : (den TT (tabD impl_areFactors_tab) (tabM impl_areFactors_tab) (impl_areFactors_LO v162 v163 v164 v165 v166 v167) (codeOf Try.f76) ([.agg [.int .i64 v162, .int .i64 v163, .bslc (BR.root 0) (.f32 v164)], .agg [.int .i64 v165, .int .i64 v166, .bslc (BR.root 1) (.f32 v167)]] ++ List.replicate (Try.f76.ntmps - ([.agg [.int .i64 v162, .int .i64 v163, .bslc (BR.root 0) (.f32 v164)], .agg [.int .i64 v165, .int .i64 v166, .bslc (BR.root 1) (.f32 v167)]] : List DV).length) .undef) []).bind (retD TT Try.f76.results.toList 0) = (impl_areFactors_T v162 v163 v164 v165 v166 v167).bind fun y => .leaf (impl_areFactors_enc v162 v163 v164 v165 v166 v167 y) := by kernel_rfl
theorem impl_areFactors_fn (v162 : Int) (v163 : Int) (v164 : List Nat) (v165 : Int) (v166 : Int) (v167 : List Nat) (F : Fr) (hm : F.ids.length = 0) (h0 : St F [] F.H0) (hA : DVs.Ok F [] [.agg [.int .i64 v162, .int .i64 v163, .bslc (BR.root 0) (.f32 v164)], .agg [.int .i64 v165, .int .i64 v166, .bslc (BR.root 1) (.f32 v167)]]) {y : Bool} (hy : impl_areFactors_g v162 v163 v164 v165 v166 v167 = some y) : ∃ H', FnOk Try.prog 76 (DVs.av F [.agg [.int .i64 v162, .int .i64 v163, .bslc (BR.root 0) (.f32 v164)], .agg [.int .i64 v165, .int .i64 v166, .bslc (BR.root 1) (.f32 v167)]]) F.H0 ((impl_areFactors_enc v162 v163 v164 v165 v166 v167 y).1.av F) H' ∧ St F (impl_areFactors_enc v162 v163 v164 v165 v166 v167 y).2 H' ∧ (impl_areFactors_enc v162 v163 v164 v165 v166 v167 y).1.Ok F (impl_areFactors_enc v162 v163 v164 v165 v166 v167 y).2 :=
  fn_fin tok impl_areFactors_hO mixed Try.func76 Try.call76 (by kernel_rfl) (LoopsOk_eq (l := []) (by kernel_rfl) trivial) (impl_areFactors_den v162 v163 v164 v165 v166 v167) hy hm h0 hA
noncomputable def impl_areFactors_F : DFn := fun args L =>
  match args with
  | [.agg [.int .i64 v162, .int .i64 v163, a1], .agg [.int .i64 v165, .int .i64 v166, a2]] =>
    optT (rowF32 L a1) fun v164 =>
    optT (rowF32 L a2) fun v167 =>
    .call (impl_areFactors_g v162 v163 v164 v165 v166 v167) fun y => .leaf (.bool y, L)
  | _ => .fail
theorem impl_areFactors_Fok : COk Try.prog 76 impl_areFactors_F true := by
  intro F L H args r L' hs ha hr
  unfold impl_areFactors_F at hr
  split at hr
  · rename_i v162 v163 a1 v165 v166 a2
    obtain ⟨v164, hv164, hr⟩ := optT_run hr
    obtain ⟨v167, hv167, hr⟩ := optT_run hr
    simp only [Tree.run] at hr
    obtain ⟨y, hy, hr⟩ := Option.bind_eq_some_iff.1 hr
    simp only [Tree.run, Option.some.injEq, Prod.mk.injEq] at hr
    obtain ⟨rfl, rfl⟩ := hr
    exact call_ok0 hs (fun k => (([a1.av F, a2.av F] : List AV)[k]?).getD .top) [.agg [.int .i64 v162, .int .i64 v163, a1], .agg [.int .i64 v165, .int .i64 v166, a2]] [.agg [.int .i64 v162, .int .i64 v163, .bslc (BR.root 0) (.f32 v164)], .agg [.int .i64 v165, .int .i64 v166, .bslc (BR.root 1) (.f32 v167)]] (fun F' h0 hi hρ => ⟨by simp [DVs.av, DV.av, BR.av, hρ], impl_areFactors_fn v162 v163 v164 v165 v166 v167 F' (by rw [hi]; rfl) (st_nil hi) ⟨⟨trivial, trivial, bslc_ok hi (by rw [h0, hρ]; exact rowF32_ok hs (DVs.okAt (DVs.okAt ha 0 rfl) 2 rfl) hv164), trivial⟩, ⟨trivial, trivial, bslc_ok hi (by rw [h0, hρ]; exact rowF32_ok hs (DVs.okAt (DVs.okAt ha 1 rfl) 2 rfl) hv167), trivial⟩, trivial⟩ hy⟩) rfl
  · cases hr
/-! impl.newMatrix -/
noncomputable def impl_newMatrix_LO (v208 : Int) (v209 : Int) : LOr := fun id e L =>
  match id with
  | _ => .fail
noncomputable def impl_newMatrix_tab : List (FuncId × DFn × Bool) := []
theorem impl_newMatrix_hO : OrcOk Try.prog (tabD impl_newMatrix_tab) (tabM impl_newMatrix_tab) := tabD_nil _
noncomputable def impl_newMatrix_T (v208 : Int) (v209 : Int) : Tree (Int × Int) :=
  (.need (IntKind.i64.wrap (v208 * v209) = IntKind.i64.wrap (v208 * v209)) <|
  (.grd (inb (IntKind.i64.wrap (v208 * v209)) (maxN + 1)) <|
  .leaf (v208, v209)))

noncomputable def impl_newMatrix_g (v208 : Int) (v209 : Int) : Option (Int × Int) := (impl_newMatrix_T v208 v209).run
def impl_newMatrix_enc (v208 : Int) (v209 : Int) (y : Int × Int) : Rs := (.agg [.int .i64 y.1, .int .i64 y.2, .own 0 0 ((List.replicate (Int.toNat (IntKind.i64.wrap (v208 * v209))) (0 : Nat)).length)], [.row (.f32 (List.replicate (Int.toNat (IntKind.i64.wrap (v208 * v209))) (0 : Nat))) 0])
theorem impl_newMatrix_den (v208 : Int) (v209 : Int) : (den TT (tabD impl_newMatrix_tab) (tabM impl_newMatrix_tab) (impl_newMatrix_LO v208 v209) (codeOf Try.f117) ([.int .i64 v208, .int .i64 v209] ++ List.replicate (Try.f117.ntmps - ([.int .i64 v208, .int .i64 v209] : List DV).length) .undef) []).bind (retD TT Try.f117.results.toList 0) = (impl_newMatrix_T v208 v209).bind fun y => .leaf (impl_newMatrix_enc v208 v209 y) := by kernel_rfl
theorem impl_newMatrix_fn (v208 : Int) (v209 : Int) (F : Fr) (hm : F.ids.length = 0) (h0 : St F [] F.H0) (hA : DVs.Ok F [] [.int .i64 v208, .int .i64 v209]) {y : Int × Int} (hy : impl_newMatrix_g v208 v209 = some y) : ∃ H', FnOk Try.prog 117 (DVs.av F [.int .i64 v208, .int .i64 v209]) F.H0 ((impl_newMatrix_enc v208 v209 y).1.av F) H' ∧ St F (impl_newMatrix_enc v208 v209 y).2 H' ∧ (impl_newMatrix_enc v208 v209 y).1.Ok F (impl_newMatrix_enc v208 v209 y).2 :=
  fn_fin tok impl_newMatrix_hO mixed Try.func117 Try.call117 (by kernel_rfl) (LoopsOk_eq (l := []) (by kernel_rfl) trivial) (impl_newMatrix_den v208 v209) hy hm h0 hA
noncomputable def impl_newMatrix_F : DFn := fun args L =>
  match args with
  | [.int .i64 v208, .int .i64 v209] =>
    .call (impl_newMatrix_g v208 v209) fun y => .leaf (.agg [.int .i64 y.1, .int .i64 y.2, .own (L.length + 0) 0 ((List.replicate (Int.toNat (IntKind.i64.wrap (v208 * v209))) (0 : Nat)).length)], L ++ [.row (.f32 (List.replicate (Int.toNat (IntKind.i64.wrap (v208 * v209))) (0 : Nat))) 0])
  | _ => .fail
theorem impl_newMatrix_Fok : COk Try.prog 117 impl_newMatrix_F true := by
  intro F L H args r L' hs ha hr
  unfold impl_newMatrix_F at hr
  split at hr
  · rename_i v208 v209
    simp only [Tree.run] at hr
    obtain ⟨y, hy, hr⟩ := Option.bind_eq_some_iff.1 hr
    simp only [Tree.run, Option.some.injEq, Prod.mk.injEq] at hr
    obtain ⟨rfl, rfl⟩ := hr
    exact call_ok1 hs (fun k => (([] : List AV)[k]?).getD .top) [.int .i64 v208, .int .i64 v209] [.int .i64 v208, .int .i64 v209] (fun F' h0 hi hρ => ⟨by simp [DVs.av, DV.av, BR.av, hρ], impl_newMatrix_fn v208 v209 F' (by rw [hi]; rfl) (st_nil hi) ⟨trivial, trivial, trivial⟩ hy⟩) rfl rfl
  · cases hr
/-! slices.Clone[list of float32,float32] -/
noncomputable def slices_CloneF_LO (v230 : List Nat) : LOr := fun id e L =>
  match id with
  | _ => .fail
noncomputable def slices_CloneF_tab : List (FuncId × DFn × Bool) := []
theorem slices_CloneF_hO : OrcOk Try.prog (tabD slices_CloneF_tab) (tabM slices_CloneF_tab) := tabD_nil _
noncomputable def slices_CloneF_T (v230 : List Nat) : Tree (Unit) :=
  (.grd (decide (0 < v230.length)) <|
  (.grd (fits (([] : List Nat) ++ v230).length) <|
  .leaf ()))

noncomputable def slices_CloneF_g (v230 : List Nat) : Option (Unit) := (slices_CloneF_T v230).run
def slices_CloneF_enc (v230 : List Nat) (y : Unit) : Rs := (.own 0 0 ((([] : List Nat) ++ v230).length), [.row (.f32 (([] : List Nat) ++ v230)) 0])
theorem slices_CloneF_den (v230 : List Nat) : (den TT (tabD slices_CloneF_tab) (tabM slices_CloneF_tab) (slices_CloneF_LO v230) (codeOf Try.f105) ([.bslc (BR.root 0) (.f32 v230)] ++ List.replicate (Try.f105.ntmps - ([.bslc (BR.root 0) (.f32 v230)] : List DV).length) .undef) []).bind (retD TT Try.f105.results.toList 0) = (slices_CloneF_T v230).bind fun y => .leaf (slices_CloneF_enc v230 y) := by kernel_rfl
theorem slices_CloneF_fn (v230 : List Nat) (F : Fr) (hm : F.ids.length = 0) (h0 : St F [] F.H0) (hA : DVs.Ok F [] [.bslc (BR.root 0) (.f32 v230)]) {y : Unit} (hy : slices_CloneF_g v230 = some y) : ∃ H', FnOk Try.prog 105 (DVs.av F [.bslc (BR.root 0) (.f32 v230)]) F.H0 ((slices_CloneF_enc v230 y).1.av F) H' ∧ St F (slices_CloneF_enc v230 y).2 H' ∧ (slices_CloneF_enc v230 y).1.Ok F (slices_CloneF_enc v230 y).2 :=
  fn_fin tok slices_CloneF_hO mixed Try.func105 Try.call105 (by kernel_rfl) (LoopsOk_eq (l := []) (by kernel_rfl) trivial) (slices_CloneF_den v230) hy hm h0 hA
noncomputable def slices_CloneF_F : DFn := fun args L =>
  match args with
  | [a1] =>
    optT (rowF32 L a1) fun v230 =>
    .call (slices_CloneF_g v230) fun y => .leaf (.own (L.length + 0) 0 ((([] : List Nat) ++ v230).length), L ++ [.row (.f32 (([] : List Nat) ++ v230)) 0])
  | _ => .fail
theorem slices_CloneF_Fok : COk Try.prog 105 slices_CloneF_F true := by
  intro F L H args r L' hs ha hr
  unfold slices_CloneF_F at hr
  split at hr
  · rename_i a1
    obtain ⟨v230, hv230, hr⟩ := optT_run hr
    simp only [Tree.run] at hr
    obtain ⟨y, hy, hr⟩ := Option.bind_eq_some_iff.1 hr
    simp only [Tree.run, Option.some.injEq, Prod.mk.injEq] at hr
    obtain ⟨rfl, rfl⟩ := hr
    exact call_ok1 hs (fun k => (([a1.av F] : List AV)[k]?).getD .top) [a1] [.bslc (BR.root 0) (.f32 v230)] (fun F' h0 hi hρ => ⟨by simp [DVs.av, DV.av, BR.av, hρ], slices_CloneF_fn v230 F' (by rw [hi]; rfl) (st_nil hi) ⟨bslc_ok hi (by rw [h0, hρ]; exact rowF32_ok hs (DVs.okAt ha 0 rfl) hv230), trivial⟩ hy⟩) rfl rfl
  · cases hr
/-! (impl.Matrix).row -/
noncomputable def impl_Matrix_row_LO (v226 : Int) (v227 : Int) (v228 : List Nat) (v229 : Int) : LOr := fun id e L =>
  match id with
  | _ => .fail
noncomputable def impl_Matrix_row_tab : List (FuncId × DFn × Bool) := [(105, slices_CloneF_F, true)]
theorem impl_Matrix_row_hO : OrcOk Try.prog (tabD impl_Matrix_row_tab) (tabM impl_Matrix_row_tab) := tabD_cons slices_CloneF_Fok (tabD_nil _)
noncomputable def impl_Matrix_row_T (v227 : Int) (v228 : List Nat) (v229 : Int) : Tree (Unit) :=
  (.grd (sok (IntKind.i64.wrap (v229 * v227)) (IntKind.i64.wrap ((IntKind.i64.wrap (v229 + (1 : Int))) * v227)) v228.length) <|
  (.call (slices_CloneF_g (AM.sub v228 (IntKind.i64.wrap (v229 * v227)) (IntKind.i64.wrap ((IntKind.i64.wrap (v229 + (1 : Int))) * v227)))) fun v231 =>
  .leaf ()))

noncomputable def impl_Matrix_row_g (v227 : Int) (v228 : List Nat) (v229 : Int) : Option (Unit) := (impl_Matrix_row_T v227 v228 v229).run
def impl_Matrix_row_enc (v226 : Int) (v227 : Int) (v228 : List Nat) (v229 : Int) (y : Unit) : Rs := (.own 0 0 ((([] : List Nat) ++ (AM.sub v228 (IntKind.i64.wrap (v229 * v227)) (IntKind.i64.wrap ((IntKind.i64.wrap (v229 + (1 : Int))) * v227)))).length), [.row (.f32 (([] : List Nat) ++ (AM.sub v228 (IntKind.i64.wrap (v229 * v227)) (IntKind.i64.wrap ((IntKind.i64.wrap (v229 + (1 : Int))) * v227))))) 0])
theorem impl_Matrix_row_den (v226 : Int) (v227 : Int) (v228 : List Nat) (v229 : Int) : (den TT (tabD impl_Matrix_row_tab) (tabM impl_Matrix_row_tab) (impl_Matrix_row_LO v226 v227 v228 v229) (codeOf Try.f80) ([.agg [.int .i64 v226, .int .i64 v227, .bslc (BR.root 0) (.f32 v228)], .int .i64 v229] ++ List.replicate (Try.f80.ntmps - ([.agg [.int .i64 v226, .int .i64 v227, .bslc (BR.root 0) (.f32 v228)], .int .i64 v229] : List DV).length) .undef) []).bind (retD TT Try.f80.results.toList 0) = (impl_Matrix_row_T v227 v228 v229).bind fun y => .leaf (impl_Matrix_row_enc v226 v227 v228 v229 y) := by kernel_rfl
theorem impl_Matrix_row_fn (v226 : Int) (v227 : Int) (v228 : List Nat) (v229 : Int) (F : Fr) (hm : F.ids.length = 0) (h0 : St F [] F.H0) (hA : DVs.Ok F [] [.agg [.int .i64 v226, .int .i64 v227, .bslc (BR.root 0) (.f32 v228)], .int .i64 v229]) {y : Unit} (hy : impl_Matrix_row_g v227 v228 v229 = some y) : ∃ H', FnOk Try.prog 80 (DVs.av F [.agg [.int .i64 v226, .int .i64 v227, .bslc (BR.root 0) (.f32 v228)], .int .i64 v229]) F.H0 ((impl_Matrix_row_enc v226 v227 v228 v229 y).1.av F) H' ∧ St F (impl_Matrix_row_enc v226 v227 v228 v229 y).2 H' ∧ (impl_Matrix_row_enc v226 v227 v228 v229 y).1.Ok F (impl_Matrix_row_enc v226 v227 v228 v229 y).2 :=
  fn_fin tok impl_Matrix_row_hO mixed Try.func80 Try.call80 (by kernel_rfl) (LoopsOk_eq (l := []) (by kernel_rfl) trivial) (impl_Matrix_row_den v226 v227 v228 v229) hy hm h0 hA
noncomputable def impl_Matrix_row_F : DFn := fun args L =>
  match args with
  | [.agg [.int .i64 v226, .int .i64 v227, a1], .int .i64 v229] =>
    optT (rowF32 L a1) fun v228 =>
    .call (impl_Matrix_row_g v227 v228 v229) fun y => .leaf (.own (L.length + 0) 0 ((([] : List Nat) ++ (AM.sub v228 (IntKind.i64.wrap (v229 * v227)) (IntKind.i64.wrap ((IntKind.i64.wrap (v229 + (1 : Int))) * v227)))).length), L ++ [.row (.f32 (([] : List Nat) ++ (AM.sub v228 (IntKind.i64.wrap (v229 * v227)) (IntKind.i64.wrap ((IntKind.i64.wrap (v229 + (1 : Int))) * v227))))) 0])
  | _ => .fail
theorem impl_Matrix_row_Fok : COk Try.prog 80 impl_Matrix_row_F true := by
  intro F L H args r L' hs ha hr
  unfold impl_Matrix_row_F at hr
  split at hr
  · rename_i v226 v227 a1 v229
    obtain ⟨v228, hv228, hr⟩ := optT_run hr
    simp only [Tree.run] at hr
    obtain ⟨y, hy, hr⟩ := Option.bind_eq_some_iff.1 hr
    simp only [Tree.run, Option.some.injEq, Prod.mk.injEq] at hr
    obtain ⟨rfl, rfl⟩ := hr
    exact call_ok1 hs (fun k => (([a1.av F] : List AV)[k]?).getD .top) [.agg [.int .i64 v226, .int .i64 v227, a1], .int .i64 v229] [.agg [.int .i64 v226, .int .i64 v227, .bslc (BR.root 0) (.f32 v228)], .int .i64 v229] (fun F' h0 hi hρ => ⟨by simp [DVs.av, DV.av, BR.av, hρ], impl_Matrix_row_fn v226 v227 v228 v229 F' (by rw [hi]; rfl) (st_nil hi) ⟨⟨trivial, trivial, bslc_ok hi (by rw [h0, hρ]; exact rowF32_ok hs (DVs.okAt (DVs.okAt ha 0 rfl) 2 rfl) hv228), trivial⟩, trivial, trivial⟩ hy⟩) rfl rfl
  · cases hr
/-! (impl.Matrix).at -/
noncomputable def impl_Matrix_at_LO (v238 : Int) (v239 : Int) (v240 : List Nat) (v241 : Int) (v242 : Int) : LOr := fun id e L =>
  match id with
  | _ => .fail
noncomputable def impl_Matrix_at_tab : List (FuncId × DFn × Bool) := []
theorem impl_Matrix_at_hO : OrcOk Try.prog (tabD impl_Matrix_at_tab) (tabM impl_Matrix_at_tab) := tabD_nil _
noncomputable def impl_Matrix_at_T (v239 : Int) (v240 : List Nat) (v241 : Int) (v242 : Int) : Tree (Nat) :=
  (.grd (inb (IntKind.i64.wrap ((IntKind.i64.wrap (v241 * v239)) + v242)) v240.length) <|
  .leaf (nth v240 (Int.toNat (IntKind.i64.wrap ((IntKind.i64.wrap (v241 * v239)) + v242)))))

noncomputable def impl_Matrix_at_g (v239 : Int) (v240 : List Nat) (v241 : Int) (v242 : Int) : Option (Nat) := (impl_Matrix_at_T v239 v240 v241 v242).run
def impl_Matrix_at_enc (v238 : Int) (v239 : Int) (v240 : List Nat) (v241 : Int) (v242 : Int) (y : Nat) : Rs := (.flt .f32 y, [])
theorem impl_Matrix_at_den (v238 : Int) (v239 : Int) (v240 : List Nat) (v241 : Int) (v242 : Int) : (den TT (tabD impl_Matrix_at_tab) (tabM impl_Matrix_at_tab) (impl_Matrix_at_LO v238 v239 v240 v241 v242) (codeOf Try.f64) ([.agg [.int .i64 v238, .int .i64 v239, .bslc (BR.root 0) (.f32 v240)], .int .i64 v241, .int .i64 v242] ++ List.replicate (Try.f64.ntmps - ([.agg [.int .i64 v238, .int .i64 v239, .bslc (BR.root 0) (.f32 v240)], .int .i64 v241, .int .i64 v242] : List DV).length) .undef) []).bind (retD TT Try.f64.results.toList 0) = (impl_Matrix_at_T v239 v240 v241 v242).bind fun y => .leaf (impl_Matrix_at_enc v238 v239 v240 v241 v242 y) := by kernel_rfl
theorem impl_Matrix_at_fn (v238 : Int) (v239 : Int) (v240 : List Nat) (v241 : Int) (v242 : Int) (F : Fr) (hm : F.ids.length = 0) (h0 : St F [] F.H0) (hA : DVs.Ok F [] [.agg [.int .i64 v238, .int .i64 v239, .bslc (BR.root 0) (.f32 v240)], .int .i64 v241, .int .i64 v242]) {y : Nat} (hy : impl_Matrix_at_g v239 v240 v241 v242 = some y) : ∃ H', FnOk Try.prog 64 (DVs.av F [.agg [.int .i64 v238, .int .i64 v239, .bslc (BR.root 0) (.f32 v240)], .int .i64 v241, .int .i64 v242]) F.H0 ((impl_Matrix_at_enc v238 v239 v240 v241 v242 y).1.av F) H' ∧ St F (impl_Matrix_at_enc v238 v239 v240 v241 v242 y).2 H' ∧ (impl_Matrix_at_enc v238 v239 v240 v241 v242 y).1.Ok F (impl_Matrix_at_enc v238 v239 v240 v241 v242 y).2 :=
  fn_fin tok impl_Matrix_at_hO mixed Try.func64 Try.call64 (by kernel_rfl) (LoopsOk_eq (l := []) (by kernel_rfl) trivial) (impl_Matrix_at_den v238 v239 v240 v241 v242) hy hm h0 hA
noncomputable def impl_Matrix_at_F : DFn := fun args L =>
  match args with
  | [.agg [.int .i64 v238, .int .i64 v239, a1], .int .i64 v241, .int .i64 v242] =>
    optT (rowF32 L a1) fun v240 =>
    .call (impl_Matrix_at_g v239 v240 v241 v242) fun y => .leaf (.flt .f32 y, L)
  | _ => .fail
theorem impl_Matrix_at_Fok : COk Try.prog 64 impl_Matrix_at_F true := by
  intro F L H args r L' hs ha hr
  unfold impl_Matrix_at_F at hr
  split at hr
  · rename_i v238 v239 a1 v241 v242
    obtain ⟨v240, hv240, hr⟩ := optT_run hr
    simp only [Tree.run] at hr
    obtain ⟨y, hy, hr⟩ := Option.bind_eq_some_iff.1 hr
    simp only [Tree.run, Option.some.injEq, Prod.mk.injEq] at hr
    obtain ⟨rfl, rfl⟩ := hr
    exact call_ok0 hs (fun k => (([a1.av F] : List AV)[k]?).getD .top) [.agg [.int .i64 v238, .int .i64 v239, a1], .int .i64 v241, .int .i64 v242] [.agg [.int .i64 v238, .int .i64 v239, .bslc (BR.root 0) (.f32 v240)], .int .i64 v241, .int .i64 v242] (fun F' h0 hi hρ => ⟨by simp [DVs.av, DV.av, BR.av, hρ], impl_Matrix_at_fn v238 v239 v240 v241 v242 F' (by rw [hi]; rfl) (st_nil hi) ⟨⟨trivial, trivial, bslc_ok hi (by rw [h0, hρ]; exact rowF32_ok hs (DVs.okAt (DVs.okAt ha 0 rfl) 2 rfl) hv240), trivial⟩, trivial, trivial, trivial⟩ hy⟩) rfl
  · cases hr
/-! (impl.Matrix).column -/
noncomputable def impl_Matrix_column_l0_T (v233 : Int) (v234 : Int) (v235 : List Nat) (v236 : Int) (s : Int × (List Nat)) : Tree ((Int × (List Nat)) ⊕ ((List Nat))) :=
  (.br (decide (s.1 < v233)) (
   (.call (impl_Matrix_at_g v234 v235 s.1 v236) fun v249 =>
   (.grd (fits (s.2 ++ ([v249] : List Nat)).length) <|
   .leaf (.inl (IntKind.i64.wrap (s.1 + (1 : Int)), s.2 ++ ([v249] : List Nat)))))
  ) (
   .leaf (.inr s.2)
  ))

noncomputable def impl_Matrix_column_l0_g (v233 : Int) (v234 : Int) (v235 : List Nat) (v236 : Int) (s0 : Int × (List Nat)) : Option ((List Nat)) := whileM (fun s => (impl_Matrix_column_l0_T v233 v234 v235 v236 s).run) s0
def impl_Matrix_column_l0_E (v233 : Int) (v234 : Int) (v235 : List Nat) (v236 : Int) (s : Int × (List Nat)) : Sd := ([.top, .int .i64 v236, .ptr 0 (0 : Nat) 0 (3 : Nat), .top, .top, .own 1 0 ((s.2).length), .top, .top, .top, .int .i64 v233, .int .i64 s.1, .top, .top, .top, .top, .top, .top, .top, .top, .top, .top, .top], [.gen [.int .i64 v233, .int .i64 v234, .bslc (BR.root 0) (.f32 v235)] false 0, .row (.f32 s.2) 0])
def impl_Matrix_column_l0_X (v233 : Int) (v234 : Int) (v235 : List Nat) (v236 : Int) (x : (List Nat)) : Out := (.normal, [.top, .top, .top, .top, .top, .own 0 0 ((x).length), .top, .top, .top, .top, .top, .top, .top, .top, .top, .top, .top, .top, .top, .top, .top, .top], [.row (.f32 x) 0])
def impl_Matrix_column_l0_kill : List Nat := [1, 0, 0, 1, 1, 0, 1, 1, 1, 0, 0, 1, 1, 1, 1, 1, 1, 1, 1, 1, 1, 1]
def impl_Matrix_column_l0_nx : Exit → List Nat
  | .exit 0 => [1, 1, 1, 1, 1, 0, 1, 1, 1, 1, 1, 1, 1, 1, 1, 1, 1, 1, 1, 1, 1, 1]
  | .ret => [1, 1, 1, 1, 0, 1, 1, 1, 1, 1, 1, 1, 1, 1, 1, 1, 1, 1, 1, 1, 1, 1]
  | _ => []
noncomputable def impl_Matrix_column_LO (v233 : Int) (v234 : Int) (v235 : List Nat) (v236 : Int) : LOr := fun id e L =>
  match id with
  | 0 => .need (normA 0 impl_Matrix_column_l0_kill e L = some (impl_Matrix_column_l0_E v233 v234 v235 v236 ((gI (vAt e 10)), (gRF L (vAt e 5))))) (.call (impl_Matrix_column_l0_g v233 v234 v235 v236 ((gI (vAt e 10)), (gRF L (vAt e 5)))) fun x => .leaf (impl_Matrix_column_l0_X v233 v234 v235 v236 x))
  | _ => .fail
noncomputable def impl_Matrix_column_tab : List (FuncId × DFn × Bool) := [(64, impl_Matrix_at_F, true)]
theorem impl_Matrix_column_hO : OrcOk Try.prog (tabD impl_Matrix_column_tab) (tabM impl_Matrix_column_tab) := tabD_cons impl_Matrix_at_Fok (tabD_nil _)
theorem impl_Matrix_column_l0_be (v233 : Int) (v234 : Int) (v235 : List Nat) (v236 : Int) (s : Int × (List Nat)) : bodyT TT (tabD impl_Matrix_column_tab) (tabM impl_Matrix_column_tab) (impl_Matrix_column_LO v233 v234 v235 v236) 0 impl_Matrix_column_l0_kill impl_Matrix_column_l0_nx (bodyOf Try.f81 0) 0 (impl_Matrix_column_l0_E v233 v234 v235 v236 s) = (impl_Matrix_column_l0_T v233 v234 v235 v236 s).bind fun y => .leaf (outS (impl_Matrix_column_l0_E v233 v234 v235 v236) (impl_Matrix_column_l0_X v233 v234 v235 v236) y) := by kernel_rfl
theorem impl_Matrix_column_l0_ok (v233 : Int) (v234 : Int) (v235 : List Nat) (v236 : Int) : LSound Try.prog 0 (impl_Matrix_column_LO v233 v234 v235 v236) 0 (bodyOf Try.f81 0) := by
  intro e L out h
  exact lo_ok (E := impl_Matrix_column_l0_E v233 v234 v235 v236) (gT := impl_Matrix_column_l0_T v233 v234 v235 v236) (X := impl_Matrix_column_l0_X v233 v234 v235 v236) (s0 := ((gI (vAt e 10)), (gRF L (vAt e 5)))) tok impl_Matrix_column_hO mixed (LoopsOk_eq (l := []) (by kernel_rfl) trivial) (impl_Matrix_column_l0_be v233 v234 v235 v236) rfl (by intro x; rfl) h
noncomputable def impl_Matrix_column_T (v233 : Int) (v234 : Int) (v235 : List Nat) (v236 : Int) : Tree ((List Nat)) :=
  (.need (some (impl_Matrix_column_l0_E v233 v234 v235 v236 ((0 : Int), ([] : List Nat))) = some (impl_Matrix_column_l0_E v233 v234 v235 v236 ((0 : Int), ([] : List Nat)))) <|
  (.call (impl_Matrix_column_l0_g v233 v234 v235 v236 ((0 : Int), ([] : List Nat))) fun v250 =>
  .leaf v250))

noncomputable def impl_Matrix_column_g (v233 : Int) (v234 : Int) (v235 : List Nat) (v236 : Int) : Option ((List Nat)) := (impl_Matrix_column_T v233 v234 v235 v236).run
def impl_Matrix_column_enc (v233 : Int) (v234 : Int) (v235 : List Nat) (v236 : Int) (y : (List Nat)) : Rs := (.own 0 0 ((y).length), [.row (.f32 y) 0])
theorem impl_Matrix_column_den (v233 : Int) (v234 : Int) (v235 : List Nat) (v236 : Int) : (den TT (tabD impl_Matrix_column_tab) (tabM impl_Matrix_column_tab) (impl_Matrix_column_LO v233 v234 v235 v236) (codeOf Try.f81) ([.agg [.int .i64 v233, .int .i64 v234, .bslc (BR.root 0) (.f32 v235)], .int .i64 v236] ++ List.replicate (Try.f81.ntmps - ([.agg [.int .i64 v233, .int .i64 v234, .bslc (BR.root 0) (.f32 v235)], .int .i64 v236] : List DV).length) .undef) []).bind (retD TT Try.f81.results.toList 0) = (impl_Matrix_column_T v233 v234 v235 v236).bind fun y => .leaf (impl_Matrix_column_enc v233 v234 v235 v236 y) := by kernel_rfl
theorem impl_Matrix_column_fn (v233 : Int) (v234 : Int) (v235 : List Nat) (v236 : Int) (F : Fr) (hm : F.ids.length = 0) (h0 : St F [] F.H0) (hA : DVs.Ok F [] [.agg [.int .i64 v233, .int .i64 v234, .bslc (BR.root 0) (.f32 v235)], .int .i64 v236]) {y : (List Nat)} (hy : impl_Matrix_column_g v233 v234 v235 v236 = some y) : ∃ H', FnOk Try.prog 81 (DVs.av F [.agg [.int .i64 v233, .int .i64 v234, .bslc (BR.root 0) (.f32 v235)], .int .i64 v236]) F.H0 ((impl_Matrix_column_enc v233 v234 v235 v236 y).1.av F) H' ∧ St F (impl_Matrix_column_enc v233 v234 v235 v236 y).2 H' ∧ (impl_Matrix_column_enc v233 v234 v235 v236 y).1.Ok F (impl_Matrix_column_enc v233 v234 v235 v236 y).2 :=
  fn_fin tok impl_Matrix_column_hO mixed Try.func81 Try.call81 (by kernel_rfl) (LoopsOk_eq (l := [(0, bodyOf Try.f81 0)]) (by kernel_rfl) ⟨impl_Matrix_column_l0_ok v233 v234 v235 v236, trivial⟩) (impl_Matrix_column_den v233 v234 v235 v236) hy hm h0 hA
noncomputable def impl_Matrix_column_F : DFn := fun args L =>
  match args with
  | [.agg [.int .i64 v233, .int .i64 v234, a1], .int .i64 v236] =>
    optT (rowF32 L a1) fun v235 =>
    .call (impl_Matrix_column_g v233 v234 v235 v236) fun y => .leaf (.own (L.length + 0) 0 ((y).length), L ++ [.row (.f32 y) 0])
  | _ => .fail
theorem impl_Matrix_column_Fok : COk Try.prog 81 impl_Matrix_column_F true := by
  intro F L H args r L' hs ha hr
  unfold impl_Matrix_column_F at hr
  split at hr
  · rename_i v233 v234 a1 v236
    obtain ⟨v235, hv235, hr⟩ := optT_run hr
    simp only [Tree.run] at hr
    obtain ⟨y, hy, hr⟩ := Option.bind_eq_some_iff.1 hr
    simp only [Tree.run, Option.some.injEq, Prod.mk.injEq] at hr
    obtain ⟨rfl, rfl⟩ := hr
    exact call_ok1 hs (fun k => (([a1.av F] : List AV)[k]?).getD .top) [.agg [.int .i64 v233, .int .i64 v234, a1], .int .i64 v236] [.agg [.int .i64 v233, .int .i64 v234, .bslc (BR.root 0) (.f32 v235)], .int .i64 v236] (fun F' h0 hi hρ => ⟨by simp [DVs.av, DV.av, BR.av, hρ], impl_Matrix_column_fn v233 v234 v235 v236 F' (by rw [hi]; rfl) (st_nil hi) ⟨⟨trivial, trivial, bslc_ok hi (by rw [h0, hρ]; exact rowF32_ok hs (DVs.okAt (DVs.okAt ha 0 rfl) 2 rfl) hv235), trivial⟩, trivial, trivial⟩ hy⟩) rfl rfl
  · cases hr
/-! impl.mul -/
noncomputable def impl_mul_LO (v256 : Nat) (v257 : Nat) : LOr := fun id e L =>
  match id with
  | _ => .fail
noncomputable def impl_mul_tab : List (FuncId × DFn × Bool) := []
theorem impl_mul_hO : OrcOk Try.prog (tabD impl_mul_tab) (tabM impl_mul_tab) := tabD_nil _
noncomputable def impl_mul_T (v256 : Nat) (v257 : Nat) : Tree (Nat) :=
  .leaf (fmul .f32 v256 v257)

noncomputable def impl_mul_g (v256 : Nat) (v257 : Nat) : Option (Nat) := (impl_mul_T v256 v257).run
def impl_mul_enc (v256 : Nat) (v257 : Nat) (y : Nat) : Rs := (.flt .f32 y, [])
theorem impl_mul_den (v256 : Nat) (v257 : Nat) : (den TT (tabD impl_mul_tab) (tabM impl_mul_tab) (impl_mul_LO v256 v257) (codeOf Try.f65) ([.flt .f32 v256, .flt .f32 v257] ++ List.replicate (Try.f65.ntmps - ([.flt .f32 v256, .flt .f32 v257] : List DV).length) .undef) []).bind (retD TT Try.f65.results.toList 0) = (impl_mul_T v256 v257).bind fun y => .leaf (impl_mul_enc v256 v257 y) := by kernel_rfl
theorem impl_mul_fn (v256 : Nat) (v257 : Nat) (F : Fr) (hm : F.ids.length = 0) (h0 : St F [] F.H0) (hA : DVs.Ok F [] [.flt .f32 v256, .flt .f32 v257]) {y : Nat} (hy : impl_mul_g v256 v257 = some y) : ∃ H', FnOk Try.prog 65 (DVs.av F [.flt .f32 v256, .flt .f32 v257]) F.H0 ((impl_mul_enc v256 v257 y).1.av F) H' ∧ St F (impl_mul_enc v256 v257 y).2 H' ∧ (impl_mul_enc v256 v257 y).1.Ok F (impl_mul_enc v256 v257 y).2 :=
  fn_fin tok impl_mul_hO mixed Try.func65 Try.call65 (by kernel_rfl) (LoopsOk_eq (l := []) (by kernel_rfl) trivial) (impl_mul_den v256 v257) hy hm h0 hA
def impl_mul_v (v256 : Nat) (v257 : Nat) : Nat :=
  fmul .f32 v256 v257
theorem impl_mul_tot (v256 : Nat) (v257 : Nat) : impl_mul_g v256 v257 = some (impl_mul_v v256 v257) := by
  unfold impl_mul_g impl_mul_T impl_mul_v
  simp only [Tree.run]
  repeat' (first | rfl | split)
noncomputable def impl_mul_F : DFn := fun args L =>
  match args with
  | [.flt .f32 v256, .flt .f32 v257] =>
    .leaf (.flt .f32 (impl_mul_v v256 v257), L)
  | _ => .fail
theorem impl_mul_Fok : COk Try.prog 65 impl_mul_F true := by
  intro F L H args r L' hs ha hr
  unfold impl_mul_F at hr
  split at hr
  · rename_i v256 v257
    have hy := impl_mul_tot v256 v257
    generalize impl_mul_v v256 v257 = y at hy hr
    simp only [Tree.run, Option.some.injEq, Prod.mk.injEq] at hr
    obtain ⟨rfl, rfl⟩ := hr
    exact call_ok0 hs (fun k => (([] : List AV)[k]?).getD .top) [.flt .f32 v256, .flt .f32 v257] [.flt .f32 v256, .flt .f32 v257] (fun F' h0 hi hρ => ⟨by simp [DVs.av, DV.av, BR.av, hρ], impl_mul_fn v256 v257 F' (by rw [hi]; rfl) (st_nil hi) ⟨trivial, trivial, trivial⟩ hy⟩) rfl
  · cases hr
/-! impl.dot -/
noncomputable def impl_dot_l0_T (v252 : List Nat) (v253 : List Nat) (s : Nat × Int) : Tree ((Nat × Int) ⊕ (Nat)) :=
  (.br (decide (s.2 < ((v252.length : Nat) : Int))) (
   (.grd (inb s.2 v252.length) <|
   (.grd (inb s.2 v253.length) <|
   .leaf (.inl (fadd .f32 s.1 (impl_mul_v (nth v252 (Int.toNat s.2)) (nth v253 (Int.toNat s.2))), IntKind.i64.wrap (s.2 + (1 : Int))))))
  ) (
   .leaf (.inr s.1)
  ))

noncomputable def impl_dot_l0_g (v252 : List Nat) (v253 : List Nat) (s0 : Nat × Int) : Option (Nat) := whileM (fun s => (impl_dot_l0_T v252 v253 s).run) s0
def impl_dot_l0_E (v252 : List Nat) (v253 : List Nat) (s : Nat × Int) : Sd := ([.top, .bslc (BR.root 1) (.f32 v253), .top, .top, .top, .flt .f32 s.1, .top, .top, .bslc (BR.root 0) (.f32 v252), .int .i64 ((v252.length : Nat) : Int), .int .i64 s.2, .top, .top, .top, .top, .top, .top, .top, .top, .top, .top, .top, .top, .top, .top], [])
def impl_dot_l0_X (v252 : List Nat) (v253 : List Nat) (x : Nat) : Out := (.normal, [.top, .top, .top, .top, .top, .flt .f32 x, .top, .top, .top, .top, .top, .top, .top, .top, .top, .top, .top, .top, .top, .top, .top, .top, .top, .top, .top], [])
def impl_dot_l0_kill : List Nat := [1, 0, 1, 1, 1, 0, 1, 1, 0, 0, 0, 1, 1, 1, 1, 1, 1, 1, 1, 1, 1, 1, 1, 1, 1]
def impl_dot_l0_nx : Exit → List Nat
  | .exit 0 => [1, 1, 1, 1, 1, 0, 1, 1, 1, 1, 1, 1, 1, 1, 1, 1, 1, 1, 1, 1, 1, 1, 1, 1, 1]
  | .ret => [1, 1, 1, 1, 0, 1, 1, 1, 1, 1, 1, 1, 1, 1, 1, 1, 1, 1, 1, 1, 1, 1, 1, 1, 1]
  | _ => []
noncomputable def impl_dot_LO (v252 : List Nat) (v253 : List Nat) : LOr := fun id e L =>
  match id with
  | 0 => .need (normA 0 impl_dot_l0_kill e L = some (impl_dot_l0_E v252 v253 ((gF (vAt e 5)), (gI (vAt e 10))))) (.call (impl_dot_l0_g v252 v253 ((gF (vAt e 5)), (gI (vAt e 10)))) fun x => .leaf (impl_dot_l0_X v252 v253 x))
  | _ => .fail
noncomputable def impl_dot_tab : List (FuncId × DFn × Bool) := [(65, impl_mul_F, true)]
theorem impl_dot_hO : OrcOk Try.prog (tabD impl_dot_tab) (tabM impl_dot_tab) := tabD_cons impl_mul_Fok (tabD_nil _)
theorem impl_dot_l0_be (v252 : List Nat) (v253 : List Nat) (s : Nat × Int) : bodyT TT (tabD impl_dot_tab) (tabM impl_dot_tab) (impl_dot_LO v252 v253) 0 impl_dot_l0_kill impl_dot_l0_nx (bodyOf Try.f82 0) 0 (impl_dot_l0_E v252 v253 s) = (impl_dot_l0_T v252 v253 s).bind fun y => .leaf (outS (impl_dot_l0_E v252 v253) (impl_dot_l0_X v252 v253) y) := by kernel_rfl
theorem impl_dot_l0_ok (v252 : List Nat) (v253 : List Nat) : LSound Try.prog 0 (impl_dot_LO v252 v253) 0 (bodyOf Try.f82 0) := by
  intro e L out h
  exact lo_ok (E := impl_dot_l0_E v252 v253) (gT := impl_dot_l0_T v252 v253) (X := impl_dot_l0_X v252 v253) (s0 := ((gF (vAt e 5)), (gI (vAt e 10)))) tok impl_dot_hO mixed (LoopsOk_eq (l := []) (by kernel_rfl) trivial) (impl_dot_l0_be v252 v253) rfl (by intro x; rfl) h
noncomputable def impl_dot_T (v252 : List Nat) (v253 : List Nat) : Tree (Nat) :=
  (.need (some (impl_dot_l0_E v252 v253 ((0 : Nat), (0 : Int))) = some (impl_dot_l0_E v252 v253 ((0 : Nat), (0 : Int)))) <|
  (.call (impl_dot_l0_g v252 v253 ((0 : Nat), (0 : Int))) fun v262 =>
  .leaf v262))

noncomputable def impl_dot_g (v252 : List Nat) (v253 : List Nat) : Option (Nat) := (impl_dot_T v252 v253).run
def impl_dot_enc (v252 : List Nat) (v253 : List Nat) (y : Nat) : Rs := (.flt .f32 y, [])
theorem impl_dot_den (v252 : List Nat) (v253 : List Nat) : (den TT (tabD impl_dot_tab) (tabM impl_dot_tab) (impl_dot_LO v252 v253) (codeOf Try.f82) ([.bslc (BR.root 0) (.f32 v252), .bslc (BR.root 1) (.f32 v253)] ++ List.replicate (Try.f82.ntmps - ([.bslc (BR.root 0) (.f32 v252), .bslc (BR.root 1) (.f32 v253)] : List DV).length) .undef) []).bind (retD TT Try.f82.results.toList 0) = (impl_dot_T v252 v253).bind fun y => .leaf (impl_dot_enc v252 v253 y) := by kernel_rfl
theorem impl_dot_fn (v252 : List Nat) (v253 : List Nat) (F : Fr) (hm : F.ids.length = 0) (h0 : St F [] F.H0) (hA : DVs.Ok F [] [.bslc (BR.root 0) (.f32 v252), .bslc (BR.root 1) (.f32 v253)]) {y : Nat} (hy : impl_dot_g v252 v253 = some y) : ∃ H', FnOk Try.prog 82 (DVs.av F [.bslc (BR.root 0) (.f32 v252), .bslc (BR.root 1) (.f32 v253)]) F.H0 ((impl_dot_enc v252 v253 y).1.av F) H' ∧ St F (impl_dot_enc v252 v253 y).2 H' ∧ (impl_dot_enc v252 v253 y).1.Ok F (impl_dot_enc v252 v253 y).2 :=
  fn_fin tok impl_dot_hO mixed Try.func82 Try.call82 (by kernel_rfl) (LoopsOk_eq (l := [(0, bodyOf Try.f82 0)]) (by kernel_rfl) ⟨impl_dot_l0_ok v252 v253, trivial⟩) (impl_dot_den v252 v253) hy hm h0 hA
noncomputable def impl_dot_F : DFn := fun args L =>
  match args with
  | [a1, a2] =>
    optT (rowF32 L a1) fun v252 =>
    optT (rowF32 L a2) fun v253 =>
    .call (impl_dot_g v252 v253) fun y => .leaf (.flt .f32 y, L)
  | _ => .fail
theorem impl_dot_Fok : COk Try.prog 82 impl_dot_F true := by
  intro F L H args r L' hs ha hr
  unfold impl_dot_F at hr
  split at hr
  · rename_i a1 a2
    obtain ⟨v252, hv252, hr⟩ := optT_run hr
    obtain ⟨v253, hv253, hr⟩ := optT_run hr
    simp only [Tree.run] at hr
    obtain ⟨y, hy, hr⟩ := Option.bind_eq_some_iff.1 hr
    simp only [Tree.run, Option.some.injEq, Prod.mk.injEq] at hr
    obtain ⟨rfl, rfl⟩ := hr
    exact call_ok0 hs (fun k => (([a1.av F, a2.av F] : List AV)[k]?).getD .top) [a1, a2] [.bslc (BR.root 0) (.f32 v252), .bslc (BR.root 1) (.f32 v253)] (fun F' h0 hi hρ => ⟨by simp [DVs.av, DV.av, BR.av, hρ], impl_dot_fn v252 v253 F' (by rw [hi]; rfl) (st_nil hi) ⟨bslc_ok hi (by rw [h0, hρ]; exact rowF32_ok hs (DVs.okAt ha 0 rfl) hv252), bslc_ok hi (by rw [h0, hρ]; exact rowF32_ok hs (DVs.okAt ha 1 rfl) hv253), trivial⟩ hy⟩) rfl
  · cases hr
/-! impl.product$1 -/
noncomputable def impl_product_1_LO (v218 : Int) (v219 : Int) (v220 : Int) (v221 : Int) (v222 : List Nat) (v223 : Int) (v224 : Int) (v225 : List Nat) : LOr := fun id e L =>
  match id with
  | _ => .fail
noncomputable def impl_product_1_tab : List (FuncId × DFn × Bool) := [(80, impl_Matrix_row_F, true), (81, impl_Matrix_column_F, true), (82, impl_dot_F, true)]
theorem impl_product_1_hO : OrcOk Try.prog (tabD impl_product_1_tab) (tabM impl_product_1_tab) := tabD_cons impl_Matrix_row_Fok (tabD_cons impl_Matrix_column_Fok (tabD_cons impl_dot_Fok (tabD_nil _)))
noncomputable def impl_product_1_T (v218 : Int) (v219 : Int) (v221 : Int) (v222 : List Nat) (v223 : Int) (v224 : Int) (v225 : List Nat) : Tree (Nat) :=
  (.call (impl_Matrix_row_g v221 v222 v218) fun v232 =>
  (.call (impl_Matrix_column_g v223 v224 v225 v219) fun v251 =>
  (.call (impl_dot_g (([] : List Nat) ++ (AM.sub v222 (IntKind.i64.wrap (v218 * v221)) (IntKind.i64.wrap ((IntKind.i64.wrap (v218 + (1 : Int))) * v221)))) v251) fun v263 =>
  .leaf v263)))

noncomputable def impl_product_1_g (v218 : Int) (v219 : Int) (v221 : Int) (v222 : List Nat) (v223 : Int) (v224 : Int) (v225 : List Nat) : Option (Nat) := (impl_product_1_T v218 v219 v221 v222 v223 v224 v225).run
def impl_product_1_enc (v218 : Int) (v219 : Int) (v220 : Int) (v221 : Int) (v222 : List Nat) (v223 : Int) (v224 : Int) (v225 : List Nat) (y : Nat) : Rs := (.flt .f32 y, [])
theorem impl_product_1_den (v218 : Int) (v219 : Int) (v220 : Int) (v221 : Int) (v222 : List Nat) (v223 : Int) (v224 : Int) (v225 : List Nat) : (den TT (tabD impl_product_1_tab) (tabM impl_product_1_tab) (impl_product_1_LO v218 v219 v220 v221 v222 v223 v224 v225) (codeOf Try.f169) ([.int .i64 v218, .int .i64 v219, .bptr (BR.root 0) [.int .i64 v220, .int .i64 v221, .bslc (BR.root 1) (.f32 v222)], .bptr (BR.root 2) [.int .i64 v223, .int .i64 v224, .bslc (BR.root 3) (.f32 v225)]] ++ List.replicate (Try.f169.ntmps - ([.int .i64 v218, .int .i64 v219, .bptr (BR.root 0) [.int .i64 v220, .int .i64 v221, .bslc (BR.root 1) (.f32 v222)], .bptr (BR.root 2) [.int .i64 v223, .int .i64 v224, .bslc (BR.root 3) (.f32 v225)]] : List DV).length) .undef) []).bind (retD TT Try.f169.results.toList 0) = (impl_product_1_T v218 v219 v221 v222 v223 v224 v225).bind fun y => .leaf (impl_product_1_enc v218 v219 v220 v221 v222 v223 v224 v225 y) := by kernel_rfl
theorem impl_product_1_fn (v218 : Int) (v219 : Int) (v220 : Int) (v221 : Int) (v222 : List Nat) (v223 : Int) (v224 : Int) (v225 : List Nat) (F : Fr) (hm : F.ids.length = 0) (h0 : St F [] F.H0) (hA : DVs.Ok F [] [.int .i64 v218, .int .i64 v219, .bptr (BR.root 0) [.int .i64 v220, .int .i64 v221, .bslc (BR.root 1) (.f32 v222)], .bptr (BR.root 2) [.int .i64 v223, .int .i64 v224, .bslc (BR.root 3) (.f32 v225)]]) {y : Nat} (hy : impl_product_1_g v218 v219 v221 v222 v223 v224 v225 = some y) : ∃ H', FnOk Try.prog 169 (DVs.av F [.int .i64 v218, .int .i64 v219, .bptr (BR.root 0) [.int .i64 v220, .int .i64 v221, .bslc (BR.root 1) (.f32 v222)], .bptr (BR.root 2) [.int .i64 v223, .int .i64 v224, .bslc (BR.root 3) (.f32 v225)]]) F.H0 ((impl_product_1_enc v218 v219 v220 v221 v222 v223 v224 v225 y).1.av F) H' ∧ St F (impl_product_1_enc v218 v219 v220 v221 v222 v223 v224 v225 y).2 H' ∧ (impl_product_1_enc v218 v219 v220 v221 v222 v223 v224 v225 y).1.Ok F (impl_product_1_enc v218 v219 v220 v221 v222 v223 v224 v225 y).2 :=
  fn_fin tok impl_product_1_hO mixed Try.func169 Try.call169 (by kernel_rfl) (LoopsOk_eq (l := []) (by kernel_rfl) trivial) (impl_product_1_den v218 v219 v220 v221 v222 v223 v224 v225) hy hm h0 hA
noncomputable def impl_product_1_F : DFn := fun args L =>
  match args with
  | [.int .i64 v218, .int .i64 v219, a1, a3] =>
    optT (cellsOf L 3 a1) fun cs0 =>
    (match cs0 with
    | [.int .i64 v220, .int .i64 v221, a2] =>
    optT (rowF32 L a2) fun v222 =>
    optT (cellsOf L 3 a3) fun cs2 =>
    (match cs2 with
    | [.int .i64 v223, .int .i64 v224, a4] =>
    optT (rowF32 L a4) fun v225 =>
    .call (impl_product_1_g v218 v219 v221 v222 v223 v224 v225) fun y => .leaf (.flt .f32 y, L)
    | _ => .fail)
    | _ => .fail)
  | _ => .fail
theorem impl_product_1_Fok : COk Try.prog 169 impl_product_1_F true := by
  intro F L H args r L' hs ha hr
  unfold impl_product_1_F at hr
  split at hr
  · rename_i v218 v219 a1 a3
    obtain ⟨cs0, hcp0, hr⟩ := optT_run hr
    split at hr
    · rename_i v220 v221 a2
      obtain ⟨v222, hv222, hr⟩ := optT_run hr
      obtain ⟨cs2, hcp2, hr⟩ := optT_run hr
      split at hr
      · rename_i v223 v224 a4
        obtain ⟨v225, hv225, hr⟩ := optT_run hr
        simp only [Tree.run] at hr
        obtain ⟨y, hy, hr⟩ := Option.bind_eq_some_iff.1 hr
        simp only [Tree.run, Option.some.injEq, Prod.mk.injEq] at hr
        obtain ⟨rfl, rfl⟩ := hr
        exact call_ok0 hs (fun k => (([a1.av F, a2.av F, a3.av F, a4.av F] : List AV)[k]?).getD .top) [.int .i64 v218, .int .i64 v219, a1, a3] [.int .i64 v218, .int .i64 v219, .bptr (BR.root 0) [.int .i64 v220, .int .i64 v221, .bslc (BR.root 1) (.f32 v222)], .bptr (BR.root 2) [.int .i64 v223, .int .i64 v224, .bslc (BR.root 3) (.f32 v225)]] (fun F' h0 hi hρ => ⟨by simp [DVs.av, DV.av, BR.av, hρ], impl_product_1_fn v218 v219 v220 v221 v222 v223 v224 v225 F' (by rw [hi]; rfl) (st_nil hi) ⟨trivial, trivial, bptr_ok hi (by rw [h0]; simpa [DVs.av, DV.av, BR.av, hρ] using (cellsOf_ok hs (DVs.okAt ha 2 rfl) hcp0).1) ⟨trivial, trivial, bslc_ok hi (by rw [h0, hρ]; exact rowF32_ok hs (DVs.okAt (cellsOf_ok hs (DVs.okAt ha 2 rfl) hcp0).2 2 rfl) hv222), trivial⟩, bptr_ok hi (by rw [h0]; simpa [DVs.av, DV.av, BR.av, hρ] using (cellsOf_ok hs (DVs.okAt ha 3 rfl) hcp2).1) ⟨trivial, trivial, bslc_ok hi (by rw [h0, hρ]; exact rowF32_ok hs (DVs.okAt (cellsOf_ok hs (DVs.okAt ha 3 rfl) hcp2).2 2 rfl) hv225), trivial⟩, trivial⟩ hy⟩) rfl
      · cases hr
    · cases hr
  · cases hr
/-! (impl.Matrix).set -/
noncomputable def impl_Matrix_set_LO (v271 : Int) (v272 : Int) (v273 : List Nat) (v274 : Int) (v275 : Int) (v276 : Nat) : LOr := fun id e L =>
  match id with
  | _ => .fail
noncomputable def impl_Matrix_set_tab : List (FuncId × DFn × Bool) := []
theorem impl_Matrix_set_hO : OrcOk Try.prog (tabD impl_Matrix_set_tab) (tabM impl_Matrix_set_tab) := tabD_nil _
noncomputable def impl_Matrix_set_T (v272 : Int) (v273 : List Nat) (v274 : Int) (v275 : Int) : Tree (Unit) :=
  (.grd (inb (IntKind.i64.wrap ((IntKind.i64.wrap (v274 * v272)) + v275)) v273.length) <|
  .leaf ())

noncomputable def impl_Matrix_set_g (v272 : Int) (v273 : List Nat) (v274 : Int) (v275 : Int) : Option (Unit) := (impl_Matrix_set_T v272 v273 v274 v275).run
def impl_Matrix_set_enc (v271 : Int) (v272 : Int) (v273 : List Nat) (v274 : Int) (v275 : Int) (v276 : Nat) (y : Unit) : Rs := (.tup [], [.row (.f32 (List.set v273 (Int.toNat (IntKind.i64.wrap ((IntKind.i64.wrap (v274 * v272)) + v275))) v276)) 0])
theorem impl_Matrix_set_den (v271 : Int) (v272 : Int) (v273 : List Nat) (v274 : Int) (v275 : Int) (v276 : Nat) : (den TT (tabD impl_Matrix_set_tab) (tabM impl_Matrix_set_tab) (impl_Matrix_set_LO v271 v272 v273 v274 v275 v276) (codeOf Try.f66) ([.agg [.int .i64 v271, .int .i64 v272, .own 0 0 v273.length], .int .i64 v274, .int .i64 v275, .flt .f32 v276] ++ List.replicate (Try.f66.ntmps - ([.agg [.int .i64 v271, .int .i64 v272, .own 0 0 v273.length], .int .i64 v274, .int .i64 v275, .flt .f32 v276] : List DV).length) .undef) [.row (.f32 v273) 0]).bind (retD TT Try.f66.results.toList 1) = (impl_Matrix_set_T v272 v273 v274 v275).bind fun y => .leaf (impl_Matrix_set_enc v271 v272 v273 v274 v275 v276 y) := by kernel_rfl
theorem impl_Matrix_set_fn (v271 : Int) (v272 : Int) (v273 : List Nat) (v274 : Int) (v275 : Int) (v276 : Nat) (F : Fr) (hm : F.ids.length = 1) (h0 : St F [.row (.f32 v273) 0] F.H0) (hA : DVs.Ok F [.row (.f32 v273) 0] [.agg [.int .i64 v271, .int .i64 v272, .own 0 0 v273.length], .int .i64 v274, .int .i64 v275, .flt .f32 v276]) {y : Unit} (hy : impl_Matrix_set_g v272 v273 v274 v275 = some y) : ∃ H', FnOk Try.prog 66 (DVs.av F [.agg [.int .i64 v271, .int .i64 v272, .own 0 0 v273.length], .int .i64 v274, .int .i64 v275, .flt .f32 v276]) F.H0 ((impl_Matrix_set_enc v271 v272 v273 v274 v275 v276 y).1.av F) H' ∧ St F (impl_Matrix_set_enc v271 v272 v273 v274 v275 v276 y).2 H' ∧ (impl_Matrix_set_enc v271 v272 v273 v274 v275 v276 y).1.Ok F (impl_Matrix_set_enc v271 v272 v273 v274 v275 v276 y).2 :=
  fn_fin tok impl_Matrix_set_hO mixed Try.func66 Try.call66 (by kernel_rfl) (LoopsOk_eq (l := []) (by kernel_rfl) trivial) (impl_Matrix_set_den v271 v272 v273 v274 v275 v276) hy hm h0 hA
noncomputable def impl_Matrix_set_F : DFn := fun args L =>
  match args with
  | [.agg [.int .i64 v271, .int .i64 v272, a1], .int .i64 v274, .int .i64 v275, .flt .f32 v276] =>
    optT (ownF32 L a1) fun qv273 =>
    (match sepB [qv273.1] [] with
    | true =>
    .call (impl_Matrix_set_g v272 qv273.2 v274 v275) fun y => .grd (decide ((List.set qv273.2 (Int.toNat (IntKind.i64.wrap ((IntKind.i64.wrap (v274 * v272)) + v275))) v276).length = qv273.2.length)) (.leaf (.tup [], setRows L ([qv273.1].zip [.f32 (List.set qv273.2 (Int.toNat (IntKind.i64.wrap ((IntKind.i64.wrap (v274 * v272)) + v275))) v276)])))
    | false => .fail)
  | _ => .fail
theorem impl_Matrix_set_Fok : COk Try.prog 66 impl_Matrix_set_F false := by
  intro F L H args r L' hs ha hr
  unfold impl_Matrix_set_F at hr
  split at hr
  · rename_i v271 v272 a1 v274 v275 v276
    obtain ⟨⟨jv273, v273⟩, hqv273, hr⟩ := optT_run hr
    simp only at hr
    split at hr
    · rename_i hsep
      obtain ⟨hnd, hsepv⟩ := sepB_spec hsep
      simp only [Tree.run] at hr
      obtain ⟨y, hy, hr⟩ := Option.bind_eq_some_iff.1 hr
      try simp only [Tree.run] at hr
      obtain ⟨hl0, hr⟩ := ite_run hr
      simp only [Option.some.injEq, Prod.mk.injEq] at hr
      obtain ⟨rfl, rfl⟩ := hr
      obtain ⟨hr0, hu0, ha0, hb0⟩ := (ownR_spec (DVs.okAt (DVs.okAt ha 0 rfl) 2 rfl) (ownF32_or hqv273))
      exact mut_ok hs (fun k => (([a1.av F] : List AV)[k]?).getD .top) [.agg [.int .i64 v271, .int .i64 v272, a1], .int .i64 v274, .int .i64 v275, .flt .f32 v276] [.agg [.int .i64 v271, .int .i64 v272, .own 0 0 v273.length], .int .i64 v274, .int .i64 v275, .flt .f32 v276] [jv273] [.f32 v273] [.f32 (List.set v273 (Int.toNat (IntKind.i64.wrap ((IntKind.i64.wrap (v274 * v272)) + v275))) v276)] hnd rfl rfl (fun i j q h1 h2 => by
          rcases i with _ | i
          · simp at h1 h2; subst h1; subst h2; exact hr0
          · simp at h1) (fun i q q' h1 h2 => by
          rcases i with _ | i
          · simp at h1 h2; subst h1; subst h2; exact of_decide_eq_true hl0
          · simp at h1) (fun j hj => by simp at hj; subst hj; simp [DVs.refs, DV.refs, hu0]) (fun F' h0 hi hρ hst hS => ⟨by (have ab0 : F'.abs 0 = F.abs jv273 := (by simp [Fr.abs, hi]); simp [DVs.av, DV.av, BR.av, hρ, Row.len, ha0, ab0]), by
          obtain ⟨H1, k1, k2, _⟩ := impl_Matrix_set_fn v271 v272 v273 v274 v275 v276 F' (by rw [hi]; rfl) hst ⟨⟨trivial, trivial, ⟨_, rfl, Nat.le_refl _, Nat.le_refl _, fun _ => rfl, (ownR_spec (DVs.okAt (DVs.okAt ha 0 rfl) 2 rfl) (ownF32_or hqv273)).2.2.2⟩, trivial⟩, trivial, trivial, trivial, trivial⟩ hy
          exact ⟨H1, k1, k2⟩⟩) (fun F' => rfl) (fun L' => trivial)
    · cases hr
  · cases hr
/-! impl.made -/
noncomputable def impl_made_l2_T (v201 : Int) (v203 : Int) (v204 : List Nat) (v205 : Int) (v206 : Int) (v207 : List Nat) (v337 : Int) (v339 : Int) (v340 : Int) (s : Int × (List Nat)) : Tree ((Int × (List Nat)) ⊕ ((List Nat))) :=
  (.br (decide (s.1 < v201)) (
   (.call (impl_product_1_g v337 s.1 v203 v204 v205 v206 v207) fun v342 =>
   (.call (impl_Matrix_set_g v340 s.2 v337 s.1) fun v343 =>
   (.grd (decide ((List.set s.2 (Int.toNat (IntKind.i64.wrap ((IntKind.i64.wrap (v337 * v340)) + s.1))) v342).length = s.2.length)) <|
   .leaf (.inl (IntKind.i64.wrap (s.1 + (1 : Int)), List.set s.2 (Int.toNat (IntKind.i64.wrap ((IntKind.i64.wrap (v337 * v340)) + s.1))) v342)))))
  ) (
   .leaf (.inr s.2)
  ))

noncomputable def impl_made_l2_g (v201 : Int) (v203 : Int) (v204 : List Nat) (v205 : Int) (v206 : Int) (v207 : List Nat) (v337 : Int) (v339 : Int) (v340 : Int) (s0 : Int × (List Nat)) : Option ((List Nat)) := whileM (fun s => (impl_made_l2_T v201 v203 v204 v205 v206 v207 v337 v339 v340 s).run) s0
def impl_made_l2_E (v200 : Int) (v201 : Int) (v202 : Int) (v203 : Int) (v204 : List Nat) (v205 : Int) (v206 : Int) (v207 : List Nat) (v337 : Int) (v339 : Int) (v340 : Int) (s : Int × (List Nat)) : Sd := ([.top, .int .i64 v201, .fn 169 [.bptr (BR.root 0) [.int .i64 v202, .int .i64 v203, .bslc (BR.root 1) (.f32 v204)], .bptr (BR.root 2) [.int .i64 v205, .int .i64 v206, .bslc (BR.root 3) (.f32 v207)]], .top, .top, .top, .ptr 0 (0 : Nat) 0 (3 : Nat), .ptr 1 (0 : Nat) 0 (3 : Nat), .int .i64 v337, .top, .top, .top, .top, .int .i64 v200, .int .i64 v337, .top, .top, .int .i64 v201, .int .i64 s.1, .top, .top, .top, .top, .top, .top, .top, .top, .top, .top, .top, .top, .top], [.gen [.int .i64 (0 : Int), .int .i64 (0 : Int), .nilslc] false 0, .gen [.int .i64 v339, .int .i64 v340, .own 2 0 ((s.2).length)] false 0, .row (.f32 s.2) 0])
def impl_made_l2_X (v200 : Int) (v201 : Int) (v202 : Int) (v203 : Int) (v204 : List Nat) (v205 : Int) (v206 : Int) (v207 : List Nat) (v337 : Int) (v339 : Int) (v340 : Int) (x : (List Nat)) : Out := (.normal, [.top, .int .i64 v201, .fn 169 [.bptr (BR.root 0) [.int .i64 v202, .int .i64 v203, .bslc (BR.root 1) (.f32 v204)], .bptr (BR.root 2) [.int .i64 v205, .int .i64 v206, .bslc (BR.root 3) (.f32 v207)]], .top, .top, .top, .ptr 0 (0 : Nat) 0 (3 : Nat), .ptr 1 (0 : Nat) 0 (3 : Nat), .top, .top, .top, .top, .top, .int .i64 v200, .int .i64 v337, .top, .top, .top, .top, .top, .top, .top, .top, .top, .top, .top, .top, .top, .top, .top, .top, .top], [.gen [.int .i64 (0 : Int), .int .i64 (0 : Int), .nilslc] false 0, .gen [.int .i64 v339, .int .i64 v340, .own 2 0 ((x).length)] false 0, .row (.f32 x) 0])
def impl_made_l2_kill : List Nat := [1, 0, 0, 1, 1, 1, 0, 0, 0, 1, 1, 1, 1, 0, 0, 1, 1, 0, 0, 1, 1, 1, 1, 1, 1, 1, 1, 1, 1, 1, 1, 1]
def impl_made_l2_nx : Exit → List Nat
  | .exit 0 => [1, 1, 1, 1, 1, 1, 0, 0, 1, 1, 1, 1, 1, 1, 1, 1, 1, 1, 1, 1, 1, 1, 1, 1, 1, 1, 1, 1, 1, 1, 1, 1]
  | .exit 1 => [1, 0, 0, 1, 1, 1, 0, 0, 1, 1, 1, 1, 1, 0, 0, 1, 1, 1, 1, 1, 1, 1, 1, 1, 1, 1, 1, 1, 1, 1, 1, 1]
  | .exit 2 => [1, 0, 0, 1, 1, 1, 0, 0, 1, 1, 1, 1, 1, 0, 0, 1, 1, 1, 1, 1, 1, 1, 1, 1, 1, 1, 1, 1, 1, 1, 1, 1]
  | .ret => [1, 1, 1, 1, 1, 1, 0, 1, 1, 1, 1, 1, 1, 1, 1, 1, 1, 1, 1, 1, 1, 1, 1, 1, 1, 1, 1, 1, 1, 1, 1, 1]
  | _ => []
noncomputable def impl_made_l0_T (v200 : Int) (v201 : Int) (v202 : Int) (v203 : Int) (v204 : List Nat) (v205 : Int) (v206 : Int) (v207 : List Nat) (v320 : Int) (v321 : Int) (s : Int × (List Nat)) : Tree ((Int × (List Nat)) ⊕ ((List Nat))) :=
  (.br (decide (s.1 < v200)) (
   (.need (some (impl_made_l2_E v200 v201 v202 v203 v204 v205 v206 v207 s.1 v320 v321 ((0 : Int), s.2)) = some (impl_made_l2_E v200 v201 v202 v203 v204 v205 v206 v207 s.1 v320 v321 ((0 : Int), s.2))) <|
   (.call (impl_made_l2_g v201 v203 v204 v205 v206 v207 s.1 v320 v321 ((0 : Int), s.2)) fun v344 =>
   .leaf (.inl (IntKind.i64.wrap (s.1 + (1 : Int)), v344))))
  ) (
   .leaf (.inr s.2)
  ))

noncomputable def impl_made_l0_g (v200 : Int) (v201 : Int) (v202 : Int) (v203 : Int) (v204 : List Nat) (v205 : Int) (v206 : Int) (v207 : List Nat) (v320 : Int) (v321 : Int) (s0 : Int × (List Nat)) : Option ((List Nat)) := whileM (fun s => (impl_made_l0_T v200 v201 v202 v203 v204 v205 v206 v207 v320 v321 s).run) s0
def impl_made_l0_E (v200 : Int) (v201 : Int) (v202 : Int) (v203 : Int) (v204 : List Nat) (v205 : Int) (v206 : Int) (v207 : List Nat) (v320 : Int) (v321 : Int) (s : Int × (List Nat)) : Sd := ([.top, .int .i64 v201, .fn 169 [.bptr (BR.root 0) [.int .i64 v202, .int .i64 v203, .bslc (BR.root 1) (.f32 v204)], .bptr (BR.root 2) [.int .i64 v205, .int .i64 v206, .bslc (BR.root 3) (.f32 v207)]], .top, .top, .top, .ptr 0 (0 : Nat) 0 (3 : Nat), .ptr 1 (0 : Nat) 0 (3 : Nat), .top, .top, .top, .top, .top, .int .i64 v200, .int .i64 s.1, .top, .top, .top, .top, .top, .top, .top, .top, .top, .top, .top, .top, .top, .top, .top, .top, .top], [.gen [.int .i64 (0 : Int), .int .i64 (0 : Int), .nilslc] false 0, .gen [.int .i64 v320, .int .i64 v321, .own 2 0 ((s.2).length)] false 0, .row (.f32 s.2) 0])
def impl_made_l0_X (v200 : Int) (v201 : Int) (v202 : Int) (v203 : Int) (v204 : List Nat) (v205 : Int) (v206 : Int) (v207 : List Nat) (v320 : Int) (v321 : Int) (x : (List Nat)) : Out := (.normal, [.top, .top, .top, .top, .top, .top, .ptr 0 (0 : Nat) 0 (3 : Nat), .ptr 1 (0 : Nat) 0 (3 : Nat), .top, .top, .top, .top, .top, .top, .top, .top, .top, .top, .top, .top, .top, .top, .top, .top, .top, .top, .top, .top, .top, .top, .top, .top], [.gen [.int .i64 (0 : Int), .int .i64 (0 : Int), .nilslc] false 0, .gen [.int .i64 v320, .int .i64 v321, .own 2 0 ((x).length)] false 0, .row (.f32 x) 0])
def impl_made_l0_kill : List Nat := [1, 0, 0, 1, 1, 1, 0, 0, 1, 1, 1, 1, 1, 0, 0, 1, 1, 1, 1, 1, 1, 1, 1, 1, 1, 1, 1, 1, 1, 1, 1, 1]
def impl_made_l0_nx : Exit → List Nat
  | .exit 0 => [1, 1, 1, 1, 1, 1, 0, 0, 1, 1, 1, 1, 1, 1, 1, 1, 1, 1, 1, 1, 1, 1, 1, 1, 1, 1, 1, 1, 1, 1, 1, 1]
  | .ret => [1, 1, 1, 1, 1, 1, 0, 1, 1, 1, 1, 1, 1, 1, 1, 1, 1, 1, 1, 1, 1, 1, 1, 1, 1, 1, 1, 1, 1, 1, 1, 1]
  | _ => []
noncomputable def impl_made_LO (v200 : Int) (v201 : Int) (v202 : Int) (v203 : Int) (v204 : List Nat) (v205 : Int) (v206 : Int) (v207 : List Nat) : LOr := fun id e L =>
  match id with
  | 2 => .need (normA 0 impl_made_l2_kill e L = some (impl_made_l2_E v200 v201 v202 v203 v204 v205 v206 v207 (gI (vAt e 8)) (gI (cAt L (vAt e 7) 0)) (gI (cAt L (vAt e 7) 1)) ((gI (vAt e 18)), (gRF L (cAt L (vAt e 7) 2))))) (.call (impl_made_l2_g v201 v203 v204 v205 v206 v207 (gI (vAt e 8)) (gI (cAt L (vAt e 7) 0)) (gI (cAt L (vAt e 7) 1)) ((gI (vAt e 18)), (gRF L (cAt L (vAt e 7) 2)))) fun x => .leaf (impl_made_l2_X v200 v201 v202 v203 v204 v205 v206 v207 (gI (vAt e 8)) (gI (cAt L (vAt e 7) 0)) (gI (cAt L (vAt e 7) 1)) x))
  | 0 => .need (normA 0 impl_made_l0_kill e L = some (impl_made_l0_E v200 v201 v202 v203 v204 v205 v206 v207 (gI (cAt L (vAt e 7) 0)) (gI (cAt L (vAt e 7) 1)) ((gI (vAt e 14)), (gRF L (cAt L (vAt e 7) 2))))) (.call (impl_made_l0_g v200 v201 v202 v203 v204 v205 v206 v207 (gI (cAt L (vAt e 7) 0)) (gI (cAt L (vAt e 7) 1)) ((gI (vAt e 14)), (gRF L (cAt L (vAt e 7) 2)))) fun x => .leaf (impl_made_l0_X v200 v201 v202 v203 v204 v205 v206 v207 (gI (cAt L (vAt e 7) 0)) (gI (cAt L (vAt e 7) 1)) x))
  | _ => .fail
noncomputable def impl_made_tab : List (FuncId × DFn × Bool) := [(117, impl_newMatrix_F, true), (169, impl_product_1_F, true), (66, impl_Matrix_set_F, false)]
theorem impl_made_hO : OrcOk Try.prog (tabD impl_made_tab) (tabM impl_made_tab) := tabD_cons impl_newMatrix_Fok (tabD_cons impl_product_1_Fok (tabD_cons impl_Matrix_set_Fok (tabD_nil _)))
theorem impl_made_l2_be (v200 : Int) (v201 : Int) (v202 : Int) (v203 : Int) (v204 : List Nat) (v205 : Int) (v206 : Int) (v207 : List Nat) (v337 : Int) (v339 : Int) (v340 : Int) (s : Int × (List Nat)) : bodyT TT (tabD impl_made_tab) (tabM impl_made_tab) (impl_made_LO v200 v201 v202 v203 v204 v205 v206 v207) 0 impl_made_l2_kill impl_made_l2_nx (bodyOf Try.f78 2) 2 (impl_made_l2_E v200 v201 v202 v203 v204 v205 v206 v207 v337 v339 v340 s) = (impl_made_l2_T v201 v203 v204 v205 v206 v207 v337 v339 v340 s).bind fun y => .leaf (outS (impl_made_l2_E v200 v201 v202 v203 v204 v205 v206 v207 v337 v339 v340) (impl_made_l2_X v200 v201 v202 v203 v204 v205 v206 v207 v337 v339 v340) y) := by kernel_rfl
theorem impl_made_l2_ok (v200 : Int) (v201 : Int) (v202 : Int) (v203 : Int) (v204 : List Nat) (v205 : Int) (v206 : Int) (v207 : List Nat) : LSound Try.prog 0 (impl_made_LO v200 v201 v202 v203 v204 v205 v206 v207) 2 (bodyOf Try.f78 2) := by
  intro e L out h
  exact lo_ok (E := impl_made_l2_E v200 v201 v202 v203 v204 v205 v206 v207 (gI (vAt e 8)) (gI (cAt L (vAt e 7) 0)) (gI (cAt L (vAt e 7) 1))) (gT := impl_made_l2_T v201 v203 v204 v205 v206 v207 (gI (vAt e 8)) (gI (cAt L (vAt e 7) 0)) (gI (cAt L (vAt e 7) 1))) (X := impl_made_l2_X v200 v201 v202 v203 v204 v205 v206 v207 (gI (vAt e 8)) (gI (cAt L (vAt e 7) 0)) (gI (cAt L (vAt e 7) 1))) (s0 := ((gI (vAt e 18)), (gRF L (cAt L (vAt e 7) 2)))) tok impl_made_hO mixed (LoopsOk_eq (l := []) (by kernel_rfl) trivial) (impl_made_l2_be v200 v201 v202 v203 v204 v205 v206 v207 (gI (vAt e 8)) (gI (cAt L (vAt e 7) 0)) (gI (cAt L (vAt e 7) 1))) rfl (by intro x; rfl) h
theorem impl_made_l0_be (v200 : Int) (v201 : Int) (v202 : Int) (v203 : Int) (v204 : List Nat) (v205 : Int) (v206 : Int) (v207 : List Nat) (v320 : Int) (v321 : Int) (s : Int × (List Nat)) : bodyT TT (tabD impl_made_tab) (tabM impl_made_tab) (impl_made_LO v200 v201 v202 v203 v204 v205 v206 v207) 0 impl_made_l0_kill impl_made_l0_nx (bodyOf Try.f78 0) 0 (impl_made_l0_E v200 v201 v202 v203 v204 v205 v206 v207 v320 v321 s) = (impl_made_l0_T v200 v201 v202 v203 v204 v205 v206 v207 v320 v321 s).bind fun y => .leaf (outS (impl_made_l0_E v200 v201 v202 v203 v204 v205 v206 v207 v320 v321) (impl_made_l0_X v200 v201 v202 v203 v204 v205 v206 v207 v320 v321) y) := by kernel_rfl
theorem impl_made_l0_ok (v200 : Int) (v201 : Int) (v202 : Int) (v203 : Int) (v204 : List Nat) (v205 : Int) (v206 : Int) (v207 : List Nat) : LSound Try.prog 0 (impl_made_LO v200 v201 v202 v203 v204 v205 v206 v207) 0 (bodyOf Try.f78 0) := by
  intro e L out h
  exact lo_ok (E := impl_made_l0_E v200 v201 v202 v203 v204 v205 v206 v207 (gI (cAt L (vAt e 7) 0)) (gI (cAt L (vAt e 7) 1))) (gT := impl_made_l0_T v200 v201 v202 v203 v204 v205 v206 v207 (gI (cAt L (vAt e 7) 0)) (gI (cAt L (vAt e 7) 1))) (X := impl_made_l0_X v200 v201 v202 v203 v204 v205 v206 v207 (gI (cAt L (vAt e 7) 0)) (gI (cAt L (vAt e 7) 1))) (s0 := ((gI (vAt e 14)), (gRF L (cAt L (vAt e 7) 2)))) tok impl_made_hO mixed (LoopsOk_eq (l := [(2, bodyOf Try.f78 2)]) (by kernel_rfl) ⟨impl_made_l2_ok v200 v201 v202 v203 v204 v205 v206 v207, trivial⟩) (impl_made_l0_be v200 v201 v202 v203 v204 v205 v206 v207 (gI (cAt L (vAt e 7) 0)) (gI (cAt L (vAt e 7) 1))) rfl (by intro x; rfl) h
noncomputable def impl_made_T (v200 : Int) (v201 : Int) (v202 : Int) (v203 : Int) (v204 : List Nat) (v205 : Int) (v206 : Int) (v207 : List Nat) : Tree (Int × Int × (List Nat)) :=
  (.call (impl_newMatrix_g v200 v201) fun v210 =>
  (.need (some (impl_made_l0_E v200 v201 v202 v203 v204 v205 v206 v207 v210.1 v210.2 ((0 : Int), List.replicate (Int.toNat (IntKind.i64.wrap (v200 * v201))) (0 : Nat))) = some (impl_made_l0_E v200 v201 v202 v203 v204 v205 v206 v207 v210.1 v210.2 ((0 : Int), List.replicate (Int.toNat (IntKind.i64.wrap (v200 * v201))) (0 : Nat)))) <|
  (.call (impl_made_l0_g v200 v201 v202 v203 v204 v205 v206 v207 v210.1 v210.2 ((0 : Int), List.replicate (Int.toNat (IntKind.i64.wrap (v200 * v201))) (0 : Nat))) fun v345 =>
  .leaf (v210.1, v210.2, v345))))

noncomputable def impl_made_g (v200 : Int) (v201 : Int) (v202 : Int) (v203 : Int) (v204 : List Nat) (v205 : Int) (v206 : Int) (v207 : List Nat) : Option (Int × Int × (List Nat)) := (impl_made_T v200 v201 v202 v203 v204 v205 v206 v207).run
def impl_made_enc (v200 : Int) (v201 : Int) (v202 : Int) (v203 : Int) (v204 : List Nat) (v205 : Int) (v206 : Int) (v207 : List Nat) (y : Int × Int × (List Nat)) : Rs := (.agg [.int .i64 y.1, .int .i64 y.2.1, .own 0 0 ((y.2.2).length)], [.row (.f32 y.2.2) 0])
theorem impl_made_den (v200 : Int) (v201 : Int) (v202 : Int) (v203 : Int) (v204 : List Nat) (v205 : Int) (v206 : Int) (v207 : List Nat) : (den TT (tabD impl_made_tab) (tabM impl_made_tab) (impl_made_LO v200 v201 v202 v203 v204 v205 v206 v207) (codeOf Try.f78) ([.int .i64 v200, .int .i64 v201, .fn 169 [.bptr (BR.root 0) [.int .i64 v202, .int .i64 v203, .bslc (BR.root 1) (.f32 v204)], .bptr (BR.root 2) [.int .i64 v205, .int .i64 v206, .bslc (BR.root 3) (.f32 v207)]]] ++ List.replicate (Try.f78.ntmps - ([.int .i64 v200, .int .i64 v201, .fn 169 [.bptr (BR.root 0) [.int .i64 v202, .int .i64 v203, .bslc (BR.root 1) (.f32 v204)], .bptr (BR.root 2) [.int .i64 v205, .int .i64 v206, .bslc (BR.root 3) (.f32 v207)]]] : List DV).length) .undef) []).bind (retD TT Try.f78.results.toList 0) = (impl_made_T v200 v201 v202 v203 v204 v205 v206 v207).bind fun y => .leaf (impl_made_enc v200 v201 v202 v203 v204 v205 v206 v207 y) := by kernel_rfl
theorem impl_made_fn (v200 : Int) (v201 : Int) (v202 : Int) (v203 : Int) (v204 : List Nat) (v205 : Int) (v206 : Int) (v207 : List Nat) (F : Fr) (hm : F.ids.length = 0) (h0 : St F [] F.H0) (hA : DVs.Ok F [] [.int .i64 v200, .int .i64 v201, .fn 169 [.bptr (BR.root 0) [.int .i64 v202, .int .i64 v203, .bslc (BR.root 1) (.f32 v204)], .bptr (BR.root 2) [.int .i64 v205, .int .i64 v206, .bslc (BR.root 3) (.f32 v207)]]]) {y : Int × Int × (List Nat)} (hy : impl_made_g v200 v201 v202 v203 v204 v205 v206 v207 = some y) : ∃ H', FnOk Try.prog 78 (DVs.av F [.int .i64 v200, .int .i64 v201, .fn 169 [.bptr (BR.root 0) [.int .i64 v202, .int .i64 v203, .bslc (BR.root 1) (.f32 v204)], .bptr (BR.root 2) [.int .i64 v205, .int .i64 v206, .bslc (BR.root 3) (.f32 v207)]]]) F.H0 ((impl_made_enc v200 v201 v202 v203 v204 v205 v206 v207 y).1.av F) H' ∧ St F (impl_made_enc v200 v201 v202 v203 v204 v205 v206 v207 y).2 H' ∧ (impl_made_enc v200 v201 v202 v203 v204 v205 v206 v207 y).1.Ok F (impl_made_enc v200 v201 v202 v203 v204 v205 v206 v207 y).2 :=
  fn_fin tok impl_made_hO mixed Try.func78 Try.call78 (by kernel_rfl) (LoopsOk_eq (l := [(0, bodyOf Try.f78 0)]) (by kernel_rfl) ⟨impl_made_l0_ok v200 v201 v202 v203 v204 v205 v206 v207, trivial⟩) (impl_made_den v200 v201 v202 v203 v204 v205 v206 v207) hy hm h0 hA
noncomputable def impl_made_F : DFn := fun args L =>
  match args with
  | [.int .i64 v200, .int .i64 v201, .fn 169 [a1, a3]] =>
    optT (cellsOf L 3 a1) fun cs0 =>
    (match cs0 with
    | [.int .i64 v202, .int .i64 v203, a2] =>
    optT (rowF32 L a2) fun v204 =>
    optT (cellsOf L 3 a3) fun cs2 =>
    (match cs2 with
    | [.int .i64 v205, .int .i64 v206, a4] =>
    optT (rowF32 L a4) fun v207 =>
    .call (impl_made_g v200 v201 v202 v203 v204 v205 v206 v207) fun y => .leaf (.agg [.int .i64 y.1, .int .i64 y.2.1, .own (L.length + 0) 0 ((y.2.2).length)], L ++ [.row (.f32 y.2.2) 0])
    | _ => .fail)
    | _ => .fail)
  | _ => .fail
theorem impl_made_Fok : COk Try.prog 78 impl_made_F true := by
  intro F L H args r L' hs ha hr
  unfold impl_made_F at hr
  split at hr
  · rename_i v200 v201 a1 a3
    obtain ⟨cs0, hcp0, hr⟩ := optT_run hr
    split at hr
    · rename_i v202 v203 a2
      obtain ⟨v204, hv204, hr⟩ := optT_run hr
      obtain ⟨cs2, hcp2, hr⟩ := optT_run hr
      split at hr
      · rename_i v205 v206 a4
        obtain ⟨v207, hv207, hr⟩ := optT_run hr
        simp only [Tree.run] at hr
        obtain ⟨y, hy, hr⟩ := Option.bind_eq_some_iff.1 hr
        simp only [Tree.run, Option.some.injEq, Prod.mk.injEq] at hr
        obtain ⟨rfl, rfl⟩ := hr
        exact call_ok1 hs (fun k => (([a1.av F, a2.av F, a3.av F, a4.av F] : List AV)[k]?).getD .top) [.int .i64 v200, .int .i64 v201, .fn 169 [a1, a3]] [.int .i64 v200, .int .i64 v201, .fn 169 [.bptr (BR.root 0) [.int .i64 v202, .int .i64 v203, .bslc (BR.root 1) (.f32 v204)], .bptr (BR.root 2) [.int .i64 v205, .int .i64 v206, .bslc (BR.root 3) (.f32 v207)]]] (fun F' h0 hi hρ => ⟨by simp [DVs.av, DV.av, BR.av, hρ], impl_made_fn v200 v201 v202 v203 v204 v205 v206 v207 F' (by rw [hi]; rfl) (st_nil hi) ⟨trivial, trivial, ⟨bptr_ok hi (by rw [h0]; simpa [DVs.av, DV.av, BR.av, hρ] using (cellsOf_ok hs (DVs.okAt (DVs.okAt ha 2 rfl) 0 rfl) hcp0).1) ⟨trivial, trivial, bslc_ok hi (by rw [h0, hρ]; exact rowF32_ok hs (DVs.okAt (cellsOf_ok hs (DVs.okAt (DVs.okAt ha 2 rfl) 0 rfl) hcp0).2 2 rfl) hv204), trivial⟩, bptr_ok hi (by rw [h0]; simpa [DVs.av, DV.av, BR.av, hρ] using (cellsOf_ok hs (DVs.okAt (DVs.okAt ha 2 rfl) 1 rfl) hcp2).1) ⟨trivial, trivial, bslc_ok hi (by rw [h0, hρ]; exact rowF32_ok hs (DVs.okAt (cellsOf_ok hs (DVs.okAt (DVs.okAt ha 2 rfl) 1 rfl) hcp2).2 2 rfl) hv207), trivial⟩, trivial⟩, trivial⟩ hy⟩) rfl rfl
      · cases hr
    · cases hr
  · cases hr
/-! impl.product -/
noncomputable def impl_product_LO (v194 : Int) (v195 : Int) (v196 : List Nat) (v197 : Int) (v198 : Int) (v199 : List Nat) : LOr := fun id e L =>
  match id with
  | _ => .fail
noncomputable def impl_product_tab : List (FuncId × DFn × Bool) := [(78, impl_made_F, true)]
theorem impl_product_hO : OrcOk Try.prog (tabD impl_product_tab) (tabM impl_product_tab) := tabD_cons impl_made_Fok (tabD_nil _)
noncomputable def impl_product_T (v194 : Int) (v195 : Int) (v196 : List Nat) (v197 : Int) (v198 : Int) (v199 : List Nat) : Tree (Int × Int × (List Nat)) :=
  (.call (impl_made_g v194 v198 v194 v195 v196 v197 v198 v199) fun v346 =>
  .leaf (v346.1, v346.2.1, v346.2.2))

noncomputable def impl_product_g (v194 : Int) (v195 : Int) (v196 : List Nat) (v197 : Int) (v198 : Int) (v199 : List Nat) : Option (Int × Int × (List Nat)) := (impl_product_T v194 v195 v196 v197 v198 v199).run
def impl_product_enc (v194 : Int) (v195 : Int) (v196 : List Nat) (v197 : Int) (v198 : Int) (v199 : List Nat) (y : Int × Int × (List Nat)) : Rs := (.agg [.int .i64 y.1, .int .i64 y.2.1, .own 0 0 ((y.2.2).length)], [.row (.f32 y.2.2) 0])
theorem impl_product_den (v194 : Int) (v195 : Int) (v196 : List Nat) (v197 : Int) (v198 : Int) (v199 : List Nat) : (den TT (tabD impl_product_tab) (tabM impl_product_tab) (impl_product_LO v194 v195 v196 v197 v198 v199) (codeOf Try.f140) ([.agg [.int .i64 v194, .int .i64 v195, .bslc (BR.root 0) (.f32 v196)], .agg [.int .i64 v197, .int .i64 v198, .bslc (BR.root 1) (.f32 v199)]] ++ List.replicate (Try.f140.ntmps - ([.agg [.int .i64 v194, .int .i64 v195, .bslc (BR.root 0) (.f32 v196)], .agg [.int .i64 v197, .int .i64 v198, .bslc (BR.root 1) (.f32 v199)]] : List DV).length) .undef) []).bind (retD TT Try.f140.results.toList 0) = (impl_product_T v194 v195 v196 v197 v198 v199).bind fun y => .leaf (impl_product_enc v194 v195 v196 v197 v198 v199 y) := by kernel_rfl
theorem impl_product_fn (v194 : Int) (v195 : Int) (v196 : List Nat) (v197 : Int) (v198 : Int) (v199 : List Nat) (F : Fr) (hm : F.ids.length = 0) (h0 : St F [] F.H0) (hA : DVs.Ok F [] [.agg [.int .i64 v194, .int .i64 v195, .bslc (BR.root 0) (.f32 v196)], .agg [.int .i64 v197, .int .i64 v198, .bslc (BR.root 1) (.f32 v199)]]) {y : Int × Int × (List Nat)} (hy : impl_product_g v194 v195 v196 v197 v198 v199 = some y) : ∃ H', FnOk Try.prog 140 (DVs.av F [.agg [.int .i64 v194, .int .i64 v195, .bslc (BR.root 0) (.f32 v196)], .agg [.int .i64 v197, .int .i64 v198, .bslc (BR.root 1) (.f32 v199)]]) F.H0 ((impl_product_enc v194 v195 v196 v197 v198 v199 y).1.av F) H' ∧ St F (impl_product_enc v194 v195 v196 v197 v198 v199 y).2 H' ∧ (impl_product_enc v194 v195 v196 v197 v198 v199 y).1.Ok F (impl_product_enc v194 v195 v196 v197 v198 v199 y).2 :=
  fn_fin tok impl_product_hO mixed Try.func140 Try.call140 (by kernel_rfl) (LoopsOk_eq (l := []) (by kernel_rfl) trivial) (impl_product_den v194 v195 v196 v197 v198 v199) hy hm h0 hA
noncomputable def impl_product_F : DFn := fun args L =>
  match args with
  | [.agg [.int .i64 v194, .int .i64 v195, a1], .agg [.int .i64 v197, .int .i64 v198, a2]] =>
    optT (rowF32 L a1) fun v196 =>
    optT (rowF32 L a2) fun v199 =>
    .call (impl_product_g v194 v195 v196 v197 v198 v199) fun y => .leaf (.agg [.int .i64 y.1, .int .i64 y.2.1, .own (L.length + 0) 0 ((y.2.2).length)], L ++ [.row (.f32 y.2.2) 0])
  | _ => .fail
theorem impl_product_Fok : COk Try.prog 140 impl_product_F true := by
  intro F L H args r L' hs ha hr
  unfold impl_product_F at hr
  split at hr
  · rename_i v194 v195 a1 v197 v198 a2
    obtain ⟨v196, hv196, hr⟩ := optT_run hr
    obtain ⟨v199, hv199, hr⟩ := optT_run hr
    simp only [Tree.run] at hr
    obtain ⟨y, hy, hr⟩ := Option.bind_eq_some_iff.1 hr
    simp only [Tree.run, Option.some.injEq, Prod.mk.injEq] at hr
    obtain ⟨rfl, rfl⟩ := hr
    exact call_ok1 hs (fun k => (([a1.av F, a2.av F] : List AV)[k]?).getD .top) [.agg [.int .i64 v194, .int .i64 v195, a1], .agg [.int .i64 v197, .int .i64 v198, a2]] [.agg [.int .i64 v194, .int .i64 v195, .bslc (BR.root 0) (.f32 v196)], .agg [.int .i64 v197, .int .i64 v198, .bslc (BR.root 1) (.f32 v199)]] (fun F' h0 hi hρ => ⟨by simp [DVs.av, DV.av, BR.av, hρ], impl_product_fn v194 v195 v196 v197 v198 v199 F' (by rw [hi]; rfl) (st_nil hi) ⟨⟨trivial, trivial, bslc_ok hi (by rw [h0, hρ]; exact rowF32_ok hs (DVs.okAt (DVs.okAt ha 0 rfl) 2 rfl) hv196), trivial⟩, ⟨trivial, trivial, bslc_ok hi (by rw [h0, hρ]; exact rowF32_ok hs (DVs.okAt (DVs.okAt ha 1 rfl) 2 rfl) hv199), trivial⟩, trivial⟩ hy⟩) rfl rfl
  · cases hr
/-! (impl.Matrix).valid -/
noncomputable def impl_Matrix_valid_LO (v348 : Int) (v349 : Int) (v350 : List Nat) : LOr := fun id e L =>
  match id with
  | _ => .fail
noncomputable def impl_Matrix_valid_tab : List (FuncId × DFn × Bool) := [(67, impl_ValidMatrix_F, true)]
theorem impl_Matrix_valid_hO : OrcOk Try.prog (tabD impl_Matrix_valid_tab) (tabM impl_Matrix_valid_tab) := tabD_cons impl_ValidMatrix_Fok (tabD_nil _)
noncomputable def impl_Matrix_valid_T (v348 : Int) (v349 : Int) (v350 : List Nat) : Tree ((Unit) ⊕ (Int × Int)) :=
  (.call (impl_ValidMatrix_g v348 v349 v350) fun v351 =>
  (.br (!v351) (
   .leaf (.inl ())
  ) (
   .leaf (.inr (v348, v349))
  )))

noncomputable def impl_Matrix_valid_g (v348 : Int) (v349 : Int) (v350 : List Nat) : Option ((Unit) ⊕ (Int × Int)) := (impl_Matrix_valid_T v348 v349 v350).run
def impl_Matrix_valid_enc (v348 : Int) (v349 : Int) (v350 : List Nat) (y : (Unit) ⊕ (Int × Int)) : Rs := (match y with | .inl y => (.tup [.agg [.int .i64 (0 : Int), .int .i64 (0 : Int), .nilslc], .lit false], []) | .inr y => (.tup [.agg [.int .i64 y.1, .int .i64 y.2, .bslc (BR.root 0) (.f32 v350)], .lit true], []))
theorem impl_Matrix_valid_den (v348 : Int) (v349 : Int) (v350 : List Nat) : (den TT (tabD impl_Matrix_valid_tab) (tabM impl_Matrix_valid_tab) (impl_Matrix_valid_LO v348 v349 v350) (codeOf Try.f83) ([.agg [.int .i64 v348, .int .i64 v349, .bslc (BR.root 0) (.f32 v350)]] ++ List.replicate (Try.f83.ntmps - ([.agg [.int .i64 v348, .int .i64 v349, .bslc (BR.root 0) (.f32 v350)]] : List DV).length) .undef) []).bind (retD TT Try.f83.results.toList 0) = (impl_Matrix_valid_T v348 v349 v350).bind fun y => .leaf (impl_Matrix_valid_enc v348 v349 v350 y) := by kernel_rfl
theorem impl_Matrix_valid_fn (v348 : Int) (v349 : Int) (v350 : List Nat) (F : Fr) (hm : F.ids.length = 0) (h0 : St F [] F.H0) (hA : DVs.Ok F [] [.agg [.int .i64 v348, .int .i64 v349, .bslc (BR.root 0) (.f32 v350)]]) {y : (Unit) ⊕ (Int × Int)} (hy : impl_Matrix_valid_g v348 v349 v350 = some y) : ∃ H', FnOk Try.prog 83 (DVs.av F [.agg [.int .i64 v348, .int .i64 v349, .bslc (BR.root 0) (.f32 v350)]]) F.H0 ((impl_Matrix_valid_enc v348 v349 v350 y).1.av F) H' ∧ St F (impl_Matrix_valid_enc v348 v349 v350 y).2 H' ∧ (impl_Matrix_valid_enc v348 v349 v350 y).1.Ok F (impl_Matrix_valid_enc v348 v349 v350 y).2 :=
  fn_fin tok impl_Matrix_valid_hO mixed Try.func83 Try.call83 (by kernel_rfl) (LoopsOk_eq (l := []) (by kernel_rfl) trivial) (impl_Matrix_valid_den v348 v349 v350) hy hm h0 hA
noncomputable def impl_Matrix_valid_F : DFn := fun args L =>
  match args with
  | [.agg [.int .i64 v348, .int .i64 v349, a1]] =>
    optT (rowF32 L a1) fun v350 =>
    .call (impl_Matrix_valid_g v348 v349 v350) fun y => .sum y (fun y0 => .leaf (.tup [.agg [.int .i64 (0 : Int), .int .i64 (0 : Int), .nilslc], .lit false], L)) (fun z0 => .leaf (.tup [.agg [.int .i64 z0.1, .int .i64 z0.2, a1], .lit true], L))
  | _ => .fail
theorem impl_Matrix_valid_Fok : COk Try.prog 83 impl_Matrix_valid_F true := by
  intro F L H args r L' hs ha hr
  unfold impl_Matrix_valid_F at hr
  split at hr
  · rename_i v348 v349 a1
    obtain ⟨v350, hv350, hr⟩ := optT_run hr
    simp only [Tree.run] at hr
    obtain ⟨y, hy, hr⟩ := Option.bind_eq_some_iff.1 hr
    cases y with
    | inl y =>
      simp only [Tree.run, Option.some.injEq, Prod.mk.injEq] at hr
      obtain ⟨rfl, rfl⟩ := hr
      exact call_ok0 hs (fun k => (([a1.av F] : List AV)[k]?).getD .top) [.agg [.int .i64 v348, .int .i64 v349, a1]] [.agg [.int .i64 v348, .int .i64 v349, .bslc (BR.root 0) (.f32 v350)]] (fun F' h0 hi hρ => ⟨by simp [DVs.av, DV.av, BR.av, hρ], impl_Matrix_valid_fn v348 v349 v350 F' (by rw [hi]; rfl) (st_nil hi) ⟨⟨trivial, trivial, bslc_ok hi (by rw [h0, hρ]; exact rowF32_ok hs (DVs.okAt (DVs.okAt ha 0 rfl) 2 rfl) hv350), trivial⟩, trivial⟩ hy⟩) rfl
    | inr y =>
      simp only [Tree.run, Option.some.injEq, Prod.mk.injEq] at hr
      obtain ⟨rfl, rfl⟩ := hr
      exact call_al0 hs (fun k => (([a1.av F] : List AV)[k]?).getD .top) [.agg [.int .i64 v348, .int .i64 v349, a1]] [.agg [.int .i64 v348, .int .i64 v349, .bslc (BR.root 0) (.f32 v350)]] (fun F' h0 hi hρ => ⟨by simp [DVs.av, DV.av, BR.av, hρ], impl_Matrix_valid_fn v348 v349 v350 F' (by rw [hi]; rfl) (st_nil hi) ⟨⟨trivial, trivial, bslc_ok hi (by rw [h0, hρ]; exact rowF32_ok hs (DVs.okAt (DVs.okAt ha 0 rfl) 2 rfl) hv350), trivial⟩, trivial⟩ hy⟩) (fun F' h0 hi hρ => by simp [impl_Matrix_valid_enc, DVs.av, DV.av, BR.av, hρ]) ⟨⟨trivial, trivial, (DVs.okAt (DVs.okAt ha 0 rfl) 2 rfl), trivial⟩, trivial, trivial⟩
  · cases hr
/-! impl.MulMatrices -/
noncomputable def impl_MulMatrices_LO (v156 : Int) (v157 : Int) (v158 : List Nat) (v159 : Int) (v160 : Int) (v161 : List Nat) : LOr := fun id e L =>
  match id with
  | _ => .fail
noncomputable def impl_MulMatrices_tab : List (FuncId × DFn × Bool) := [(76, impl_areFactors_F, true), (140, impl_product_F, true), (83, impl_Matrix_valid_F, true)]
theorem impl_MulMatrices_hO : OrcOk Try.prog (tabD impl_MulMatrices_tab) (tabM impl_MulMatrices_tab) := tabD_cons impl_areFactors_Fok (tabD_cons impl_product_Fok (tabD_cons impl_Matrix_valid_Fok (tabD_nil _)))
noncomputable def impl_MulMatrices_T (v156 : Int) (v157 : Int) (v158 : List Nat) (v159 : Int) (v160 : Int) (v161 : List Nat) : Tree ((Unit) ⊕ (Int × Int × (List Nat))) :=
  (.call (impl_areFactors_g v156 v157 v158 v159 v160 v161) fun v193 =>
  (.br (!v193) (
   .leaf (.inl ())
  ) (
   (.call (impl_product_g v156 v157 v158 v159 v160 v161) fun v347 =>
   (.call (impl_Matrix_valid_g v347.1 v347.2.1 v347.2.2) fun v352 =>
   (.sum v352 (fun v353 =>
    .leaf (.inl ())
   ) (fun v354 =>
    .leaf (.inr (v354.1, v354.2, v347.2.2))
   ))))
  )))

noncomputable def impl_MulMatrices_g (v156 : Int) (v157 : Int) (v158 : List Nat) (v159 : Int) (v160 : Int) (v161 : List Nat) : Option ((Unit) ⊕ (Int × Int × (List Nat))) := (impl_MulMatrices_T v156 v157 v158 v159 v160 v161).run
def impl_MulMatrices_enc (v156 : Int) (v157 : Int) (v158 : List Nat) (v159 : Int) (v160 : Int) (v161 : List Nat) (y : (Unit) ⊕ (Int × Int × (List Nat))) : Rs := (match y with | .inl y => (.tup [.agg [.int .i64 (0 : Int), .int .i64 (0 : Int), .nilslc], .lit false], []) | .inr y => (.tup [.agg [.int .i64 y.1, .int .i64 y.2.1, .own 0 0 ((y.2.2).length)], .lit true], [.row (.f32 y.2.2) 0]))
theorem impl_MulMatrices_den (v156 : Int) (v157 : Int) (v158 : List Nat) (v159 : Int) (v160 : Int) (v161 : List Nat) : (den TT (tabD impl_MulMatrices_tab) (tabM impl_MulMatrices_tab) (impl_MulMatrices_LO v156 v157 v158 v159 v160 v161) (codeOf Try.f74) ([.agg [.int .i64 v156, .int .i64 v157, .bslc (BR.root 0) (.f32 v158)], .agg [.int .i64 v159, .int .i64 v160, .bslc (BR.root 1) (.f32 v161)]] ++ List.replicate (Try.f74.ntmps - ([.agg [.int .i64 v156, .int .i64 v157, .bslc (BR.root 0) (.f32 v158)], .agg [.int .i64 v159, .int .i64 v160, .bslc (BR.root 1) (.f32 v161)]] : List DV).length) .undef) []).bind (retD TT Try.f74.results.toList 0) = (impl_MulMatrices_T v156 v157 v158 v159 v160 v161).bind fun y => .leaf (impl_MulMatrices_enc v156 v157 v158 v159 v160 v161 y) := by kernel_rfl
theorem impl_MulMatrices_fn (v156 : Int) (v157 : Int) (v158 : List Nat) (v159 : Int) (v160 : Int) (v161 : List Nat) (F : Fr) (hm : F.ids.length = 0) (h0 : St F [] F.H0) (hA : DVs.Ok F [] [.agg [.int .i64 v156, .int .i64 v157, .bslc (BR.root 0) (.f32 v158)], .agg [.int .i64 v159, .int .i64 v160, .bslc (BR.root 1) (.f32 v161)]]) {y : (Unit) ⊕ (Int × Int × (List Nat))} (hy : impl_MulMatrices_g v156 v157 v158 v159 v160 v161 = some y) : ∃ H', FnOk Try.prog 74 (DVs.av F [.agg [.int .i64 v156, .int .i64 v157, .bslc (BR.root 0) (.f32 v158)], .agg [.int .i64 v159, .int .i64 v160, .bslc (BR.root 1) (.f32 v161)]]) F.H0 ((impl_MulMatrices_enc v156 v157 v158 v159 v160 v161 y).1.av F) H' ∧ St F (impl_MulMatrices_enc v156 v157 v158 v159 v160 v161 y).2 H' ∧ (impl_MulMatrices_enc v156 v157 v158 v159 v160 v161 y).1.Ok F (impl_MulMatrices_enc v156 v157 v158 v159 v160 v161 y).2 :=
  fn_fin tok impl_MulMatrices_hO mixed Try.func74 Try.call74 (by kernel_rfl) (LoopsOk_eq (l := []) (by kernel_rfl) trivial) (impl_MulMatrices_den v156 v157 v158 v159 v160 v161) hy hm h0 hA
noncomputable def impl_MulMatrices_F : DFn := fun args L =>
  match args with
  | [.agg [.int .i64 v156, .int .i64 v157, a1], .agg [.int .i64 v159, .int .i64 v160, a2]] =>
    optT (rowF32 L a1) fun v158 =>
    optT (rowF32 L a2) fun v161 =>
    .call (impl_MulMatrices_g v156 v157 v158 v159 v160 v161) fun y => .sum y (fun y0 => .leaf (.tup [.agg [.int .i64 (0 : Int), .int .i64 (0 : Int), .nilslc], .lit false], L)) (fun z0 => .leaf (.tup [.agg [.int .i64 z0.1, .int .i64 z0.2.1, .own (L.length + 0) 0 ((z0.2.2).length)], .lit true], L ++ [.row (.f32 z0.2.2) 0]))
  | _ => .fail
theorem impl_MulMatrices_Fok : COk Try.prog 74 impl_MulMatrices_F true := by
  intro F L H args r L' hs ha hr
  unfold impl_MulMatrices_F at hr
  split at hr
  · rename_i v156 v157 a1 v159 v160 a2
    obtain ⟨v158, hv158, hr⟩ := optT_run hr
    obtain ⟨v161, hv161, hr⟩ := optT_run hr
    simp only [Tree.run] at hr
    obtain ⟨y, hy, hr⟩ := Option.bind_eq_some_iff.1 hr
    cases y with
    | inl y =>
      simp only [Tree.run, Option.some.injEq, Prod.mk.injEq] at hr
      obtain ⟨rfl, rfl⟩ := hr
      exact call_ok0 hs (fun k => (([a1.av F, a2.av F] : List AV)[k]?).getD .top) [.agg [.int .i64 v156, .int .i64 v157, a1], .agg [.int .i64 v159, .int .i64 v160, a2]] [.agg [.int .i64 v156, .int .i64 v157, .bslc (BR.root 0) (.f32 v158)], .agg [.int .i64 v159, .int .i64 v160, .bslc (BR.root 1) (.f32 v161)]] (fun F' h0 hi hρ => ⟨by simp [DVs.av, DV.av, BR.av, hρ], impl_MulMatrices_fn v156 v157 v158 v159 v160 v161 F' (by rw [hi]; rfl) (st_nil hi) ⟨⟨trivial, trivial, bslc_ok hi (by rw [h0, hρ]; exact rowF32_ok hs (DVs.okAt (DVs.okAt ha 0 rfl) 2 rfl) hv158), trivial⟩, ⟨trivial, trivial, bslc_ok hi (by rw [h0, hρ]; exact rowF32_ok hs (DVs.okAt (DVs.okAt ha 1 rfl) 2 rfl) hv161), trivial⟩, trivial⟩ hy⟩) rfl
    | inr y =>
      simp only [Tree.run, Option.some.injEq, Prod.mk.injEq] at hr
      obtain ⟨rfl, rfl⟩ := hr
      exact call_ok1 hs (fun k => (([a1.av F, a2.av F] : List AV)[k]?).getD .top) [.agg [.int .i64 v156, .int .i64 v157, a1], .agg [.int .i64 v159, .int .i64 v160, a2]] [.agg [.int .i64 v156, .int .i64 v157, .bslc (BR.root 0) (.f32 v158)], .agg [.int .i64 v159, .int .i64 v160, .bslc (BR.root 1) (.f32 v161)]] (fun F' h0 hi hρ => ⟨by simp [DVs.av, DV.av, BR.av, hρ], impl_MulMatrices_fn v156 v157 v158 v159 v160 v161 F' (by rw [hi]; rfl) (st_nil hi) ⟨⟨trivial, trivial, bslc_ok hi (by rw [h0, hρ]; exact rowF32_ok hs (DVs.okAt (DVs.okAt ha 0 rfl) 2 rfl) hv158), trivial⟩, ⟨trivial, trivial, bslc_ok hi (by rw [h0, hρ]; exact rowF32_ok hs (DVs.okAt (DVs.okAt ha 1 rfl) 2 rfl) hv161), trivial⟩, trivial⟩ hy⟩) rfl rfl
  · cases hr
/-! impl.MulShared -/
noncomputable def impl_MulShared_LO (v146 : Int) (v147 : Int) (v148 : List Nat) (v149 : Int) (v150 : Int) (v151 : List Nat) (v152 : Int) : LOr := fun id e L =>
  match id with
  | _ => .fail
noncomputable def impl_MulShared_tab : List (FuncId × DFn × Bool) := [(73, impl_inRange_F, true), (74, impl_MulMatrices_F, true)]
theorem impl_MulShared_hO : OrcOk Try.prog (tabD impl_MulShared_tab) (tabM impl_MulShared_tab) := tabD_cons impl_inRange_Fok (tabD_cons impl_MulMatrices_Fok (tabD_nil _))
noncomputable def impl_MulShared_T (v146 : Int) (v147 : Int) (v148 : List Nat) (v149 : Int) (v150 : Int) (v151 : List Nat) (v152 : Int) : Tree ((Unit) ⊕ (Int × Int × (List Nat))) :=
  (.br (!(impl_inRange_v v152 (1 : Int) (8 : Int))) (
   .leaf (.inl ())
  ) (
   (.call (impl_MulMatrices_g v146 v147 v148 v149 v150 v151) fun v355 =>
   (.sum v355 (fun v356 =>
    .leaf (.inl ())
   ) (fun v357 =>
    .leaf (.inr (v357.1, v357.2.1, v357.2.2))
   )))
  ))

noncomputable def impl_MulShared_g (v146 : Int) (v147 : Int) (v148 : List Nat) (v149 : Int) (v150 : Int) (v151 : List Nat) (v152 : Int) : Option ((Unit) ⊕ (Int × Int × (List Nat))) := (impl_MulShared_T v146 v147 v148 v149 v150 v151 v152).run
def impl_MulShared_enc (v146 : Int) (v147 : Int) (v148 : List Nat) (v149 : Int) (v150 : Int) (v151 : List Nat) (v152 : Int) (y : (Unit) ⊕ (Int × Int × (List Nat))) : Rs := (match y with | .inl y => (.tup [.agg [.int .i64 (0 : Int), .int .i64 (0 : Int), .nilslc], .lit false], []) | .inr y => (.tup [.agg [.int .i64 y.1, .int .i64 y.2.1, .own 0 0 ((y.2.2).length)], .lit true], [.row (.f32 y.2.2) 0]))
theorem impl_MulShared_den (v146 : Int) (v147 : Int) (v148 : List Nat) (v149 : Int) (v150 : Int) (v151 : List Nat) (v152 : Int) : (den TT (tabD impl_MulShared_tab) (tabM impl_MulShared_tab) (impl_MulShared_LO v146 v147 v148 v149 v150 v151 v152) (codeOf Try.f26) ([.agg [.int .i64 v146, .int .i64 v147, .bslc (BR.root 0) (.f32 v148)], .agg [.int .i64 v149, .int .i64 v150, .bslc (BR.root 1) (.f32 v151)], .int .i64 v152] ++ List.replicate (Try.f26.ntmps - ([.agg [.int .i64 v146, .int .i64 v147, .bslc (BR.root 0) (.f32 v148)], .agg [.int .i64 v149, .int .i64 v150, .bslc (BR.root 1) (.f32 v151)], .int .i64 v152] : List DV).length) .undef) []).bind (retD TT Try.f26.results.toList 0) = (impl_MulShared_T v146 v147 v148 v149 v150 v151 v152).bind fun y => .leaf (impl_MulShared_enc v146 v147 v148 v149 v150 v151 v152 y) := by kernel_rfl
theorem impl_MulShared_fn (v146 : Int) (v147 : Int) (v148 : List Nat) (v149 : Int) (v150 : Int) (v151 : List Nat) (v152 : Int) (F : Fr) (hm : F.ids.length = 0) (h0 : St F [] F.H0) (hA : DVs.Ok F [] [.agg [.int .i64 v146, .int .i64 v147, .bslc (BR.root 0) (.f32 v148)], .agg [.int .i64 v149, .int .i64 v150, .bslc (BR.root 1) (.f32 v151)], .int .i64 v152]) {y : (Unit) ⊕ (Int × Int × (List Nat))} (hy : impl_MulShared_g v146 v147 v148 v149 v150 v151 v152 = some y) : ∃ H', FnOk Try.prog 26 (DVs.av F [.agg [.int .i64 v146, .int .i64 v147, .bslc (BR.root 0) (.f32 v148)], .agg [.int .i64 v149, .int .i64 v150, .bslc (BR.root 1) (.f32 v151)], .int .i64 v152]) F.H0 ((impl_MulShared_enc v146 v147 v148 v149 v150 v151 v152 y).1.av F) H' ∧ St F (impl_MulShared_enc v146 v147 v148 v149 v150 v151 v152 y).2 H' ∧ (impl_MulShared_enc v146 v147 v148 v149 v150 v151 v152 y).1.Ok F (impl_MulShared_enc v146 v147 v148 v149 v150 v151 v152 y).2 :=
  fn_fin tok impl_MulShared_hO mixed Try.func26 Try.call26 (by kernel_rfl) (LoopsOk_eq (l := []) (by kernel_rfl) trivial) (impl_MulShared_den v146 v147 v148 v149 v150 v151 v152) hy hm h0 hA
noncomputable def impl_MulShared_F : DFn := fun args L =>
  match args with
  | [.agg [.int .i64 v146, .int .i64 v147, a1], .agg [.int .i64 v149, .int .i64 v150, a2], .int .i64 v152] =>
    optT (rowF32 L a1) fun v148 =>
    optT (rowF32 L a2) fun v151 =>
    .call (impl_MulShared_g v146 v147 v148 v149 v150 v151 v152) fun y => .sum y (fun y0 => .leaf (.tup [.agg [.int .i64 (0 : Int), .int .i64 (0 : Int), .nilslc], .lit false], L)) (fun z0 => .leaf (.tup [.agg [.int .i64 z0.1, .int .i64 z0.2.1, .own (L.length + 0) 0 ((z0.2.2).length)], .lit true], L ++ [.row (.f32 z0.2.2) 0]))
  | _ => .fail
theorem impl_MulShared_Fok : COk Try.prog 26 impl_MulShared_F true := by
  intro F L H args r L' hs ha hr
  unfold impl_MulShared_F at hr
  split at hr
  · rename_i v146 v147 a1 v149 v150 a2 v152
    obtain ⟨v148, hv148, hr⟩ := optT_run hr
    obtain ⟨v151, hv151, hr⟩ := optT_run hr
    simp only [Tree.run] at hr
    obtain ⟨y, hy, hr⟩ := Option.bind_eq_some_iff.1 hr
    cases y with
    | inl y =>
      simp only [Tree.run, Option.some.injEq, Prod.mk.injEq] at hr
      obtain ⟨rfl, rfl⟩ := hr
      exact call_ok0 hs (fun k => (([a1.av F, a2.av F] : List AV)[k]?).getD .top) [.agg [.int .i64 v146, .int .i64 v147, a1], .agg [.int .i64 v149, .int .i64 v150, a2], .int .i64 v152] [.agg [.int .i64 v146, .int .i64 v147, .bslc (BR.root 0) (.f32 v148)], .agg [.int .i64 v149, .int .i64 v150, .bslc (BR.root 1) (.f32 v151)], .int .i64 v152] (fun F' h0 hi hρ => ⟨by simp [DVs.av, DV.av, BR.av, hρ], impl_MulShared_fn v146 v147 v148 v149 v150 v151 v152 F' (by rw [hi]; rfl) (st_nil hi) ⟨⟨trivial, trivial, bslc_ok hi (by rw [h0, hρ]; exact rowF32_ok hs (DVs.okAt (DVs.okAt ha 0 rfl) 2 rfl) hv148), trivial⟩, ⟨trivial, trivial, bslc_ok hi (by rw [h0, hρ]; exact rowF32_ok hs (DVs.okAt (DVs.okAt ha 1 rfl) 2 rfl) hv151), trivial⟩, trivial, trivial⟩ hy⟩) rfl
    | inr y =>
      simp only [Tree.run, Option.some.injEq, Prod.mk.injEq] at hr
      obtain ⟨rfl, rfl⟩ := hr
      exact call_ok1 hs (fun k => (([a1.av F, a2.av F] : List AV)[k]?).getD .top) [.agg [.int .i64 v146, .int .i64 v147, a1], .agg [.int .i64 v149, .int .i64 v150, a2], .int .i64 v152] [.agg [.int .i64 v146, .int .i64 v147, .bslc (BR.root 0) (.f32 v148)], .agg [.int .i64 v149, .int .i64 v150, .bslc (BR.root 1) (.f32 v151)], .int .i64 v152] (fun F' h0 hi hρ => ⟨by simp [DVs.av, DV.av, BR.av, hρ], impl_MulShared_fn v146 v147 v148 v149 v150 v151 v152 F' (by rw [hi]; rfl) (st_nil hi) ⟨⟨trivial, trivial, bslc_ok hi (by rw [h0, hρ]; exact rowF32_ok hs (DVs.okAt (DVs.okAt ha 0 rfl) 2 rfl) hv148), trivial⟩, ⟨trivial, trivial, bslc_ok hi (by rw [h0, hρ]; exact rowF32_ok hs (DVs.okAt (DVs.okAt ha 1 rfl) 2 rfl) hv151), trivial⟩, trivial, trivial⟩ hy⟩) rfl rfl
  · cases hr
/-! laws.sameFloat -/
noncomputable def laws_sameFloat_LO (v370 : Nat) (v371 : Nat) : LOr := fun id e L =>
  match id with
  | _ => .fail
noncomputable def laws_sameFloat_tab : List (FuncId × DFn × Bool) := []
theorem laws_sameFloat_hO : OrcOk Try.prog (tabD laws_sameFloat_tab) (tabM laws_sameFloat_tab) := tabD_nil _
noncomputable def laws_sameFloat_T (v370 : Nat) (v371 : Nat) : Tree (Bool) :=
  (.br (!feq .f64 v370 v370) (
   (.br (!feq .f64 v370 v370) (
    .leaf (!feq .f64 v371 v371)
   ) (
    .leaf false
   ))
  ) (
   (.br (!feq .f64 v371 v371) (
    (.br (!feq .f64 v370 v370) (
     .leaf (!feq .f64 v371 v371)
    ) (
     .leaf false
    ))
   ) (
    (.br (feq .f64 v370 (0 : Nat)) (
     (.br (feq .f64 v371 (0 : Nat)) (
      .leaf ((fgrt .f64 (fdiv .f64 (4607182418800017408 : Nat) v370) (0 : Nat)) == (fgrt .f64 (fdiv .f64 (4607182418800017408 : Nat) v371) (0 : Nat)))
     ) (
      .leaf (feq .f64 v370 v371)
     ))
    ) (
     .leaf (feq .f64 v370 v371)
    ))
   ))
  ))

noncomputable def laws_sameFloat_g (v370 : Nat) (v371 : Nat) : Option (Bool) := (laws_sameFloat_T v370 v371).run
def laws_sameFloat_enc (v370 : Nat) (v371 : Nat) (y : Bool) : Rs := (.bool y, [])
theorem laws_sameFloat_den (v370 : Nat) (v371 : Nat) : (den TT (tabD laws_sameFloat_tab) (tabM laws_sameFloat_tab) (laws_sameFloat_LO v370 v371) (codeOf Try.f31) ([.flt .f64 v370, .flt .f64 v371] ++ List.replicate (Try.f31.ntmps - ([.flt .f64 v370, .flt .f64 v371] : List DV).length) .undef) []).bind (retD TT Try.f31.results.toList 0) = (laws_sameFloat_T v370 v371).bind fun y => .leaf (laws_sameFloat_enc v370 v371 y) := by kernel_rfl
theorem laws_sameFloat_fn (v370 : Nat) (v371 : Nat) (F : Fr) (hm : F.ids.length = 0) (h0 : St F [] F.H0) (hA : DVs.Ok F [] [.flt .f64 v370, .flt .f64 v371]) {y : Bool} (hy : laws_sameFloat_g v370 v371 = some y) : ∃ H', FnOk Try.prog 31 (DVs.av F [.flt .f64 v370, .flt .f64 v371]) F.H0 ((laws_sameFloat_enc v370 v371 y).1.av F) H' ∧ St F (laws_sameFloat_enc v370 v371 y).2 H' ∧ (laws_sameFloat_enc v370 v371 y).1.Ok F (laws_sameFloat_enc v370 v371 y).2 :=
  fn_fin tok laws_sameFloat_hO mixed Try.func31 Try.call31 (by kernel_rfl) (LoopsOk_eq (l := []) (by kernel_rfl) trivial) (laws_sameFloat_den v370 v371) hy hm h0 hA
def laws_sameFloat_v (v370 : Nat) (v371 : Nat) : Bool :=
  if (!feq .f64 v370 v370) = true then (
   if (!feq .f64 v370 v370) = true then (
    !feq .f64 v371 v371
   ) else (
    false
   )
  ) else (
   if (!feq .f64 v371 v371) = true then (
    if (!feq .f64 v370 v370) = true then (
     !feq .f64 v371 v371
    ) else (
     false
    )
   ) else (
    if (feq .f64 v370 (0 : Nat)) = true then (
     if (feq .f64 v371 (0 : Nat)) = true then (
      (fgrt .f64 (fdiv .f64 (4607182418800017408 : Nat) v370) (0 : Nat)) == (fgrt .f64 (fdiv .f64 (4607182418800017408 : Nat) v371) (0 : Nat))
     ) else (
      feq .f64 v370 v371
     )
    ) else (
     feq .f64 v370 v371
    )
   )
  )
theorem laws_sameFloat_tot (v370 : Nat) (v371 : Nat) : laws_sameFloat_g v370 v371 = some (laws_sameFloat_v v370 v371) := by
  unfold laws_sameFloat_g laws_sameFloat_T laws_sameFloat_v
  simp only [Tree.run]
  repeat' (first | rfl | split)
noncomputable def laws_sameFloat_F : DFn := fun args L =>
  match args with
  | [.flt .f64 v370, .flt .f64 v371] =>
    .leaf (.bool (laws_sameFloat_v v370 v371), L)
  | _ => .fail
theorem laws_sameFloat_Fok : COk Try.prog 31 laws_sameFloat_F true := by
  intro F L H args r L' hs ha hr
  unfold laws_sameFloat_F at hr
  split at hr
  · rename_i v370 v371
    have hy := laws_sameFloat_tot v370 v371
    generalize laws_sameFloat_v v370 v371 = y at hy hr
    simp only [Tree.run, Option.some.injEq, Prod.mk.injEq] at hr
    obtain ⟨rfl, rfl⟩ := hr
    exact call_ok0 hs (fun k => (([] : List AV)[k]?).getD .top) [.flt .f64 v370, .flt .f64 v371] [.flt .f64 v370, .flt .f64 v371] (fun F' h0 hi hρ => ⟨by simp [DVs.av, DV.av, BR.av, hρ], laws_sameFloat_fn v370 v371 F' (by rw [hi]; rfl) (st_nil hi) ⟨trivial, trivial, trivial⟩ hy⟩) rfl
  · cases hr
/-! laws.eqFloat32S -/
noncomputable def laws_eqFloat32S_l0_T (v367 : List Nat) (v368 : List Nat) (s : Int) : Tree ((Int) ⊕ ((Unit) ⊕ (Unit))) :=
  (.br (decide (s < ((v367.length : Nat) : Int))) (
   (.grd (inb s v367.length) <|
   (.grd (inb s v368.length) <|
   (.br (!(laws_sameFloat_v (wid (nth v367 (Int.toNat s))) (wid (nth v368 (Int.toNat s))))) (
    .leaf (.inr (.inl ()))
   ) (
    .leaf (.inl (IntKind.i64.wrap (s + (1 : Int))))
   ))))
  ) (
   .leaf (.inr (.inr ()))
  ))

noncomputable def laws_eqFloat32S_l0_g (v367 : List Nat) (v368 : List Nat) (s0 : Int) : Option ((Unit) ⊕ (Unit)) := whileM (fun s => (laws_eqFloat32S_l0_T v367 v368 s).run) s0
def laws_eqFloat32S_l0_E (v367 : List Nat) (v368 : List Nat) (s : Int) : Sd := ([.bslc (BR.root 0) (.f32 v367), .bslc (BR.root 1) (.f32 v368), .top, .top, .top, .int .i64 s, .top, .top, .top, .top, .top, .top, .top, .top, .top, .top, .top, .top, .top, .top, .top, .top, .top, .top, .top, .top, .top, .top, .top], [])
def laws_eqFloat32S_l0_X (v367 : List Nat) (v368 : List Nat) (x : (Unit) ⊕ (Unit)) : Out := (match x with | .inl x => (.ret, [.top, .top, .top, .top, .lit false, .top, .top, .top, .top, .top, .top, .top, .top, .top, .top, .top, .top, .top, .top, .top, .top, .top, .top, .top, .top, .top, .top, .top, .top], []) | .inr x => (.normal, [.top, .top, .top, .top, .top, .top, .top, .top, .top, .top, .top, .top, .top, .top, .top, .top, .top, .top, .top, .top, .top, .top, .top, .top, .top, .top, .top, .top, .top], []))
def laws_eqFloat32S_l0_kill : List Nat := [0, 0, 1, 1, 1, 0, 1, 1, 1, 1, 1, 1, 1, 1, 1, 1, 1, 1, 1, 1, 1, 1, 1, 1, 1, 1, 1, 1, 1]
def laws_eqFloat32S_l0_nx : Exit → List Nat
  | .exit 0 => [1, 1, 1, 1, 1, 1, 1, 1, 1, 1, 1, 1, 1, 1, 1, 1, 1, 1, 1, 1, 1, 1, 1, 1, 1, 1, 1, 1, 1]
  | .ret => [1, 1, 1, 1, 0, 1, 1, 1, 1, 1, 1, 1, 1, 1, 1, 1, 1, 1, 1, 1, 1, 1, 1, 1, 1, 1, 1, 1, 1]
  | _ => []
noncomputable def laws_eqFloat32S_LO (v367 : List Nat) (v368 : List Nat) : LOr := fun id e L =>
  match id with
  | 0 => .need (normA 0 laws_eqFloat32S_l0_kill e L = some (laws_eqFloat32S_l0_E v367 v368 (gI (vAt e 5)))) (.call (laws_eqFloat32S_l0_g v367 v368 (gI (vAt e 5))) fun x => .sum x (fun b0 => .leaf (laws_eqFloat32S_l0_X v367 v368 (.inl b0))) (fun c0 => .leaf (laws_eqFloat32S_l0_X v367 v368 (.inr c0))))
  | _ => .fail
noncomputable def laws_eqFloat32S_tab : List (FuncId × DFn × Bool) := [(31, laws_sameFloat_F, true)]
theorem laws_eqFloat32S_hO : OrcOk Try.prog (tabD laws_eqFloat32S_tab) (tabM laws_eqFloat32S_tab) := tabD_cons laws_sameFloat_Fok (tabD_nil _)
theorem laws_eqFloat32S_l0_be (v367 : List Nat) (v368 : List Nat) (s : Int) : bodyT TT (tabD laws_eqFloat32S_tab) (tabM laws_eqFloat32S_tab) (laws_eqFloat32S_LO v367 v368) 0 laws_eqFloat32S_l0_kill laws_eqFloat32S_l0_nx (bodyOf Try.f20 0) 0 (laws_eqFloat32S_l0_E v367 v368 s) = (laws_eqFloat32S_l0_T v367 v368 s).bind fun y => .leaf (outS (laws_eqFloat32S_l0_E v367 v368) (laws_eqFloat32S_l0_X v367 v368) y) := by kernel_rfl
theorem laws_eqFloat32S_l0_ok (v367 : List Nat) (v368 : List Nat) : LSound Try.prog 0 (laws_eqFloat32S_LO v367 v368) 0 (bodyOf Try.f20 0) := by
  intro e L out h
  exact lo_ok (E := laws_eqFloat32S_l0_E v367 v368) (gT := laws_eqFloat32S_l0_T v367 v368) (X := laws_eqFloat32S_l0_X v367 v368) (s0 := (gI (vAt e 5))) tok laws_eqFloat32S_hO mixed (LoopsOk_eq (l := []) (by kernel_rfl) trivial) (laws_eqFloat32S_l0_be v367 v368) rfl (by intro x; (cases x with | inl b => rfl | inr x => exact rfl)) h
noncomputable def laws_eqFloat32S_T (v367 : List Nat) (v368 : List Nat) : Tree (Bool) :=
  (.br (!decide (((v367.length : Nat) : Int) = ((v368.length : Nat) : Int))) (
   .leaf false
  ) (
   (.need (some (laws_eqFloat32S_l0_E v367 v368 (0 : Int)) = some (laws_eqFloat32S_l0_E v367 v368 (0 : Int))) <|
   (.call (laws_eqFloat32S_l0_g v367 v368 (0 : Int)) fun v374 =>
   (.sum v374 (fun v375 =>
    .leaf false
   ) (fun v376 =>
    .leaf true
   ))))
  ))

noncomputable def laws_eqFloat32S_g (v367 : List Nat) (v368 : List Nat) : Option (Bool) := (laws_eqFloat32S_T v367 v368).run
def laws_eqFloat32S_enc (v367 : List Nat) (v368 : List Nat) (y : Bool) : Rs := (.bool y, [])
theorem laws_eqFloat32S_den (v367 : List Nat) (v368 : List Nat) : (den TT (tabD laws_eqFloat32S_tab) (tabM laws_eqFloat32S_tab) (laws_eqFloat32S_LO v367 v368) (codeOf Try.f20) ([.bslc (BR.root 0) (.f32 v367), .bslc (BR.root 1) (.f32 v368)] ++ List.replicate (Try.f20.ntmps - ([.bslc (BR.root 0) (.f32 v367), .bslc (BR.root 1) (.f32 v368)] : List DV).length) .undef) []).bind (retD TT Try.f20.results.toList 0) = (laws_eqFloat32S_T v367 v368).bind fun y => .leaf (laws_eqFloat32S_enc v367 v368 y) := by kernel_rfl
theorem laws_eqFloat32S_fn (v367 : List Nat) (v368 : List Nat) (F : Fr) (hm : F.ids.length = 0) (h0 : St F [] F.H0) (hA : DVs.Ok F [] [.bslc (BR.root 0) (.f32 v367), .bslc (BR.root 1) (.f32 v368)]) {y : Bool} (hy : laws_eqFloat32S_g v367 v368 = some y) : ∃ H', FnOk Try.prog 20 (DVs.av F [.bslc (BR.root 0) (.f32 v367), .bslc (BR.root 1) (.f32 v368)]) F.H0 ((laws_eqFloat32S_enc v367 v368 y).1.av F) H' ∧ St F (laws_eqFloat32S_enc v367 v368 y).2 H' ∧ (laws_eqFloat32S_enc v367 v368 y).1.Ok F (laws_eqFloat32S_enc v367 v368 y).2 :=
  fn_fin tok laws_eqFloat32S_hO mixed Try.func20 Try.call20 (by kernel_rfl) (LoopsOk_eq (l := [(0, bodyOf Try.f20 0)]) (by kernel_rfl) ⟨laws_eqFloat32S_l0_ok v367 v368, trivial⟩) (laws_eqFloat32S_den v367 v368) hy hm h0 hA
noncomputable def laws_eqFloat32S_F : DFn := fun args L =>
  match args with
  | [a1, a2] =>
    optT (rowF32 L a1) fun v367 =>
    optT (rowF32 L a2) fun v368 =>
    .call (laws_eqFloat32S_g v367 v368) fun y => .leaf (.bool y, L)
  | _ => .fail
theorem laws_eqFloat32S_Fok : COk Try.prog 20 laws_eqFloat32S_F true := by
  intro F L H args r L' hs ha hr
  unfold laws_eqFloat32S_F at hr
  split at hr
  · rename_i a1 a2
    obtain ⟨v367, hv367, hr⟩ := optT_run hr
    obtain ⟨v368, hv368, hr⟩ := optT_run hr
    simp only [Tree.run] at hr
    obtain ⟨y, hy, hr⟩ := Option.bind_eq_some_iff.1 hr
    simp only [Tree.run, Option.some.injEq, Prod.mk.injEq] at hr
    obtain ⟨rfl, rfl⟩ := hr
    exact call_ok0 hs (fun k => (([a1.av F, a2.av F] : List AV)[k]?).getD .top) [a1, a2] [.bslc (BR.root 0) (.f32 v367), .bslc (BR.root 1) (.f32 v368)] (fun F' h0 hi hρ => ⟨by simp [DVs.av, DV.av, BR.av, hρ], laws_eqFloat32S_fn v367 v368 F' (by rw [hi]; rfl) (st_nil hi) ⟨bslc_ok hi (by rw [h0, hρ]; exact rowF32_ok hs (DVs.okAt ha 0 rfl) hv367), bslc_ok hi (by rw [h0, hρ]; exact rowF32_ok hs (DVs.okAt ha 1 rfl) hv368), trivial⟩ hy⟩) rfl
  · cases hr
/-! laws.eqMatrix -/
noncomputable def laws_eqMatrix_LO (v361 : Int) (v362 : Int) (v363 : List Nat) (v364 : Int) (v365 : Int) (v366 : List Nat) : LOr := fun id e L =>
  match id with
  | _ => .fail
noncomputable def laws_eqMatrix_tab : List (FuncId × DFn × Bool) := [(20, laws_eqFloat32S_F, true)]
theorem laws_eqMatrix_hO : OrcOk Try.prog (tabD laws_eqMatrix_tab) (tabM laws_eqMatrix_tab) := tabD_cons laws_eqFloat32S_Fok (tabD_nil _)
noncomputable def laws_eqMatrix_T (v361 : Int) (v362 : Int) (v363 : List Nat) (v364 : Int) (v365 : Int) (v366 : List Nat) : Tree (Bool) :=
  (.br (!decide (v361 = v364)) (
   .leaf false
  ) (
   (.br (!decide (v362 = v365)) (
    .leaf false
   ) (
    (.call (laws_eqFloat32S_g v363 v366) fun v377 =>
    (.br (!v377) (
     .leaf false
    ) (
     .leaf true
    )))
   ))
  ))

noncomputable def laws_eqMatrix_g (v361 : Int) (v362 : Int) (v363 : List Nat) (v364 : Int) (v365 : Int) (v366 : List Nat) : Option (Bool) := (laws_eqMatrix_T v361 v362 v363 v364 v365 v366).run
def laws_eqMatrix_enc (v361 : Int) (v362 : Int) (v363 : List Nat) (v364 : Int) (v365 : Int) (v366 : List Nat) (y : Bool) : Rs := (.bool y, [])
theorem laws_eqMatrix_den (v361 : Int) (v362 : Int) (v363 : List Nat) (v364 : Int) (v365 : Int) (v366 : List Nat) : (den TT (tabD laws_eqMatrix_tab) (tabM laws_eqMatrix_tab) (laws_eqMatrix_LO v361 v362 v363 v364 v365 v366) (codeOf Try.f19) ([.agg [.int .i64 v361, .int .i64 v362, .bslc (BR.root 0) (.f32 v363)], .agg [.int .i64 v364, .int .i64 v365, .bslc (BR.root 1) (.f32 v366)]] ++ List.replicate (Try.f19.ntmps - ([.agg [.int .i64 v361, .int .i64 v362, .bslc (BR.root 0) (.f32 v363)], .agg [.int .i64 v364, .int .i64 v365, .bslc (BR.root 1) (.f32 v366)]] : List DV).length) .undef) []).bind (retD TT Try.f19.results.toList 0) = (laws_eqMatrix_T v361 v362 v363 v364 v365 v366).bind fun y => .leaf (laws_eqMatrix_enc v361 v362 v363 v364 v365 v366 y) := by kernel_rfl
theorem laws_eqMatrix_fn (v361 : Int) (v362 : Int) (v363 : List Nat) (v364 : Int) (v365 : Int) (v366 : List Nat) (F : Fr) (hm : F.ids.length = 0) (h0 : St F [] F.H0) (hA : DVs.Ok F [] [.agg [.int .i64 v361, .int .i64 v362, .bslc (BR.root 0) (.f32 v363)], .agg [.int .i64 v364, .int .i64 v365, .bslc (BR.root 1) (.f32 v366)]]) {y : Bool} (hy : laws_eqMatrix_g v361 v362 v363 v364 v365 v366 = some y) : ∃ H', FnOk Try.prog 19 (DVs.av F [.agg [.int .i64 v361, .int .i64 v362, .bslc (BR.root 0) (.f32 v363)], .agg [.int .i64 v364, .int .i64 v365, .bslc (BR.root 1) (.f32 v366)]]) F.H0 ((laws_eqMatrix_enc v361 v362 v363 v364 v365 v366 y).1.av F) H' ∧ St F (laws_eqMatrix_enc v361 v362 v363 v364 v365 v366 y).2 H' ∧ (laws_eqMatrix_enc v361 v362 v363 v364 v365 v366 y).1.Ok F (laws_eqMatrix_enc v361 v362 v363 v364 v365 v366 y).2 :=
  fn_fin tok laws_eqMatrix_hO mixed Try.func19 Try.call19 (by kernel_rfl) (LoopsOk_eq (l := []) (by kernel_rfl) trivial) (laws_eqMatrix_den v361 v362 v363 v364 v365 v366) hy hm h0 hA
noncomputable def laws_eqMatrix_F : DFn := fun args L =>
  match args with
  | [.agg [.int .i64 v361, .int .i64 v362, a1], .agg [.int .i64 v364, .int .i64 v365, a2]] =>
    optT (rowF32 L a1) fun v363 =>
    optT (rowF32 L a2) fun v366 =>
    .call (laws_eqMatrix_g v361 v362 v363 v364 v365 v366) fun y => .leaf (.bool y, L)
  | _ => .fail
theorem laws_eqMatrix_Fok : COk Try.prog 19 laws_eqMatrix_F true := by
  intro F L H args r L' hs ha hr
  unfold laws_eqMatrix_F at hr
  split at hr
  · rename_i v361 v362 a1 v364 v365 a2
    obtain ⟨v363, hv363, hr⟩ := optT_run hr
    obtain ⟨v366, hv366, hr⟩ := optT_run hr
    simp only [Tree.run] at hr
    obtain ⟨y, hy, hr⟩ := Option.bind_eq_some_iff.1 hr
    simp only [Tree.run, Option.some.injEq, Prod.mk.injEq] at hr
    obtain ⟨rfl, rfl⟩ := hr
    exact call_ok0 hs (fun k => (([a1.av F, a2.av F] : List AV)[k]?).getD .top) [.agg [.int .i64 v361, .int .i64 v362, a1], .agg [.int .i64 v364, .int .i64 v365, a2]] [.agg [.int .i64 v361, .int .i64 v362, .bslc (BR.root 0) (.f32 v363)], .agg [.int .i64 v364, .int .i64 v365, .bslc (BR.root 1) (.f32 v366)]] (fun F' h0 hi hρ => ⟨by simp [DVs.av, DV.av, BR.av, hρ], laws_eqMatrix_fn v361 v362 v363 v364 v365 v366 F' (by rw [hi]; rfl) (st_nil hi) ⟨⟨trivial, trivial, bslc_ok hi (by rw [h0, hρ]; exact rowF32_ok hs (DVs.okAt (DVs.okAt ha 0 rfl) 2 rfl) hv363), trivial⟩, ⟨trivial, trivial, bslc_ok hi (by rw [h0, hρ]; exact rowF32_ok hs (DVs.okAt (DVs.okAt ha 1 rfl) 2 rfl) hv366), trivial⟩, trivial⟩ hy⟩) rfl
  · cases hr
/-! laws.markFloat32S -/
noncomputable def laws_markFloat32S_l0_T (s : Int × Int × (List Nat)) : Tree ((Int × Int × (List Nat)) ⊕ (Int × (List Nat))) :=
  (.br (decide (s.2.1 < (((s.2.2).length : Nat) : Int))) (
   (.grd (inb s.2.1 ((s.2.2).length)) <|
   .leaf (.inl (IntKind.i64.wrap (s.1 + (1 : Int)), IntKind.i64.wrap (s.2.1 + (1 : Int)), List.set s.2.2 (Int.toNat s.2.1) (fofint .f32 s.1))))
  ) (
   .leaf (.inr (s.1, s.2.2))
  ))

noncomputable def laws_markFloat32S_l0_g (s0 : Int × Int × (List Nat)) : Option (Int × (List Nat)) := whileM (fun s => (laws_markFloat32S_l0_T s).run) s0
def laws_markFloat32S_l0_E (v391 : List Nat) (v392 : Int) (s : Int × Int × (List Nat)) : Sd := ([.own 0 0 ((s.2.2).length), .int .i64 s.1, .top, .top, .top, .int .i64 s.2.1, .top, .top, .top, .top, .top, .top, .top, .top, .top, .top, .top, .top, .top, .top], [.row (.f32 s.2.2) 0])
def laws_markFloat32S_l0_X (v391 : List Nat) (v392 : Int) (x : Int × (List Nat)) : Out := (.normal, [.top, .int .i64 x.1, .top, .top, .top, .top, .top, .top, .top, .top, .top, .top, .top, .top, .top, .top, .top, .top, .top, .top], [.row (.f32 x.2) 0])
def laws_markFloat32S_l0_kill : List Nat := [0, 0, 1, 1, 1, 0, 1, 1, 1, 1, 1, 1, 1, 1, 1, 1, 1, 1, 1, 1]
def laws_markFloat32S_l0_nx : Exit → List Nat
  | .exit 0 => [1, 0, 1, 1, 1, 1, 1, 1, 1, 1, 1, 1, 1, 1, 1, 1, 1, 1, 1, 1]
  | .ret => [1, 1, 1, 1, 0, 1, 1, 1, 1, 1, 1, 1, 1, 1, 1, 1, 1, 1, 1, 1]
  | _ => []
noncomputable def laws_markFloat32S_LO (v391 : List Nat) (v392 : Int) : LOr := fun id e L =>
  match id with
  | 0 => .need (normA 1 laws_markFloat32S_l0_kill e L = some (laws_markFloat32S_l0_E v391 v392 ((gI (vAt e 1)), (gI (vAt e 5)), (gRF L (vAt e 0))))) (.call (laws_markFloat32S_l0_g ((gI (vAt e 1)), (gI (vAt e 5)), (gRF L (vAt e 0)))) fun x => .leaf (laws_markFloat32S_l0_X v391 v392 x))
  | _ => .fail
noncomputable def laws_markFloat32S_tab : List (FuncId × DFn × Bool) := []
theorem laws_markFloat32S_hO : OrcOk Try.prog (tabD laws_markFloat32S_tab) (tabM laws_markFloat32S_tab) := tabD_nil _
theorem laws_markFloat32S_l0_be (v391 : List Nat) (v392 : Int) (s : Int × Int × (List Nat)) : bodyT TT (tabD laws_markFloat32S_tab) (tabM laws_markFloat32S_tab) (laws_markFloat32S_LO v391 v392) 1 laws_markFloat32S_l0_kill laws_markFloat32S_l0_nx (bodyOf Try.f22 0) 0 (laws_markFloat32S_l0_E v391 v392 s) = (laws_markFloat32S_l0_T s).bind fun y => .leaf (outS (laws_markFloat32S_l0_E v391 v392) (laws_markFloat32S_l0_X v391 v392) y) := by kernel_rfl
theorem laws_markFloat32S_l0_ok (v391 : List Nat) (v392 : Int) : LSound Try.prog 1 (laws_markFloat32S_LO v391 v392) 0 (bodyOf Try.f22 0) := by
  intro e L out h
  exact lo_ok (E := laws_markFloat32S_l0_E v391 v392) (gT := laws_markFloat32S_l0_T) (X := laws_markFloat32S_l0_X v391 v392) (s0 := ((gI (vAt e 1)), (gI (vAt e 5)), (gRF L (vAt e 0)))) tok laws_markFloat32S_hO mixed (LoopsOk_eq (l := []) (by kernel_rfl) trivial) (laws_markFloat32S_l0_be v391 v392) rfl (by intro x; rfl) h
noncomputable def laws_markFloat32S_T (v391 : List Nat) (v392 : Int) : Tree (Int × (List Nat)) :=
  (.need (some (laws_markFloat32S_l0_E v391 v392 (v392, (0 : Int), v391)) = some (laws_markFloat32S_l0_E v391 v392 (v392, (0 : Int), v391))) <|
  (.call (laws_markFloat32S_l0_g (v392, (0 : Int), v391)) fun v401 =>
  .leaf (v401.1, v401.2)))

noncomputable def laws_markFloat32S_g (v391 : List Nat) (v392 : Int) : Option (Int × (List Nat)) := (laws_markFloat32S_T v391 v392).run
def laws_markFloat32S_enc (v391 : List Nat) (v392 : Int) (y : Int × (List Nat)) : Rs := (.int .i64 y.1, [.row (.f32 y.2) 0])
theorem laws_markFloat32S_den (v391 : List Nat) (v392 : Int) : (den TT (tabD laws_markFloat32S_tab) (tabM laws_markFloat32S_tab) (laws_markFloat32S_LO v391 v392) (codeOf Try.f22) ([.own 0 0 v391.length, .int .i64 v392] ++ List.replicate (Try.f22.ntmps - ([.own 0 0 v391.length, .int .i64 v392] : List DV).length) .undef) [.row (.f32 v391) 0]).bind (retD TT Try.f22.results.toList 1) = (laws_markFloat32S_T v391 v392).bind fun y => .leaf (laws_markFloat32S_enc v391 v392 y) := by kernel_rfl
theorem laws_markFloat32S_fn (v391 : List Nat) (v392 : Int) (F : Fr) (hm : F.ids.length = 1) (h0 : St F [.row (.f32 v391) 0] F.H0) (hA : DVs.Ok F [.row (.f32 v391) 0] [.own 0 0 v391.length, .int .i64 v392]) {y : Int × (List Nat)} (hy : laws_markFloat32S_g v391 v392 = some y) : ∃ H', FnOk Try.prog 22 (DVs.av F [.own 0 0 v391.length, .int .i64 v392]) F.H0 ((laws_markFloat32S_enc v391 v392 y).1.av F) H' ∧ St F (laws_markFloat32S_enc v391 v392 y).2 H' ∧ (laws_markFloat32S_enc v391 v392 y).1.Ok F (laws_markFloat32S_enc v391 v392 y).2 :=
  fn_fin tok laws_markFloat32S_hO mixed Try.func22 Try.call22 (by kernel_rfl) (LoopsOk_eq (l := [(0, bodyOf Try.f22 0)]) (by kernel_rfl) ⟨laws_markFloat32S_l0_ok v391 v392, trivial⟩) (laws_markFloat32S_den v391 v392) hy hm h0 hA
noncomputable def laws_markFloat32S_F : DFn := fun args L =>
  match args with
  | [a1, .int .i64 v392] =>
    optT (ownF32 L a1) fun qv391 =>
    (match sepB [qv391.1] [] with
    | true =>
    .call (laws_markFloat32S_g qv391.2 v392) fun y => .grd (decide (y.2.length = qv391.2.length)) (.leaf (.int .i64 y.1, setRows L ([qv391.1].zip [.f32 y.2])))
    | false => .fail)
  | _ => .fail
theorem laws_markFloat32S_Fok : COk Try.prog 22 laws_markFloat32S_F false := by
  intro F L H args r L' hs ha hr
  unfold laws_markFloat32S_F at hr
  split at hr
  · rename_i a1 v392
    obtain ⟨⟨jv391, v391⟩, hqv391, hr⟩ := optT_run hr
    simp only at hr
    split at hr
    · rename_i hsep
      obtain ⟨hnd, hsepv⟩ := sepB_spec hsep
      simp only [Tree.run] at hr
      obtain ⟨y, hy, hr⟩ := Option.bind_eq_some_iff.1 hr
      try simp only [Tree.run] at hr
      obtain ⟨hl0, hr⟩ := ite_run hr
      simp only [Option.some.injEq, Prod.mk.injEq] at hr
      obtain ⟨rfl, rfl⟩ := hr
      obtain ⟨hr0, hu0, ha0, hb0⟩ := (ownR_spec (DVs.okAt ha 0 rfl) (ownF32_or hqv391))
      exact mut_ok hs (fun k => (([a1.av F] : List AV)[k]?).getD .top) [a1, .int .i64 v392] [.own 0 0 v391.length, .int .i64 v392] [jv391] [.f32 v391] [.f32 y.2] hnd rfl rfl (fun i j q h1 h2 => by
          rcases i with _ | i
          · simp at h1 h2; subst h1; subst h2; exact hr0
          · simp at h1) (fun i q q' h1 h2 => by
          rcases i with _ | i
          · simp at h1 h2; subst h1; subst h2; exact of_decide_eq_true hl0
          · simp at h1) (fun j hj => by simp at hj; subst hj; simp [DVs.refs, DV.refs, hu0]) (fun F' h0 hi hρ hst hS => ⟨by (have ab0 : F'.abs 0 = F.abs jv391 := (by simp [Fr.abs, hi]); simp [DVs.av, DV.av, BR.av, hρ, Row.len, ha0, ab0]), by
          obtain ⟨H1, k1, k2, _⟩ := laws_markFloat32S_fn v391 v392 F' (by rw [hi]; rfl) hst ⟨⟨_, rfl, Nat.le_refl _, Nat.le_refl _, fun _ => rfl, (ownR_spec (DVs.okAt ha 0 rfl) (ownF32_or hqv391)).2.2.2⟩, trivial, trivial⟩ hy
          exact ⟨H1, k1, k2⟩⟩) (fun F' => rfl) (fun L' => trivial)
    · cases hr
  · cases hr
/-! laws.markMatrix -/
noncomputable def laws_markMatrix_LO (v402 : Int) (v403 : Int) (v404 : List Nat) (v405 : Int) : LOr := fun id e L =>
  match id with
  | _ => .fail
noncomputable def laws_markMatrix_tab : List (FuncId × DFn × Bool) := [(22, laws_markFloat32S_F, false)]
theorem laws_markMatrix_hO : OrcOk Try.prog (tabD laws_markMatrix_tab) (tabM laws_markMatrix_tab) := tabD_cons laws_markFloat32S_Fok (tabD_nil _)
noncomputable def laws_markMatrix_T (v404 : List Nat) (v405 : Int) : Tree (Int × (List Nat)) :=
  (.call (laws_markFloat32S_g v404 v405) fun v406 =>
  (.grd (decide (v406.2.length = v404.length)) <|
  .leaf (v406.1, v406.2)))

noncomputable def laws_markMatrix_g (v404 : List Nat) (v405 : Int) : Option (Int × (List Nat)) := (laws_markMatrix_T v404 v405).run
def laws_markMatrix_enc (v402 : Int) (v403 : Int) (v404 : List Nat) (v405 : Int) (y : Int × (List Nat)) : Rs := (.int .i64 y.1, [.row (.f32 y.2) 0])
theorem laws_markMatrix_den (v402 : Int) (v403 : Int) (v404 : List Nat) (v405 : Int) : (den TT (tabD laws_markMatrix_tab) (tabM laws_markMatrix_tab) (laws_markMatrix_LO v402 v403 v404 v405) (codeOf Try.f21) ([.agg [.int .i64 v402, .int .i64 v403, .own 0 0 v404.length], .int .i64 v405] ++ List.replicate (Try.f21.ntmps - ([.agg [.int .i64 v402, .int .i64 v403, .own 0 0 v404.length], .int .i64 v405] : List DV).length) .undef) [.row (.f32 v404) 0]).bind (retD TT Try.f21.results.toList 1) = (laws_markMatrix_T v404 v405).bind fun y => .leaf (laws_markMatrix_enc v402 v403 v404 v405 y) := by kernel_rfl
theorem laws_markMatrix_fn (v402 : Int) (v403 : Int) (v404 : List Nat) (v405 : Int) (F : Fr) (hm : F.ids.length = 1) (h0 : St F [.row (.f32 v404) 0] F.H0) (hA : DVs.Ok F [.row (.f32 v404) 0] [.agg [.int .i64 v402, .int .i64 v403, .own 0 0 v404.length], .int .i64 v405]) {y : Int × (List Nat)} (hy : laws_markMatrix_g v404 v405 = some y) : ∃ H', FnOk Try.prog 21 (DVs.av F [.agg [.int .i64 v402, .int .i64 v403, .own 0 0 v404.length], .int .i64 v405]) F.H0 ((laws_markMatrix_enc v402 v403 v404 v405 y).1.av F) H' ∧ St F (laws_markMatrix_enc v402 v403 v404 v405 y).2 H' ∧ (laws_markMatrix_enc v402 v403 v404 v405 y).1.Ok F (laws_markMatrix_enc v402 v403 v404 v405 y).2 :=
  fn_fin tok laws_markMatrix_hO mixed Try.func21 Try.call21 (by kernel_rfl) (LoopsOk_eq (l := []) (by kernel_rfl) trivial) (laws_markMatrix_den v402 v403 v404 v405) hy hm h0 hA
noncomputable def laws_markMatrix_F : DFn := fun args L =>
  match args with
  | [.agg [.int .i64 v402, .int .i64 v403, a1], .int .i64 v405] =>
    optT (ownF32 L a1) fun qv404 =>
    (match sepB [qv404.1] [] with
    | true =>
    .call (laws_markMatrix_g qv404.2 v405) fun y => .grd (decide (y.2.length = qv404.2.length)) (.leaf (.int .i64 y.1, setRows L ([qv404.1].zip [.f32 y.2])))
    | false => .fail)
  | _ => .fail
theorem laws_markMatrix_Fok : COk Try.prog 21 laws_markMatrix_F false := by
  intro F L H args r L' hs ha hr
  unfold laws_markMatrix_F at hr
  split at hr
  · rename_i v402 v403 a1 v405
    obtain ⟨⟨jv404, v404⟩, hqv404, hr⟩ := optT_run hr
    simp only at hr
    split at hr
    · rename_i hsep
      obtain ⟨hnd, hsepv⟩ := sepB_spec hsep
      simp only [Tree.run] at hr
      obtain ⟨y, hy, hr⟩ := Option.bind_eq_some_iff.1 hr
      try simp only [Tree.run] at hr
      obtain ⟨hl0, hr⟩ := ite_run hr
      simp only [Option.some.injEq, Prod.mk.injEq] at hr
      obtain ⟨rfl, rfl⟩ := hr
      obtain ⟨hr0, hu0, ha0, hb0⟩ := (ownR_spec (DVs.okAt (DVs.okAt ha 0 rfl) 2 rfl) (ownF32_or hqv404))
      exact mut_ok hs (fun k => (([a1.av F] : List AV)[k]?).getD .top) [.agg [.int .i64 v402, .int .i64 v403, a1], .int .i64 v405] [.agg [.int .i64 v402, .int .i64 v403, .own 0 0 v404.length], .int .i64 v405] [jv404] [.f32 v404] [.f32 y.2] hnd rfl rfl (fun i j q h1 h2 => by
          rcases i with _ | i
          · simp at h1 h2; subst h1; subst h2; exact hr0
          · simp at h1) (fun i q q' h1 h2 => by
          rcases i with _ | i
          · simp at h1 h2; subst h1; subst h2; exact of_decide_eq_true hl0
          · simp at h1) (fun j hj => by simp at hj; subst hj; simp [DVs.refs, DV.refs, hu0]) (fun F' h0 hi hρ hst hS => ⟨by (have ab0 : F'.abs 0 = F.abs jv404 := (by simp [Fr.abs, hi]); simp [DVs.av, DV.av, BR.av, hρ, Row.len, ha0, ab0]), by
          obtain ⟨H1, k1, k2, _⟩ := laws_markMatrix_fn v402 v403 v404 v405 F' (by rw [hi]; rfl) hst ⟨⟨trivial, trivial, ⟨_, rfl, Nat.le_refl _, Nat.le_refl _, fun _ => rfl, (ownR_spec (DVs.okAt (DVs.okAt ha 0 rfl) 2 rfl) (ownF32_or hqv404)).2.2.2⟩, trivial⟩, trivial, trivial⟩ hy
          exact ⟨H1, k1, k2⟩⟩) (fun F' => rfl) (fun L' => trivial)
    · cases hr
  · cases hr
/-! laws.markFloat32S -/
noncomputable def laws_markFloat32S_i1_l0_T (s : Unit) : Tree ((Unit) ⊕ (Unit)) :=
  (.br (decide ((0 : Int) < (0 : Int))) (
   .fail
  ) (
   .leaf (.inr ())
  ))

noncomputable def laws_markFloat32S_i1_l0_g (s0 : Unit) : Option (Unit) := whileM (fun s => (laws_markFloat32S_i1_l0_T s).run) s0
def laws_markFloat32S_i1_l0_E (v413 : Int) (s : Unit) : Sd := ([.nilslc, .int .i64 v413, .top, .top, .top, .int .i64 (0 : Int), .top, .top, .top, .top, .top, .top, .top, .top, .top, .top, .top, .top, .top, .top], [])
def laws_markFloat32S_i1_l0_X (v413 : Int) (x : Unit) : Out := (.normal, [.top, .int .i64 v413, .top, .top, .top, .top, .top, .top, .top, .top, .top, .top, .top, .top, .top, .top, .top, .top, .top, .top], [])
def laws_markFloat32S_i1_l0_kill : List Nat := [0, 0, 1, 1, 1, 0, 1, 1, 1, 1, 1, 1, 1, 1, 1, 1, 1, 1, 1, 1]
def laws_markFloat32S_i1_l0_nx : Exit → List Nat
  | .exit 0 => [1, 0, 1, 1, 1, 1, 1, 1, 1, 1, 1, 1, 1, 1, 1, 1, 1, 1, 1, 1]
  | .ret => [1, 1, 1, 1, 0, 1, 1, 1, 1, 1, 1, 1, 1, 1, 1, 1, 1, 1, 1, 1]
  | _ => []
noncomputable def laws_markFloat32S_i1_LO (v413 : Int) : LOr := fun id e L =>
  match id with
  | 0 => .need (normA 0 laws_markFloat32S_i1_l0_kill e L = some (laws_markFloat32S_i1_l0_E v413 ())) (.call (laws_markFloat32S_i1_l0_g ()) fun x => .leaf (laws_markFloat32S_i1_l0_X v413 x))
  | _ => .fail
noncomputable def laws_markFloat32S_i1_tab : List (FuncId × DFn × Bool) := []
theorem laws_markFloat32S_i1_hO : OrcOk Try.prog (tabD laws_markFloat32S_i1_tab) (tabM laws_markFloat32S_i1_tab) := tabD_nil _
theorem laws_markFloat32S_i1_l0_be (v413 : Int) (s : Unit) : bodyT TT (tabD laws_markFloat32S_i1_tab) (tabM laws_markFloat32S_i1_tab) (laws_markFloat32S_i1_LO v413) 0 laws_markFloat32S_i1_l0_kill laws_markFloat32S_i1_l0_nx (bodyOf Try.f22 0) 0 (laws_markFloat32S_i1_l0_E v413 s) = (laws_markFloat32S_i1_l0_T s).bind fun y => .leaf (outS (laws_markFloat32S_i1_l0_E v413) (laws_markFloat32S_i1_l0_X v413) y) := by kernel_rfl
theorem laws_markFloat32S_i1_l0_ok (v413 : Int) : LSound Try.prog 0 (laws_markFloat32S_i1_LO v413) 0 (bodyOf Try.f22 0) := by
  intro e L out h
  exact lo_ok (E := laws_markFloat32S_i1_l0_E v413) (gT := laws_markFloat32S_i1_l0_T) (X := laws_markFloat32S_i1_l0_X v413) (s0 := ()) tok laws_markFloat32S_i1_hO mixed (LoopsOk_eq (l := []) (by kernel_rfl) trivial) (laws_markFloat32S_i1_l0_be v413) rfl (by intro x; rfl) h
noncomputable def laws_markFloat32S_i1_T (v413 : Int) : Tree (Int) :=
  (.need (some (laws_markFloat32S_i1_l0_E v413 ()) = some (laws_markFloat32S_i1_l0_E v413 ())) <|
  (.call (laws_markFloat32S_i1_l0_g ()) fun v416 =>
  .leaf v413))

noncomputable def laws_markFloat32S_i1_g (v413 : Int) : Option (Int) := (laws_markFloat32S_i1_T v413).run
def laws_markFloat32S_i1_enc (v413 : Int) (y : Int) : Rs := (.int .i64 y, [])
theorem laws_markFloat32S_i1_den (v413 : Int) : (den TT (tabD laws_markFloat32S_i1_tab) (tabM laws_markFloat32S_i1_tab) (laws_markFloat32S_i1_LO v413) (codeOf Try.f22) ([.nilslc, .int .i64 v413] ++ List.replicate (Try.f22.ntmps - ([.nilslc, .int .i64 v413] : List DV).length) .undef) []).bind (retD TT Try.f22.results.toList 0) = (laws_markFloat32S_i1_T v413).bind fun y => .leaf (laws_markFloat32S_i1_enc v413 y) := by kernel_rfl
theorem laws_markFloat32S_i1_fn (v413 : Int) (F : Fr) (hm : F.ids.length = 0) (h0 : St F [] F.H0) (hA : DVs.Ok F [] [.nilslc, .int .i64 v413]) {y : Int} (hy : laws_markFloat32S_i1_g v413 = some y) : ∃ H', FnOk Try.prog 22 (DVs.av F [.nilslc, .int .i64 v413]) F.H0 ((laws_markFloat32S_i1_enc v413 y).1.av F) H' ∧ St F (laws_markFloat32S_i1_enc v413 y).2 H' ∧ (laws_markFloat32S_i1_enc v413 y).1.Ok F (laws_markFloat32S_i1_enc v413 y).2 :=
  fn_fin tok laws_markFloat32S_i1_hO mixed Try.func22 Try.call22 (by kernel_rfl) (LoopsOk_eq (l := [(0, bodyOf Try.f22 0)]) (by kernel_rfl) ⟨laws_markFloat32S_i1_l0_ok v413, trivial⟩) (laws_markFloat32S_i1_den v413) hy hm h0 hA
noncomputable def laws_markFloat32S_i1_F : DFn := fun args L =>
  match args with
  | [.nilslc, .int .i64 v413] =>
    .call (laws_markFloat32S_i1_g v413) fun y => .leaf (.int .i64 y, L)
  | _ => .fail
theorem laws_markFloat32S_i1_Fok : COk Try.prog 22 laws_markFloat32S_i1_F true := by
  intro F L H args r L' hs ha hr
  unfold laws_markFloat32S_i1_F at hr
  split at hr
  · rename_i v413
    simp only [Tree.run] at hr
    obtain ⟨y, hy, hr⟩ := Option.bind_eq_some_iff.1 hr
    simp only [Tree.run, Option.some.injEq, Prod.mk.injEq] at hr
    obtain ⟨rfl, rfl⟩ := hr
    exact call_ok0 hs (fun k => (([] : List AV)[k]?).getD .top) [.nilslc, .int .i64 v413] [.nilslc, .int .i64 v413] (fun F' h0 hi hρ => ⟨by simp [DVs.av, DV.av, BR.av, hρ], laws_markFloat32S_i1_fn v413 F' (by rw [hi]; rfl) (st_nil hi) ⟨trivial, trivial, trivial⟩ hy⟩) rfl
  · cases hr
/-! laws.markMatrix -/
noncomputable def laws_markMatrix_i1_LO (v410 : Int) (v411 : Int) (v412 : Int) : LOr := fun id e L =>
  match id with
  | _ => .fail
noncomputable def laws_markMatrix_i1_tab : List (FuncId × DFn × Bool) := [(22, laws_markFloat32S_i1_F, true)]
theorem laws_markMatrix_i1_hO : OrcOk Try.prog (tabD laws_markMatrix_i1_tab) (tabM laws_markMatrix_i1_tab) := tabD_cons laws_markFloat32S_i1_Fok (tabD_nil _)
noncomputable def laws_markMatrix_i1_T (v412 : Int) : Tree (Int) :=
  (.call (laws_markFloat32S_i1_g v412) fun v417 =>
  .leaf v417)

noncomputable def laws_markMatrix_i1_g (v412 : Int) : Option (Int) := (laws_markMatrix_i1_T v412).run
def laws_markMatrix_i1_enc (v410 : Int) (v411 : Int) (v412 : Int) (y : Int) : Rs := (.int .i64 y, [])
theorem laws_markMatrix_i1_den (v410 : Int) (v411 : Int) (v412 : Int) : (den TT (tabD laws_markMatrix_i1_tab) (tabM laws_markMatrix_i1_tab) (laws_markMatrix_i1_LO v410 v411 v412) (codeOf Try.f21) ([.agg [.int .i64 v410, .int .i64 v411, .nilslc], .int .i64 v412] ++ List.replicate (Try.f21.ntmps - ([.agg [.int .i64 v410, .int .i64 v411, .nilslc], .int .i64 v412] : List DV).length) .undef) []).bind (retD TT Try.f21.results.toList 0) = (laws_markMatrix_i1_T v412).bind fun y => .leaf (laws_markMatrix_i1_enc v410 v411 v412 y) := by kernel_rfl
theorem laws_markMatrix_i1_fn (v410 : Int) (v411 : Int) (v412 : Int) (F : Fr) (hm : F.ids.length = 0) (h0 : St F [] F.H0) (hA : DVs.Ok F [] [.agg [.int .i64 v410, .int .i64 v411, .nilslc], .int .i64 v412]) {y : Int} (hy : laws_markMatrix_i1_g v412 = some y) : ∃ H', FnOk Try.prog 21 (DVs.av F [.agg [.int .i64 v410, .int .i64 v411, .nilslc], .int .i64 v412]) F.H0 ((laws_markMatrix_i1_enc v410 v411 v412 y).1.av F) H' ∧ St F (laws_markMatrix_i1_enc v410 v411 v412 y).2 H' ∧ (laws_markMatrix_i1_enc v410 v411 v412 y).1.Ok F (laws_markMatrix_i1_enc v410 v411 v412 y).2 :=
  fn_fin tok laws_markMatrix_i1_hO mixed Try.func21 Try.call21 (by kernel_rfl) (LoopsOk_eq (l := []) (by kernel_rfl) trivial) (laws_markMatrix_i1_den v410 v411 v412) hy hm h0 hA
noncomputable def laws_markMatrix_i1_F : DFn := fun args L =>
  match args with
  | [.agg [.int .i64 v410, .int .i64 v411, .nilslc], .int .i64 v412] =>
    .call (laws_markMatrix_i1_g v412) fun y => .leaf (.int .i64 y, L)
  | _ => .fail
theorem laws_markMatrix_i1_Fok : COk Try.prog 21 laws_markMatrix_i1_F true := by
  intro F L H args r L' hs ha hr
  unfold laws_markMatrix_i1_F at hr
  split at hr
  · rename_i v410 v411 v412
    simp only [Tree.run] at hr
    obtain ⟨y, hy, hr⟩ := Option.bind_eq_some_iff.1 hr
    simp only [Tree.run, Option.some.injEq, Prod.mk.injEq] at hr
    obtain ⟨rfl, rfl⟩ := hr
    exact call_ok0 hs (fun k => (([] : List AV)[k]?).getD .top) [.agg [.int .i64 v410, .int .i64 v411, .nilslc], .int .i64 v412] [.agg [.int .i64 v410, .int .i64 v411, .nilslc], .int .i64 v412] (fun F' h0 hi hρ => ⟨by simp [DVs.av, DV.av, BR.av, hρ], laws_markMatrix_i1_fn v410 v411 v412 F' (by rw [hi]; rfl) (st_nil hi) ⟨⟨trivial, trivial, trivial, trivial⟩, trivial, trivial⟩ hy⟩) rfl
  · cases hr
/-! laws.heldFloat32S -/
noncomputable def laws_heldFloat32S_l0_T (v423 : List Nat) (s : Int × Int) : Tree ((Int × Int) ⊕ ((Unit) ⊕ (Int))) :=
  (.br (decide (s.2 < ((v423.length : Nat) : Int))) (
   (.grd (inb s.2 v423.length) <|
   (.br (!feq .f32 (nth v423 (Int.toNat s.2)) (fofint .f32 s.1)) (
    .leaf (.inr (.inl ()))
   ) (
    .leaf (.inl (IntKind.i64.wrap (s.1 + (1 : Int)), IntKind.i64.wrap (s.2 + (1 : Int))))
   )))
  ) (
   .leaf (.inr (.inr s.1))
  ))

noncomputable def laws_heldFloat32S_l0_g (v423 : List Nat) (s0 : Int × Int) : Option ((Unit) ⊕ (Int)) := whileM (fun s => (laws_heldFloat32S_l0_T v423 s).run) s0
def laws_heldFloat32S_l0_E (v423 : List Nat) (v424 : Int) (s : Int × Int) : Sd := ([.bslc (BR.root 0) (.f32 v423), .int .i64 s.1, .top, .top, .top, .int .i64 s.2, .top, .top, .top, .top, .top, .top, .top, .top, .top, .top, .top, .top, .top, .top, .top, .top], [])
def laws_heldFloat32S_l0_X (v423 : List Nat) (v424 : Int) (x : (Unit) ⊕ (Int)) : Out := (match x with | .inl x => (.ret, [.top, .top, .top, .top, .int .i64 (-1 : Int), .top, .top, .top, .top, .top, .top, .top, .top, .top, .top, .top, .top, .top, .top, .top, .top, .top], []) | .inr x => (.normal, [.top, .int .i64 x, .top, .top, .top, .top, .top, .top, .top, .top, .top, .top, .top, .top, .top, .top, .top, .top, .top, .top, .top, .top], []))
def laws_heldFloat32S_l0_kill : List Nat := [0, 0, 1, 1, 1, 0, 1, 1, 1, 1, 1, 1, 1, 1, 1, 1, 1, 1, 1, 1, 1, 1]
def laws_heldFloat32S_l0_nx : Exit → List Nat
  | .exit 0 => [1, 0, 1, 1, 1, 1, 1, 1, 1, 1, 1, 1, 1, 1, 1, 1, 1, 1, 1, 1, 1, 1]
  | .ret => [1, 1, 1, 1, 0, 1, 1, 1, 1, 1, 1, 1, 1, 1, 1, 1, 1, 1, 1, 1, 1, 1]
  | _ => []
noncomputable def laws_heldFloat32S_LO (v423 : List Nat) (v424 : Int) : LOr := fun id e L =>
  match id with
  | 0 => .need (normA 0 laws_heldFloat32S_l0_kill e L = some (laws_heldFloat32S_l0_E v423 v424 ((gI (vAt e 1)), (gI (vAt e 5))))) (.call (laws_heldFloat32S_l0_g v423 ((gI (vAt e 1)), (gI (vAt e 5)))) fun x => .sum x (fun b0 => .leaf (laws_heldFloat32S_l0_X v423 v424 (.inl b0))) (fun c0 => .leaf (laws_heldFloat32S_l0_X v423 v424 (.inr c0))))
  | _ => .fail
noncomputable def laws_heldFloat32S_tab : List (FuncId × DFn × Bool) := []
theorem laws_heldFloat32S_hO : OrcOk Try.prog (tabD laws_heldFloat32S_tab) (tabM laws_heldFloat32S_tab) := tabD_nil _
theorem laws_heldFloat32S_l0_be (v423 : List Nat) (v424 : Int) (s : Int × Int) : bodyT TT (tabD laws_heldFloat32S_tab) (tabM laws_heldFloat32S_tab) (laws_heldFloat32S_LO v423 v424) 0 laws_heldFloat32S_l0_kill laws_heldFloat32S_l0_nx (bodyOf Try.f24 0) 0 (laws_heldFloat32S_l0_E v423 v424 s) = (laws_heldFloat32S_l0_T v423 s).bind fun y => .leaf (outS (laws_heldFloat32S_l0_E v423 v424) (laws_heldFloat32S_l0_X v423 v424) y) := by kernel_rfl
theorem laws_heldFloat32S_l0_ok (v423 : List Nat) (v424 : Int) : LSound Try.prog 0 (laws_heldFloat32S_LO v423 v424) 0 (bodyOf Try.f24 0) := by
  intro e L out h
  exact lo_ok (E := laws_heldFloat32S_l0_E v423 v424) (gT := laws_heldFloat32S_l0_T v423) (X := laws_heldFloat32S_l0_X v423 v424) (s0 := ((gI (vAt e 1)), (gI (vAt e 5)))) tok laws_heldFloat32S_hO mixed (LoopsOk_eq (l := []) (by kernel_rfl) trivial) (laws_heldFloat32S_l0_be v423 v424) rfl (by intro x; (cases x with | inl b => rfl | inr x => exact rfl)) h
noncomputable def laws_heldFloat32S_T (v423 : List Nat) (v424 : Int) : Tree (Int) :=
  (.need (some (laws_heldFloat32S_l0_E v423 v424 (v424, (0 : Int))) = some (laws_heldFloat32S_l0_E v423 v424 (v424, (0 : Int)))) <|
  (.call (laws_heldFloat32S_l0_g v423 (v424, (0 : Int))) fun v431 =>
  (.sum v431 (fun v432 =>
   .leaf (-1 : Int)
  ) (fun v433 =>
   .leaf v433
  ))))

noncomputable def laws_heldFloat32S_g (v423 : List Nat) (v424 : Int) : Option (Int) := (laws_heldFloat32S_T v423 v424).run
def laws_heldFloat32S_enc (v423 : List Nat) (v424 : Int) (y : Int) : Rs := (.int .i64 y, [])
theorem laws_heldFloat32S_den (v423 : List Nat) (v424 : Int) : (den TT (tabD laws_heldFloat32S_tab) (tabM laws_heldFloat32S_tab) (laws_heldFloat32S_LO v423 v424) (codeOf Try.f24) ([.bslc (BR.root 0) (.f32 v423), .int .i64 v424] ++ List.replicate (Try.f24.ntmps - ([.bslc (BR.root 0) (.f32 v423), .int .i64 v424] : List DV).length) .undef) []).bind (retD TT Try.f24.results.toList 0) = (laws_heldFloat32S_T v423 v424).bind fun y => .leaf (laws_heldFloat32S_enc v423 v424 y) := by kernel_rfl
theorem laws_heldFloat32S_fn (v423 : List Nat) (v424 : Int) (F : Fr) (hm : F.ids.length = 0) (h0 : St F [] F.H0) (hA : DVs.Ok F [] [.bslc (BR.root 0) (.f32 v423), .int .i64 v424]) {y : Int} (hy : laws_heldFloat32S_g v423 v424 = some y) : ∃ H', FnOk Try.prog 24 (DVs.av F [.bslc (BR.root 0) (.f32 v423), .int .i64 v424]) F.H0 ((laws_heldFloat32S_enc v423 v424 y).1.av F) H' ∧ St F (laws_heldFloat32S_enc v423 v424 y).2 H' ∧ (laws_heldFloat32S_enc v423 v424 y).1.Ok F (laws_heldFloat32S_enc v423 v424 y).2 :=
  fn_fin tok laws_heldFloat32S_hO mixed Try.func24 Try.call24 (by kernel_rfl) (LoopsOk_eq (l := [(0, bodyOf Try.f24 0)]) (by kernel_rfl) ⟨laws_heldFloat32S_l0_ok v423 v424, trivial⟩) (laws_heldFloat32S_den v423 v424) hy hm h0 hA
noncomputable def laws_heldFloat32S_F : DFn := fun args L =>
  match args with
  | [a1, .int .i64 v424] =>
    optT (rowF32 L a1) fun v423 =>
    .call (laws_heldFloat32S_g v423 v424) fun y => .leaf (.int .i64 y, L)
  | _ => .fail
theorem laws_heldFloat32S_Fok : COk Try.prog 24 laws_heldFloat32S_F true := by
  intro F L H args r L' hs ha hr
  unfold laws_heldFloat32S_F at hr
  split at hr
  · rename_i a1 v424
    obtain ⟨v423, hv423, hr⟩ := optT_run hr
    simp only [Tree.run] at hr
    obtain ⟨y, hy, hr⟩ := Option.bind_eq_some_iff.1 hr
    simp only [Tree.run, Option.some.injEq, Prod.mk.injEq] at hr
    obtain ⟨rfl, rfl⟩ := hr
    exact call_ok0 hs (fun k => (([a1.av F] : List AV)[k]?).getD .top) [a1, .int .i64 v424] [.bslc (BR.root 0) (.f32 v423), .int .i64 v424] (fun F' h0 hi hρ => ⟨by simp [DVs.av, DV.av, BR.av, hρ], laws_heldFloat32S_fn v423 v424 F' (by rw [hi]; rfl) (st_nil hi) ⟨bslc_ok hi (by rw [h0, hρ]; exact rowF32_ok hs (DVs.okAt ha 0 rfl) hv423), trivial, trivial⟩ hy⟩) rfl
  · cases hr
/-! laws.heldMatrix -/
noncomputable def laws_heldMatrix_LO (v419 : Int) (v420 : Int) (v421 : List Nat) (v422 : Int) : LOr := fun id e L =>
  match id with
  | _ => .fail
noncomputable def laws_heldMatrix_tab : List (FuncId × DFn × Bool) := [(24, laws_heldFloat32S_F, true)]
theorem laws_heldMatrix_hO : OrcOk Try.prog (tabD laws_heldMatrix_tab) (tabM laws_heldMatrix_tab) := tabD_cons laws_heldFloat32S_Fok (tabD_nil _)
noncomputable def laws_heldMatrix_T (v421 : List Nat) (v422 : Int) : Tree (Int) :=
  (.call (laws_heldFloat32S_g v421 v422) fun v434 =>
  (.br (decide (v434 < (0 : Int))) (
   .leaf (-1 : Int)
  ) (
   .leaf v434
  )))

noncomputable def laws_heldMatrix_g (v421 : List Nat) (v422 : Int) : Option (Int) := (laws_heldMatrix_T v421 v422).run
def laws_heldMatrix_enc (v419 : Int) (v420 : Int) (v421 : List Nat) (v422 : Int) (y : Int) : Rs := (.int .i64 y, [])
theorem laws_heldMatrix_den (v419 : Int) (v420 : Int) (v421 : List Nat) (v422 : Int) : (den TT (tabD laws_heldMatrix_tab) (tabM laws_heldMatrix_tab) (laws_heldMatrix_LO v419 v420 v421 v422) (codeOf Try.f23) ([.agg [.int .i64 v419, .int .i64 v420, .bslc (BR.root 0) (.f32 v421)], .int .i64 v422] ++ List.replicate (Try.f23.ntmps - ([.agg [.int .i64 v419, .int .i64 v420, .bslc (BR.root 0) (.f32 v421)], .int .i64 v422] : List DV).length) .undef) []).bind (retD TT Try.f23.results.toList 0) = (laws_heldMatrix_T v421 v422).bind fun y => .leaf (laws_heldMatrix_enc v419 v420 v421 v422 y) := by kernel_rfl
theorem laws_heldMatrix_fn (v419 : Int) (v420 : Int) (v421 : List Nat) (v422 : Int) (F : Fr) (hm : F.ids.length = 0) (h0 : St F [] F.H0) (hA : DVs.Ok F [] [.agg [.int .i64 v419, .int .i64 v420, .bslc (BR.root 0) (.f32 v421)], .int .i64 v422]) {y : Int} (hy : laws_heldMatrix_g v421 v422 = some y) : ∃ H', FnOk Try.prog 23 (DVs.av F [.agg [.int .i64 v419, .int .i64 v420, .bslc (BR.root 0) (.f32 v421)], .int .i64 v422]) F.H0 ((laws_heldMatrix_enc v419 v420 v421 v422 y).1.av F) H' ∧ St F (laws_heldMatrix_enc v419 v420 v421 v422 y).2 H' ∧ (laws_heldMatrix_enc v419 v420 v421 v422 y).1.Ok F (laws_heldMatrix_enc v419 v420 v421 v422 y).2 :=
  fn_fin tok laws_heldMatrix_hO mixed Try.func23 Try.call23 (by kernel_rfl) (LoopsOk_eq (l := []) (by kernel_rfl) trivial) (laws_heldMatrix_den v419 v420 v421 v422) hy hm h0 hA
noncomputable def laws_heldMatrix_F : DFn := fun args L =>
  match args with
  | [.agg [.int .i64 v419, .int .i64 v420, a1], .int .i64 v422] =>
    optT (rowF32 L a1) fun v421 =>
    .call (laws_heldMatrix_g v421 v422) fun y => .leaf (.int .i64 y, L)
  | _ => .fail
theorem laws_heldMatrix_Fok : COk Try.prog 23 laws_heldMatrix_F true := by
  intro F L H args r L' hs ha hr
  unfold laws_heldMatrix_F at hr
  split at hr
  · rename_i v419 v420 a1 v422
    obtain ⟨v421, hv421, hr⟩ := optT_run hr
    simp only [Tree.run] at hr
    obtain ⟨y, hy, hr⟩ := Option.bind_eq_some_iff.1 hr
    simp only [Tree.run, Option.some.injEq, Prod.mk.injEq] at hr
    obtain ⟨rfl, rfl⟩ := hr
    exact call_ok0 hs (fun k => (([a1.av F] : List AV)[k]?).getD .top) [.agg [.int .i64 v419, .int .i64 v420, a1], .int .i64 v422] [.agg [.int .i64 v419, .int .i64 v420, .bslc (BR.root 0) (.f32 v421)], .int .i64 v422] (fun F' h0 hi hρ => ⟨by simp [DVs.av, DV.av, BR.av, hρ], laws_heldMatrix_fn v419 v420 v421 v422 F' (by rw [hi]; rfl) (st_nil hi) ⟨⟨trivial, trivial, bslc_ok hi (by rw [h0, hρ]; exact rowF32_ok hs (DVs.okAt (DVs.okAt ha 0 rfl) 2 rfl) hv421), trivial⟩, trivial, trivial⟩ hy⟩) rfl
  · cases hr
/-! laws.FnExactMulShared -/
noncomputable def laws_FnExactMulShared_LO (v1 : Int) (v2 : Int) (v3 : List Nat) (v4 : Int) (v5 : Int) (v6 : List Nat) (v7 : Int) : LOr := fun id e L =>
  match id with
  | _ => .fail
noncomputable def laws_FnExactMulShared_tab : List (FuncId × DFn × Bool) := [(15, laws_szMatrix_F, true), (17, laws_toMatrix_F, true), (25, spec_MulShared_F, true), (26, impl_MulShared_F, true), (19, laws_eqMatrix_F, true), (21, (orD (fun args => match args with | [.agg [_, _, .nilslc], _] => true | _ => false) laws_markMatrix_i1_F laws_markMatrix_F), false), (23, laws_heldMatrix_F, true)]
theorem laws_FnExactMulShared_hO : OrcOk Try.prog (tabD laws_FnExactMulShared_tab) (tabM laws_FnExactMulShared_tab) := tabD_cons laws_szMatrix_Fok (tabD_cons laws_toMatrix_Fok (tabD_cons spec_MulShared_Fok (tabD_cons impl_MulShared_Fok (tabD_cons laws_eqMatrix_Fok (tabD_cons (orD_ok (COk.weak laws_markMatrix_i1_Fok) laws_markMatrix_Fok) (tabD_cons laws_heldMatrix_Fok (tabD_nil _)))))))
noncomputable def laws_FnExactMulShared_T (v1 : Int) (v2 : Int) (v3 : List Nat) (v4 : Int) (v5 : Int) (v6 : List Nat) (v7 : Int) : Tree (Bool) :=
  (.br (decide ((laws_szMatrix_v v3 (1048576 : Int)) < (0 : Int))) (
   .leaf true
  ) (
   (.br (decide ((laws_szMatrix_v v6 (laws_szMatrix_v v3 (1048576 : Int))) < (0 : Int))) (
    .leaf true
   ) (
    (.call (laws_toMatrix_g v1 v2 v3) fun v25 =>
    (.call (laws_toMatrix_g v4 v5 v6) fun v26 =>
    (.call (spec_MulShared_g v25.1 v25.2.1 v25.2.2 v26.1 v26.2.1 v26.2.2 v7) fun v141 =>
    (.sum v141 (fun v142 =>
     (.call (laws_toMatrix_g v1 v2 v3) fun v144 =>
     (.call (laws_toMatrix_g v4 v5 v6) fun v145 =>
     (.call (impl_MulShared_g v144.1 v144.2.1 v144.2.2 v145.1 v145.2.1 v145.2.2 v7) fun v358 =>
     (.sum v358 (fun v359 =>
      (.call (laws_eqMatrix_g (0 : Int) (0 : Int) ([] : List Nat) (0 : Int) (0 : Int) ([] : List Nat)) fun v378 =>
      (.br (!v378) (
       .leaf false
      ) (
       (.br (!(false == false)) (
        .leaf false
       ) (
        (.call (laws_toMatrix_g v1 v2 v3) fun v379 =>
        (.call (laws_eqMatrix_g v144.1 v144.2.1 v144.2.2 v379.1 v379.2.1 v379.2.2) fun v380 =>
        (.br (!v380) (
         .leaf false
        ) (
         (.call (laws_toMatrix_g v4 v5 v6) fun v381 =>
         (.call (laws_eqMatrix_g v145.1 v145.2.1 v145.2.2 v381.1 v381.2.1 v381.2.2) fun v382 =>
         (.br (!v382) (
          .leaf false
         ) (
          (.call (laws_markMatrix_g v144.2.2 (1 : Int)) fun v407 =>
          (.grd (decide (v407.2.length = v144.2.2.length)) <|
          (.call (laws_markMatrix_g v145.2.2 v407.1) fun v408 =>
          (.grd (decide (v408.2.length = v145.2.2.length)) <|
          (.br (decide (v408.1 < (0 : Int))) (
           .leaf false
          ) (
           (.call (laws_eqMatrix_g (0 : Int) (0 : Int) ([] : List Nat) (0 : Int) (0 : Int) ([] : List Nat)) fun v409 =>
           (.br (!v409) (
            .leaf false
           ) (
            (.br (!(false == false)) (
             .leaf false
            ) (
             (.call (laws_markMatrix_i1_g (1 : Int)) fun v418 =>
             (.call (laws_heldMatrix_g ([] : List Nat) (1 : Int)) fun v435 =>
             (.br (decide (v435 < (0 : Int))) (
              .leaf false
             ) (
              (.br (!decide (v435 = v418)) (
               .leaf false
              ) (
               (.call (laws_toMatrix_g v1 v2 v3) fun v436 =>
               (.call (laws_toMatrix_g v4 v5 v6) fun v437 =>
               (.call (impl_MulShared_g v436.1 v436.2.1 v436.2.2 v437.1 v437.2.1 v437.2.2 v7) fun v438 =>
               (.sum v438 (fun v439 =>
                (.call (laws_eqMatrix_g (0 : Int) (0 : Int) ([] : List Nat) (0 : Int) (0 : Int) ([] : List Nat)) fun v441 =>
                (.br (!v441) (
                 .leaf false
                ) (
                 (.br (!(false == false)) (
                  .leaf false
                 ) (
                  (.call (laws_heldMatrix_g ([] : List Nat) (1 : Int)) fun v442 =>
                  (.br (decide (v442 < (0 : Int))) (
                   .leaf false
                  ) (
                   (.br (!decide (v442 = v418)) (
                    .leaf false
                   ) (
                    .leaf true
                   ))
                  )))
                 ))
                )))
               ) (fun v440 =>
                (.call (laws_eqMatrix_g v440.1 v440.2.1 v440.2.2 (0 : Int) (0 : Int) ([] : List Nat)) fun v443 =>
                (.br (!v443) (
                 .leaf false
                ) (
                 (.br (!(true == false)) (
                  .leaf false
                 ) (
                  (.call (laws_heldMatrix_g ([] : List Nat) (1 : Int)) fun v444 =>
                  (.br (decide (v444 < (0 : Int))) (
                   .leaf false
                  ) (
                   (.br (!decide (v444 = v418)) (
                    .leaf false
                   ) (
                    .leaf true
                   ))
                  )))
                 ))
                )))
               )))))
              ))
             ))))
            ))
           )))
          ))))))
         ))))
        ))))
       ))
      )))
     ) (fun v360 =>
      (.call (laws_eqMatrix_g v360.1 v360.2.1 v360.2.2 (0 : Int) (0 : Int) ([] : List Nat)) fun v445 =>
      (.br (!v445) (
       .leaf false
      ) (
       (.br (!(true == false)) (
        .leaf false
       ) (
        (.call (laws_toMatrix_g v1 v2 v3) fun v446 =>
        (.call (laws_eqMatrix_g v144.1 v144.2.1 v144.2.2 v446.1 v446.2.1 v446.2.2) fun v447 =>
        (.br (!v447) (
         .leaf false
        ) (
         (.call (laws_toMatrix_g v4 v5 v6) fun v448 =>
         (.call (laws_eqMatrix_g v145.1 v145.2.1 v145.2.2 v448.1 v448.2.1 v448.2.2) fun v449 =>
         (.br (!v449) (
          .leaf false
         ) (
          (.call (laws_markMatrix_g v144.2.2 (1 : Int)) fun v450 =>
          (.grd (decide (v450.2.length = v144.2.2.length)) <|
          (.call (laws_markMatrix_g v145.2.2 v450.1) fun v451 =>
          (.grd (decide (v451.2.length = v145.2.2.length)) <|
          (.br (decide (v451.1 < (0 : Int))) (
           .leaf false
          ) (
           (.call (laws_eqMatrix_g v360.1 v360.2.1 v360.2.2 (0 : Int) (0 : Int) ([] : List Nat)) fun v452 =>
           (.br (!v452) (
            .leaf false
           ) (
            (.br (!(true == false)) (
             .leaf false
            ) (
             (.call (laws_markMatrix_g v360.2.2 (1 : Int)) fun v453 =>
             (.grd (decide (v453.2.length = v360.2.2.length)) <|
             (.call (laws_heldMatrix_g v453.2 (1 : Int)) fun v454 =>
             (.br (decide (v454 < (0 : Int))) (
              .leaf false
             ) (
              (.br (!decide (v454 = v453.1)) (
               .leaf false
              ) (
               (.call (laws_toMatrix_g v1 v2 v3) fun v455 =>
               (.call (laws_toMatrix_g v4 v5 v6) fun v456 =>
               (.call (impl_MulShared_g v455.1 v455.2.1 v455.2.2 v456.1 v456.2.1 v456.2.2 v7) fun v457 =>
               (.sum v457 (fun v458 =>
                (.call (laws_eqMatrix_g (0 : Int) (0 : Int) ([] : List Nat) (0 : Int) (0 : Int) ([] : List Nat)) fun v460 =>
                (.br (!v460) (
                 .leaf false
                ) (
                 (.br (!(false == false)) (
                  .leaf false
                 ) (
                  (.call (laws_heldMatrix_g v453.2 (1 : Int)) fun v461 =>
                  (.br (decide (v461 < (0 : Int))) (
                   .leaf false
                  ) (
                   (.br (!decide (v461 = v453.1)) (
                    .leaf false
                   ) (
                    .leaf true
                   ))
                  )))
                 ))
                )))
               ) (fun v459 =>
                (.call (laws_eqMatrix_g v459.1 v459.2.1 v459.2.2 (0 : Int) (0 : Int) ([] : List Nat)) fun v462 =>
                (.br (!v462) (
                 .leaf false
                ) (
                 (.br (!(true == false)) (
                  .leaf false
                 ) (
                  (.call (laws_heldMatrix_g v453.2 (1 : Int)) fun v463 =>
                  (.br (decide (v463 < (0 : Int))) (
                   .leaf false
                  ) (
                   (.br (!decide (v463 = v453.1)) (
                    .leaf false
                   ) (
                    .leaf true
                   ))
                  )))
                 ))
                )))
               )))))
              ))
             )))))
            ))
           )))
          ))))))
         ))))
        ))))
       ))
      )))
     )))))
    ) (fun v143 =>
     (.call (laws_toMatrix_g v1 v2 v3) fun v464 =>
     (.call (laws_toMatrix_g v4 v5 v6) fun v465 =>
     (.call (impl_MulShared_g v464.1 v464.2.1 v464.2.2 v465.1 v465.2.1 v465.2.2 v7) fun v466 =>
     (.sum v466 (fun v467 =>
      (.call (laws_eqMatrix_g (0 : Int) (0 : Int) ([] : List Nat) v143.1 v143.2.1 v143.2.2) fun v469 =>
      (.br (!v469) (
       .leaf false
      ) (
       (.br (!(false == true)) (
        .leaf false
       ) (
        (.call (laws_toMatrix_g v1 v2 v3) fun v470 =>
        (.call (laws_eqMatrix_g v464.1 v464.2.1 v464.2.2 v470.1 v470.2.1 v470.2.2) fun v471 =>
        (.br (!v471) (
         .leaf false
        ) (
         (.call (laws_toMatrix_g v4 v5 v6) fun v472 =>
         (.call (laws_eqMatrix_g v465.1 v465.2.1 v465.2.2 v472.1 v472.2.1 v472.2.2) fun v473 =>
         (.br (!v473) (
          .leaf false
         ) (
          (.call (laws_markMatrix_g v464.2.2 (1 : Int)) fun v474 =>
          (.grd (decide (v474.2.length = v464.2.2.length)) <|
          (.call (laws_markMatrix_g v465.2.2 v474.1) fun v475 =>
          (.grd (decide (v475.2.length = v465.2.2.length)) <|
          (.br (decide (v475.1 < (0 : Int))) (
           .leaf false
          ) (
           (.call (laws_eqMatrix_g (0 : Int) (0 : Int) ([] : List Nat) v143.1 v143.2.1 v143.2.2) fun v476 =>
           (.br (!v476) (
            .leaf false
           ) (
            (.br (!(false == true)) (
             .leaf false
            ) (
             (.call (laws_markMatrix_i1_g (1 : Int)) fun v477 =>
             (.call (laws_heldMatrix_g ([] : List Nat) (1 : Int)) fun v478 =>
             (.br (decide (v478 < (0 : Int))) (
              .leaf false
             ) (
              (.br (!decide (v478 = v477)) (
               .leaf false
              ) (
               (.call (laws_toMatrix_g v1 v2 v3) fun v479 =>
               (.call (laws_toMatrix_g v4 v5 v6) fun v480 =>
               (.call (impl_MulShared_g v479.1 v479.2.1 v479.2.2 v480.1 v480.2.1 v480.2.2 v7) fun v481 =>
               (.sum v481 (fun v482 =>
                (.call (laws_eqMatrix_g (0 : Int) (0 : Int) ([] : List Nat) v143.1 v143.2.1 v143.2.2) fun v484 =>
                (.br (!v484) (
                 .leaf false
                ) (
                 (.br (!(false == true)) (
                  .leaf false
                 ) (
                  (.call (laws_heldMatrix_g ([] : List Nat) (1 : Int)) fun v485 =>
                  (.br (decide (v485 < (0 : Int))) (
                   .leaf false
                  ) (
                   (.br (!decide (v485 = v477)) (
                    .leaf false
                   ) (
                    .leaf true
                   ))
                  )))
                 ))
                )))
               ) (fun v483 =>
                (.call (laws_eqMatrix_g v483.1 v483.2.1 v483.2.2 v143.1 v143.2.1 v143.2.2) fun v486 =>
                (.br (!v486) (
                 .leaf false
                ) (
                 (.br (!(true == true)) (
                  .leaf false
                 ) (
                  (.call (laws_heldMatrix_g ([] : List Nat) (1 : Int)) fun v487 =>
                  (.br (decide (v487 < (0 : Int))) (
                   .leaf false
                  ) (
                   (.br (!decide (v487 = v477)) (
                    .leaf false
                   ) (
                    .leaf true
                   ))
                  )))
                 ))
                )))
               )))))
              ))
             ))))
            ))
           )))
          ))))))
         ))))
        ))))
       ))
      )))
     ) (fun v468 =>
      (.call (laws_eqMatrix_g v468.1 v468.2.1 v468.2.2 v143.1 v143.2.1 v143.2.2) fun v488 =>
      (.br (!v488) (
       .leaf false
      ) (
       (.br (!(true == true)) (
        .leaf false
       ) (
        (.call (laws_toMatrix_g v1 v2 v3) fun v489 =>
        (.call (laws_eqMatrix_g v464.1 v464.2.1 v464.2.2 v489.1 v489.2.1 v489.2.2) fun v490 =>
        (.br (!v490) (
         .leaf false
        ) (
         (.call (laws_toMatrix_g v4 v5 v6) fun v491 =>
         (.call (laws_eqMatrix_g v465.1 v465.2.1 v465.2.2 v491.1 v491.2.1 v491.2.2) fun v492 =>
         (.br (!v492) (
          .leaf false
         ) (
          (.call (laws_markMatrix_g v464.2.2 (1 : Int)) fun v493 =>
          (.grd (decide (v493.2.length = v464.2.2.length)) <|
          (.call (laws_markMatrix_g v465.2.2 v493.1) fun v494 =>
          (.grd (decide (v494.2.length = v465.2.2.length)) <|
          (.br (decide (v494.1 < (0 : Int))) (
           .leaf false
          ) (
           (.call (laws_eqMatrix_g v468.1 v468.2.1 v468.2.2 v143.1 v143.2.1 v143.2.2) fun v495 =>
           (.br (!v495) (
            .leaf false
           ) (
            (.br (!(true == true)) (
             .leaf false
            ) (
             (.call (laws_markMatrix_g v468.2.2 (1 : Int)) fun v496 =>
             (.grd (decide (v496.2.length = v468.2.2.length)) <|
             (.call (laws_heldMatrix_g v496.2 (1 : Int)) fun v497 =>
             (.br (decide (v497 < (0 : Int))) (
              .leaf false
             ) (
              (.br (!decide (v497 = v496.1)) (
               .leaf false
              ) (
               (.call (laws_toMatrix_g v1 v2 v3) fun v498 =>
               (.call (laws_toMatrix_g v4 v5 v6) fun v499 =>
               (.call (impl_MulShared_g v498.1 v498.2.1 v498.2.2 v499.1 v499.2.1 v499.2.2 v7) fun v500 =>
               (.sum v500 (fun v501 =>
                (.call (laws_eqMatrix_g (0 : Int) (0 : Int) ([] : List Nat) v143.1 v143.2.1 v143.2.2) fun v503 =>
                (.br (!v503) (
                 .leaf false
                ) (
                 (.br (!(false == true)) (
                  .leaf false
                 ) (
                  (.call (laws_heldMatrix_g v496.2 (1 : Int)) fun v504 =>
                  (.br (decide (v504 < (0 : Int))) (
                   .leaf false
                  ) (
                   (.br (!decide (v504 = v496.1)) (
                    .leaf false
                   ) (
                    .leaf true
                   ))
                  )))
                 ))
                )))
               ) (fun v502 =>
                (.call (laws_eqMatrix_g v502.1 v502.2.1 v502.2.2 v143.1 v143.2.1 v143.2.2) fun v505 =>
                (.br (!v505) (
                 .leaf false
                ) (
                 (.br (!(true == true)) (
                  .leaf false
                 ) (
                  (.call (laws_heldMatrix_g v496.2 (1 : Int)) fun v506 =>
                  (.br (decide (v506 < (0 : Int))) (
                   .leaf false
                  ) (
                   (.br (!decide (v506 = v496.1)) (
                    .leaf false
                   ) (
                    .leaf true
                   ))
                  )))
                 ))
                )))
               )))))
              ))
             )))))
            ))
           )))
          ))))))
         ))))
        ))))
       ))
      )))
     )))))
    )))))
   ))
  ))

noncomputable def laws_FnExactMulShared_g (v1 : Int) (v2 : Int) (v3 : List Nat) (v4 : Int) (v5 : Int) (v6 : List Nat) (v7 : Int) : Option (Bool) := (laws_FnExactMulShared_T v1 v2 v3 v4 v5 v6 v7).run
def laws_FnExactMulShared_enc (v1 : Int) (v2 : Int) (v3 : List Nat) (v4 : Int) (v5 : Int) (v6 : List Nat) (v7 : Int) (y : Bool) : Rs := (.bool y, [])
theorem laws_FnExactMulShared_den (v1 : Int) (v2 : Int) (v3 : List Nat) (v4 : Int) (v5 : Int) (v6 : List Nat) (v7 : Int) : (den TT (tabD laws_FnExactMulShared_tab) (tabM laws_FnExactMulShared_tab) (laws_FnExactMulShared_LO v1 v2 v3 v4 v5 v6 v7) (codeOf Try.f4) ([.agg [.int .i64 v1, .int .i64 v2, .bslc (BR.root 0) (.f32 v3)], .agg [.int .i64 v4, .int .i64 v5, .bslc (BR.root 1) (.f32 v6)], .int .i64 v7] ++ List.replicate (Try.f4.ntmps - ([.agg [.int .i64 v1, .int .i64 v2, .bslc (BR.root 0) (.f32 v3)], .agg [.int .i64 v4, .int .i64 v5, .bslc (BR.root 1) (.f32 v6)], .int .i64 v7] : List DV).length) .undef) []).bind (retD TT Try.f4.results.toList 0) = (laws_FnExactMulShared_T v1 v2 v3 v4 v5 v6 v7).bind fun y => .leaf (laws_FnExactMulShared_enc v1 v2 v3 v4 v5 v6 v7 y) := by kernel_rfl
theorem laws_FnExactMulShared_fn (v1 : Int) (v2 : Int) (v3 : List Nat) (v4 : Int) (v5 : Int) (v6 : List Nat) (v7 : Int) (F : Fr) (hm : F.ids.length = 0) (h0 : St F [] F.H0) (hA : DVs.Ok F [] [.agg [.int .i64 v1, .int .i64 v2, .bslc (BR.root 0) (.f32 v3)], .agg [.int .i64 v4, .int .i64 v5, .bslc (BR.root 1) (.f32 v6)], .int .i64 v7]) {y : Bool} (hy : laws_FnExactMulShared_g v1 v2 v3 v4 v5 v6 v7 = some y) : ∃ H', FnOk Try.prog 4 (DVs.av F [.agg [.int .i64 v1, .int .i64 v2, .bslc (BR.root 0) (.f32 v3)], .agg [.int .i64 v4, .int .i64 v5, .bslc (BR.root 1) (.f32 v6)], .int .i64 v7]) F.H0 ((laws_FnExactMulShared_enc v1 v2 v3 v4 v5 v6 v7 y).1.av F) H' ∧ St F (laws_FnExactMulShared_enc v1 v2 v3 v4 v5 v6 v7 y).2 H' ∧ (laws_FnExactMulShared_enc v1 v2 v3 v4 v5 v6 v7 y).1.Ok F (laws_FnExactMulShared_enc v1 v2 v3 v4 v5 v6 v7 y).2 :=
  fn_fin tok laws_FnExactMulShared_hO mixed Try.func4 Try.call4 (by kernel_rfl) (LoopsOk_eq (l := []) (by kernel_rfl) trivial) (laws_FnExactMulShared_den v1 v2 v3 v4 v5 v6 v7) hy hm h0 hA
noncomputable def laws_FnExactMulShared_F : DFn := fun args L =>
  match args with
  | [.agg [.int .i64 v1, .int .i64 v2, a1], .agg [.int .i64 v4, .int .i64 v5, a2], .int .i64 v7] =>
    optT (rowF32 L a1) fun v3 =>
    optT (rowF32 L a2) fun v6 =>
    .call (laws_FnExactMulShared_g v1 v2 v3 v4 v5 v6 v7) fun y => .leaf (.bool y, L)
  | _ => .fail
theorem laws_FnExactMulShared_Fok : COk Try.prog 4 laws_FnExactMulShared_F true := by
  intro F L H args r L' hs ha hr
  unfold laws_FnExactMulShared_F at hr
  split at hr
  · rename_i v1 v2 a1 v4 v5 a2 v7
    obtain ⟨v3, hv3, hr⟩ := optT_run hr
    obtain ⟨v6, hv6, hr⟩ := optT_run hr
    simp only [Tree.run] at hr
    obtain ⟨y, hy, hr⟩ := Option.bind_eq_some_iff.1 hr
    simp only [Tree.run, Option.some.injEq, Prod.mk.injEq] at hr
    obtain ⟨rfl, rfl⟩ := hr
    exact call_ok0 hs (fun k => (([a1.av F, a2.av F] : List AV)[k]?).getD .top) [.agg [.int .i64 v1, .int .i64 v2, a1], .agg [.int .i64 v4, .int .i64 v5, a2], .int .i64 v7] [.agg [.int .i64 v1, .int .i64 v2, .bslc (BR.root 0) (.f32 v3)], .agg [.int .i64 v4, .int .i64 v5, .bslc (BR.root 1) (.f32 v6)], .int .i64 v7] (fun F' h0 hi hρ => ⟨by simp [DVs.av, DV.av, BR.av, hρ], laws_FnExactMulShared_fn v1 v2 v3 v4 v5 v6 v7 F' (by rw [hi]; rfl) (st_nil hi) ⟨⟨trivial, trivial, bslc_ok hi (by rw [h0, hρ]; exact rowF32_ok hs (DVs.okAt (DVs.okAt ha 0 rfl) 2 rfl) hv3), trivial⟩, ⟨trivial, trivial, bslc_ok hi (by rw [h0, hρ]; exact rowF32_ok hs (DVs.okAt (DVs.okAt ha 1 rfl) 2 rfl) hv6), trivial⟩, trivial, trivial⟩ hy⟩) rfl
  · cases hr
/-! laws.szFloat32S -/
noncomputable def laws_szFloat32S_len_LO (v518 : Nat) (v519 : Int) : LOr := fun id e L =>
  match id with
  | _ => .fail
noncomputable def laws_szFloat32S_len_tab : List (FuncId × DFn × Bool) := []
theorem laws_szFloat32S_len_hO : OrcOk Try.prog (tabD laws_szFloat32S_len_tab) (tabM laws_szFloat32S_len_tab) := tabD_nil _
noncomputable def laws_szFloat32S_len_T (v518 : Nat) (v519 : Int) : Tree (Int) :=
  (.br (decide (IntKind.i64.wrap (v519 - ((v518 : Nat) : Int)) < (0 : Int))) (
   .leaf (-1 : Int)
  ) (
   .leaf (IntKind.i64.wrap (v519 - ((v518 : Nat) : Int)))
  ))

noncomputable def laws_szFloat32S_len_g (v518 : Nat) (v519 : Int) : Option (Int) := (laws_szFloat32S_len_T v518 v519).run
def laws_szFloat32S_len_enc (v518 : Nat) (v519 : Int) (y : Int) : Rs := (.int .i64 y, [])
theorem laws_szFloat32S_len_den (v518 : Nat) (v519 : Int) : (den TT (tabD laws_szFloat32S_len_tab) (tabM laws_szFloat32S_len_tab) (laws_szFloat32S_len_LO v518 v519) (codeOf Try.f56) ([.hslc (BR.root 0) v518, .int .i64 v519] ++ List.replicate (Try.f56.ntmps - ([.hslc (BR.root 0) v518, .int .i64 v519] : List DV).length) .undef) []).bind (retD TT Try.f56.results.toList 0) = (laws_szFloat32S_len_T v518 v519).bind fun y => .leaf (laws_szFloat32S_len_enc v518 v519 y) := by kernel_rfl
theorem laws_szFloat32S_len_fn (v518 : Nat) (v519 : Int) (F : Fr) (hm : F.ids.length = 0) (h0 : St F [] F.H0) (hA : DVs.Ok F [] [.hslc (BR.root 0) v518, .int .i64 v519]) {y : Int} (hy : laws_szFloat32S_len_g v518 v519 = some y) : ∃ H', FnOk Try.prog 56 (DVs.av F [.hslc (BR.root 0) v518, .int .i64 v519]) F.H0 ((laws_szFloat32S_len_enc v518 v519 y).1.av F) H' ∧ St F (laws_szFloat32S_len_enc v518 v519 y).2 H' ∧ (laws_szFloat32S_len_enc v518 v519 y).1.Ok F (laws_szFloat32S_len_enc v518 v519 y).2 :=
  fn_fin tok laws_szFloat32S_len_hO mixed Try.func56 Try.call56 (by kernel_rfl) (LoopsOk_eq (l := []) (by kernel_rfl) trivial) (laws_szFloat32S_len_den v518 v519) hy hm h0 hA
def laws_szFloat32S_len_v (v518 : Nat) (v519 : Int) : Int :=
  if (decide (IntKind.i64.wrap (v519 - ((v518 : Nat) : Int)) < (0 : Int))) = true then (
   (-1 : Int)
  ) else (
   IntKind.i64.wrap (v519 - ((v518 : Nat) : Int))
  )
theorem laws_szFloat32S_len_tot (v518 : Nat) (v519 : Int) : laws_szFloat32S_len_g v518 v519 = some (laws_szFloat32S_len_v v518 v519) := by
  unfold laws_szFloat32S_len_g laws_szFloat32S_len_T laws_szFloat32S_len_v
  simp only [Tree.run]
  repeat' (first | rfl | split)
noncomputable def laws_szFloat32S_len_F : DFn := fun args L =>
  match args with
  | [a1, .int .i64 v519] =>
    optT (lenV L a1) fun v518 =>
    .leaf (.int .i64 (laws_szFloat32S_len_v v518 v519), L)
  | _ => .fail
theorem laws_szFloat32S_len_Fok : COk Try.prog 56 laws_szFloat32S_len_F true := by
  intro F L H args r L' hs ha hr
  unfold laws_szFloat32S_len_F at hr
  split at hr
  · rename_i a1 v519
    obtain ⟨v518, hv518, hr⟩ := optT_run hr
    have hy := laws_szFloat32S_len_tot v518 v519
    generalize laws_szFloat32S_len_v v518 v519 = y at hy hr
    simp only [Tree.run, Option.some.injEq, Prod.mk.injEq] at hr
    obtain ⟨rfl, rfl⟩ := hr
    exact call_ok0 hs (fun k => (([a1.av F] : List AV)[k]?).getD .top) [a1, .int .i64 v519] [.hslc (BR.root 0) v518, .int .i64 v519] (fun F' h0 hi hρ => ⟨by simp [DVs.av, DV.av, BR.av, hρ], laws_szFloat32S_len_fn v518 v519 F' (by rw [hi]; rfl) (st_nil hi) ⟨hslc_ok hi (by rw [h0, hρ]; exact lenV_ok hs (DVs.okAt ha 0 rfl) hv518), trivial, trivial⟩ hy⟩) rfl
  · cases hr
/-! laws.szMatrix -/
noncomputable def laws_szMatrix_len_LO (v514 : Int) (v515 : Int) (v516 : Nat) (v517 : Int) : LOr := fun id e L =>
  match id with
  | _ => .fail
noncomputable def laws_szMatrix_len_tab : List (FuncId × DFn × Bool) := [(56, laws_szFloat32S_len_F, true)]
theorem laws_szMatrix_len_hO : OrcOk Try.prog (tabD laws_szMatrix_len_tab) (tabM laws_szMatrix_len_tab) := tabD_cons laws_szFloat32S_len_Fok (tabD_nil _)
noncomputable def laws_szMatrix_len_T (v516 : Nat) (v517 : Int) : Tree (Int) :=
  (.br (decide ((laws_szFloat32S_len_v v516 v517) < (0 : Int))) (
   .leaf (-1 : Int)
  ) (
   .leaf (laws_szFloat32S_len_v v516 v517)
  ))

noncomputable def laws_szMatrix_len_g (v516 : Nat) (v517 : Int) : Option (Int) := (laws_szMatrix_len_T v516 v517).run
def laws_szMatrix_len_enc (v514 : Int) (v515 : Int) (v516 : Nat) (v517 : Int) (y : Int) : Rs := (.int .i64 y, [])
theorem laws_szMatrix_len_den (v514 : Int) (v515 : Int) (v516 : Nat) (v517 : Int) : (den TT (tabD laws_szMatrix_len_tab) (tabM laws_szMatrix_len_tab) (laws_szMatrix_len_LO v514 v515 v516 v517) (codeOf Try.f15) ([.agg [.int .i64 v514, .int .i64 v515, .hslc (BR.root 0) v516], .int .i64 v517] ++ List.replicate (Try.f15.ntmps - ([.agg [.int .i64 v514, .int .i64 v515, .hslc (BR.root 0) v516], .int .i64 v517] : List DV).length) .undef) []).bind (retD TT Try.f15.results.toList 0) = (laws_szMatrix_len_T v516 v517).bind fun y => .leaf (laws_szMatrix_len_enc v514 v515 v516 v517 y) := by kernel_rfl
theorem laws_szMatrix_len_fn (v514 : Int) (v515 : Int) (v516 : Nat) (v517 : Int) (F : Fr) (hm : F.ids.length = 0) (h0 : St F [] F.H0) (hA : DVs.Ok F [] [.agg [.int .i64 v514, .int .i64 v515, .hslc (BR.root 0) v516], .int .i64 v517]) {y : Int} (hy : laws_szMatrix_len_g v516 v517 = some y) : ∃ H', FnOk Try.prog 15 (DVs.av F [.agg [.int .i64 v514, .int .i64 v515, .hslc (BR.root 0) v516], .int .i64 v517]) F.H0 ((laws_szMatrix_len_enc v514 v515 v516 v517 y).1.av F) H' ∧ St F (laws_szMatrix_len_enc v514 v515 v516 v517 y).2 H' ∧ (laws_szMatrix_len_enc v514 v515 v516 v517 y).1.Ok F (laws_szMatrix_len_enc v514 v515 v516 v517 y).2 :=
  fn_fin tok laws_szMatrix_len_hO mixed Try.func15 Try.call15 (by kernel_rfl) (LoopsOk_eq (l := []) (by kernel_rfl) trivial) (laws_szMatrix_len_den v514 v515 v516 v517) hy hm h0 hA
def laws_szMatrix_len_v (v516 : Nat) (v517 : Int) : Int :=
  if (decide ((laws_szFloat32S_len_v v516 v517) < (0 : Int))) = true then (
   (-1 : Int)
  ) else (
   (laws_szFloat32S_len_v v516 v517)
  )
theorem laws_szMatrix_len_tot (v516 : Nat) (v517 : Int) : laws_szMatrix_len_g v516 v517 = some (laws_szMatrix_len_v v516 v517) := by
  unfold laws_szMatrix_len_g laws_szMatrix_len_T laws_szMatrix_len_v
  simp only [Tree.run]
  repeat' (first | rfl | split)
noncomputable def laws_szMatrix_len_F : DFn := fun args L =>
  match args with
  | [.agg [.int .i64 v514, .int .i64 v515, a1], .int .i64 v517] =>
    optT (lenV L a1) fun v516 =>
    .leaf (.int .i64 (laws_szMatrix_len_v v516 v517), L)
  | _ => .fail
theorem laws_szMatrix_len_Fok : COk Try.prog 15 laws_szMatrix_len_F true := by
  intro F L H args r L' hs ha hr
  unfold laws_szMatrix_len_F at hr
  split at hr
  · rename_i v514 v515 a1 v517
    obtain ⟨v516, hv516, hr⟩ := optT_run hr
    have hy := laws_szMatrix_len_tot v516 v517
    generalize laws_szMatrix_len_v v516 v517 = y at hy hr
    simp only [Tree.run, Option.some.injEq, Prod.mk.injEq] at hr
    obtain ⟨rfl, rfl⟩ := hr
    exact call_ok0 hs (fun k => (([a1.av F] : List AV)[k]?).getD .top) [.agg [.int .i64 v514, .int .i64 v515, a1], .int .i64 v517] [.agg [.int .i64 v514, .int .i64 v515, .hslc (BR.root 0) v516], .int .i64 v517] (fun F' h0 hi hρ => ⟨by simp [DVs.av, DV.av, BR.av, hρ], laws_szMatrix_len_fn v514 v515 v516 v517 F' (by rw [hi]; rfl) (st_nil hi) ⟨⟨trivial, trivial, hslc_ok hi (by rw [h0, hρ]; exact lenV_ok hs (DVs.okAt (DVs.okAt ha 0 rfl) 2 rfl) hv516), trivial⟩, trivial, trivial⟩ hy⟩) rfl
  · cases hr
/-! laws.FnExactMulShared -/
noncomputable def laws_FnExactMulShared_len_LO (v507 : Int) (v508 : Int) (v509 : Nat) (v510 : Int) (v511 : Int) (v512 : Nat) (v513 : Int) : LOr := fun id e L =>
  match id with
  | _ => .fail
noncomputable def laws_FnExactMulShared_len_tab : List (FuncId × DFn × Bool) := [(15, laws_szMatrix_len_F, true)]
theorem laws_FnExactMulShared_len_hO : OrcOk Try.prog (tabD laws_FnExactMulShared_len_tab) (tabM laws_FnExactMulShared_len_tab) := tabD_cons laws_szMatrix_len_Fok (tabD_nil _)
noncomputable def laws_FnExactMulShared_len_T (v509 : Nat) (v512 : Nat) : Tree (Bool) :=
  (.br (decide ((laws_szMatrix_len_v v509 (1048576 : Int)) < (0 : Int))) (
   .leaf true
  ) (
   (.br (decide ((laws_szMatrix_len_v v512 (laws_szMatrix_len_v v509 (1048576 : Int))) < (0 : Int))) (
    .leaf true
   ) (
    .fail
   ))
  ))

noncomputable def laws_FnExactMulShared_len_g (v509 : Nat) (v512 : Nat) : Option (Bool) := (laws_FnExactMulShared_len_T v509 v512).run
def laws_FnExactMulShared_len_enc (v507 : Int) (v508 : Int) (v509 : Nat) (v510 : Int) (v511 : Int) (v512 : Nat) (v513 : Int) (y : Bool) : Rs := (.bool y, [])
theorem laws_FnExactMulShared_len_den (v507 : Int) (v508 : Int) (v509 : Nat) (v510 : Int) (v511 : Int) (v512 : Nat) (v513 : Int) : (den TT (tabD laws_FnExactMulShared_len_tab) (tabM laws_FnExactMulShared_len_tab) (laws_FnExactMulShared_len_LO v507 v508 v509 v510 v511 v512 v513) (codeOf Try.f4) ([.agg [.int .i64 v507, .int .i64 v508, .hslc (BR.root 0) v509], .agg [.int .i64 v510, .int .i64 v511, .hslc (BR.root 1) v512], .int .i64 v513] ++ List.replicate (Try.f4.ntmps - ([.agg [.int .i64 v507, .int .i64 v508, .hslc (BR.root 0) v509], .agg [.int .i64 v510, .int .i64 v511, .hslc (BR.root 1) v512], .int .i64 v513] : List DV).length) .undef) []).bind (retD TT Try.f4.results.toList 0) = (laws_FnExactMulShared_len_T v509 v512).bind fun y => .leaf (laws_FnExactMulShared_len_enc v507 v508 v509 v510 v511 v512 v513 y) := by kernel_rfl
theorem laws_FnExactMulShared_len_fn (v507 : Int) (v508 : Int) (v509 : Nat) (v510 : Int) (v511 : Int) (v512 : Nat) (v513 : Int) (F : Fr) (hm : F.ids.length = 0) (h0 : St F [] F.H0) (hA : DVs.Ok F [] [.agg [.int .i64 v507, .int .i64 v508, .hslc (BR.root 0) v509], .agg [.int .i64 v510, .int .i64 v511, .hslc (BR.root 1) v512], .int .i64 v513]) {y : Bool} (hy : laws_FnExactMulShared_len_g v509 v512 = some y) : ∃ H', FnOk Try.prog 4 (DVs.av F [.agg [.int .i64 v507, .int .i64 v508, .hslc (BR.root 0) v509], .agg [.int .i64 v510, .int .i64 v511, .hslc (BR.root 1) v512], .int .i64 v513]) F.H0 ((laws_FnExactMulShared_len_enc v507 v508 v509 v510 v511 v512 v513 y).1.av F) H' ∧ St F (laws_FnExactMulShared_len_enc v507 v508 v509 v510 v511 v512 v513 y).2 H' ∧ (laws_FnExactMulShared_len_enc v507 v508 v509 v510 v511 v512 v513 y).1.Ok F (laws_FnExactMulShared_len_enc v507 v508 v509 v510 v511 v512 v513 y).2 :=
  fn_fin tok laws_FnExactMulShared_len_hO mixed Try.func4 Try.call4 (by kernel_rfl) (LoopsOk_eq (l := []) (by kernel_rfl) trivial) (laws_FnExactMulShared_len_den v507 v508 v509 v510 v511 v512 v513) hy hm h0 hA
noncomputable def laws_FnExactMulShared_len_F : DFn := fun args L =>
  match args with
  | [.agg [.int .i64 v507, .int .i64 v508, a1], .agg [.int .i64 v510, .int .i64 v511, a2], .int .i64 v513] =>
    optT (lenV L a1) fun v509 =>
    optT (lenV L a2) fun v512 =>
    .call (laws_FnExactMulShared_len_g v509 v512) fun y => .leaf (.bool y, L)
  | _ => .fail
theorem laws_FnExactMulShared_len_Fok : COk Try.prog 4 laws_FnExactMulShared_len_F true := by
  intro F L H args r L' hs ha hr
  unfold laws_FnExactMulShared_len_F at hr
  split at hr
  · rename_i v507 v508 a1 v510 v511 a2 v513
    obtain ⟨v509, hv509, hr⟩ := optT_run hr
    obtain ⟨v512, hv512, hr⟩ := optT_run hr
    simp only [Tree.run] at hr
    obtain ⟨y, hy, hr⟩ := Option.bind_eq_some_iff.1 hr
    simp only [Tree.run, Option.some.injEq, Prod.mk.injEq] at hr
    obtain ⟨rfl, rfl⟩ := hr
    exact call_ok0 hs (fun k => (([a1.av F, a2.av F] : List AV)[k]?).getD .top) [.agg [.int .i64 v507, .int .i64 v508, a1], .agg [.int .i64 v510, .int .i64 v511, a2], .int .i64 v513] [.agg [.int .i64 v507, .int .i64 v508, .hslc (BR.root 0) v509], .agg [.int .i64 v510, .int .i64 v511, .hslc (BR.root 1) v512], .int .i64 v513] (fun F' h0 hi hρ => ⟨by simp [DVs.av, DV.av, BR.av, hρ], laws_FnExactMulShared_len_fn v507 v508 v509 v510 v511 v512 v513 F' (by rw [hi]; rfl) (st_nil hi) ⟨⟨trivial, trivial, hslc_ok hi (by rw [h0, hρ]; exact lenV_ok hs (DVs.okAt (DVs.okAt ha 0 rfl) 2 rfl) hv509), trivial⟩, ⟨trivial, trivial, hslc_ok hi (by rw [h0, hρ]; exact lenV_ok hs (DVs.okAt (DVs.okAt ha 1 rfl) 2 rfl) hv512), trivial⟩, trivial, trivial⟩ hy⟩) rfl
  · cases hr
end Go.Proofs.Ytooakheodgndaaa.AM
