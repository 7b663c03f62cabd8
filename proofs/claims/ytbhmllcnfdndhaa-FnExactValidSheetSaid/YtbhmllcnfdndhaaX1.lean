/- Functions: what they come to. -/
import Derived.Test.YtbhmllcnfdndhaaBase
set_option maxRecDepth 100000
set_option maxHeartbeats 4000000
set_option linter.unusedSimpArgs false
set_option linter.unusedVariables false
namespace Go.Proofs.Ytbhmllcnfdndhaa.AM
open Go.Proofs
/-! laws.szFloat32S -/
noncomputable def laws_szFloat32S_LO (v14 : List Nat) (v15 : Int) : LOr := fun id e L =>
  match id with
  | _ => .fail
noncomputable def laws_szFloat32S_tab : List (FuncId × DFn × Bool) := []
theorem laws_szFloat32S_hO : OrcOk Try.prog (tabD laws_szFloat32S_tab) (tabM laws_szFloat32S_tab) := tabD_nil _
noncomputable def laws_szFloat32S_T (v14 : List Nat) (v15 : Int) : Tree (Int) :=
  (.br (decide (IntKind.i64.wrap (v15 - ((v14.length : Nat) : Int)) < (0 : Int))) (
   .leaf (-1 : Int)
  ) (
   .leaf (IntKind.i64.wrap (v15 - ((v14.length : Nat) : Int)))
  ))

noncomputable def laws_szFloat32S_g (v14 : List Nat) (v15 : Int) : Option (Int) := (laws_szFloat32S_T v14 v15).run
def laws_szFloat32S_enc (v14 : List Nat) (v15 : Int) (y : Int) : Rs := (.int .i64 y, [])
theorem laws_szFloat32S_den (v14 : List Nat) (v15 : Int) : (den TT (tabD laws_szFloat32S_tab) (tabM laws_szFloat32S_tab) (laws_szFloat32S_LO v14 v15) (codeOf Try.f42) ([.bslc (BR.root 0) (.f32 v14), .int .i64 v15] ++ List.replicate (Try.f42.ntmps - ([.bslc (BR.root 0) (.f32 v14), .int .i64 v15] : List DV).length) .undef) []).bind (retD TT Try.f42.results.toList 0) = (laws_szFloat32S_T v14 v15).bind fun y => .leaf (laws_szFloat32S_enc v14 v15 y) := by kernel_rfl
theorem laws_szFloat32S_fn (v14 : List Nat) (v15 : Int) (F : Fr) (hm : F.ids.length = 0) (h0 : St F [] F.H0) (hA : DVs.Ok F [] [.bslc (BR.root 0) (.f32 v14), .int .i64 v15]) {y : Int} (hy : laws_szFloat32S_g v14 v15 = some y) : ∃ H', FnOk Try.prog 42 (DVs.av F [.bslc (BR.root 0) (.f32 v14), .int .i64 v15]) F.H0 ((laws_szFloat32S_enc v14 v15 y).1.av F) H' ∧ St F (laws_szFloat32S_enc v14 v15 y).2 H' ∧ (laws_szFloat32S_enc v14 v15 y).1.Ok F (laws_szFloat32S_enc v14 v15 y).2 :=
  fn_fin tok laws_szFloat32S_hO mixed Try.func42 Try.call42 (by kernel_rfl) (LoopsOk_eq (l := []) (by kernel_rfl) trivial) (laws_szFloat32S_den v14 v15) hy hm h0 hA
def laws_szFloat32S_v (v14 : List Nat) (v15 : Int) : Int :=
  if (decide (IntKind.i64.wrap (v15 - ((v14.length : Nat) : Int)) < (0 : Int))) = true then (
   (-1 : Int)
  ) else (
   IntKind.i64.wrap (v15 - ((v14.length : Nat) : Int))
  )
theorem laws_szFloat32S_tot (v14 : List Nat) (v15 : Int) : laws_szFloat32S_g v14 v15 = some (laws_szFloat32S_v v14 v15) := by
  unfold laws_szFloat32S_g laws_szFloat32S_T laws_szFloat32S_v
  simp only [Tree.run]
  repeat' (first | rfl | split)
noncomputable def laws_szFloat32S_F : DFn := fun args L =>
  match args with
  | [a1, .int .i64 v15] =>
    optT (rowF32 L a1) fun v14 =>
    .leaf (.int .i64 (laws_szFloat32S_v v14 v15), L)
  | _ => .fail
theorem laws_szFloat32S_Fok : COk Try.prog 42 laws_szFloat32S_F true := by
  intro F L H args r L' hs ha hr
  unfold laws_szFloat32S_F at hr
  split at hr
  · rename_i a1 v15
    obtain ⟨v14, hv14, hr⟩ := optT_run hr
    have hy := laws_szFloat32S_tot v14 v15
    generalize laws_szFloat32S_v v14 v15 = y at hy hr
    simp only [Tree.run, Option.some.injEq, Prod.mk.injEq] at hr
    obtain ⟨rfl, rfl⟩ := hr
    exact call_ok0 hs (fun k => (([a1.av F] : List AV)[k]?).getD .top) [a1, .int .i64 v15] [.bslc (BR.root 0) (.f32 v14), .int .i64 v15] (fun F' h0 hi hρ => ⟨by simp [DVs.av, DV.av, BR.av, hρ], laws_szFloat32S_fn v14 v15 F' (by rw [hi]; rfl) (st_nil hi) ⟨bslc_ok hi (by rw [h0, hρ]; exact rowF32_ok hs (DVs.okAt ha 0 rfl) hv14), trivial, trivial⟩ hy⟩) rfl
  · cases hr
/-! laws.szMatrix -/
noncomputable def laws_szMatrix_LO (v10 : Int) (v11 : Int) (v12 : List Nat) (v13 : Int) : LOr := fun id e L =>
  match id with
  | _ => .fail
noncomputable def laws_szMatrix_tab : List (FuncId × DFn × Bool) := [(42, laws_szFloat32S_F, true)]
theorem laws_szMatrix_hO : OrcOk Try.prog (tabD laws_szMatrix_tab) (tabM laws_szMatrix_tab) := tabD_cons laws_szFloat32S_Fok (tabD_nil _)
noncomputable def laws_szMatrix_T (v12 : List Nat) (v13 : Int) : Tree (Int) :=
  (.br (decide ((laws_szFloat32S_v v12 v13) < (0 : Int))) (
   .leaf (-1 : Int)
  ) (
   .leaf (laws_szFloat32S_v v12 v13)
  ))

noncomputable def laws_szMatrix_g (v12 : List Nat) (v13 : Int) : Option (Int) := (laws_szMatrix_T v12 v13).run
def laws_szMatrix_enc (v10 : Int) (v11 : Int) (v12 : List Nat) (v13 : Int) (y : Int) : Rs := (.int .i64 y, [])
theorem laws_szMatrix_den (v10 : Int) (v11 : Int) (v12 : List Nat) (v13 : Int) : (den TT (tabD laws_szMatrix_tab) (tabM laws_szMatrix_tab) (laws_szMatrix_LO v10 v11 v12 v13) (codeOf Try.f49) ([.agg [.int .i64 v10, .int .i64 v11, .bslc (BR.root 0) (.f32 v12)], .int .i64 v13] ++ List.replicate (Try.f49.ntmps - ([.agg [.int .i64 v10, .int .i64 v11, .bslc (BR.root 0) (.f32 v12)], .int .i64 v13] : List DV).length) .undef) []).bind (retD TT Try.f49.results.toList 0) = (laws_szMatrix_T v12 v13).bind fun y => .leaf (laws_szMatrix_enc v10 v11 v12 v13 y) := by kernel_rfl
theorem laws_szMatrix_fn (v10 : Int) (v11 : Int) (v12 : List Nat) (v13 : Int) (F : Fr) (hm : F.ids.length = 0) (h0 : St F [] F.H0) (hA : DVs.Ok F [] [.agg [.int .i64 v10, .int .i64 v11, .bslc (BR.root 0) (.f32 v12)], .int .i64 v13]) {y : Int} (hy : laws_szMatrix_g v12 v13 = some y) : ∃ H', FnOk Try.prog 49 (DVs.av F [.agg [.int .i64 v10, .int .i64 v11, .bslc (BR.root 0) (.f32 v12)], .int .i64 v13]) F.H0 ((laws_szMatrix_enc v10 v11 v12 v13 y).1.av F) H' ∧ St F (laws_szMatrix_enc v10 v11 v12 v13 y).2 H' ∧ (laws_szMatrix_enc v10 v11 v12 v13 y).1.Ok F (laws_szMatrix_enc v10 v11 v12 v13 y).2 :=
  fn_fin tok laws_szMatrix_hO mixed Try.func49 Try.call49 (by kernel_rfl) (LoopsOk_eq (l := []) (by kernel_rfl) trivial) (laws_szMatrix_den v10 v11 v12 v13) hy hm h0 hA
def laws_szMatrix_v (v12 : List Nat) (v13 : Int) : Int :=
  if (decide ((laws_szFloat32S_v v12 v13) < (0 : Int))) = true then (
   (-1 : Int)
  ) else (
   (laws_szFloat32S_v v12 v13)
  )
theorem laws_szMatrix_tot (v12 : List Nat) (v13 : Int) : laws_szMatrix_g v12 v13 = some (laws_szMatrix_v v12 v13) := by
  unfold laws_szMatrix_g laws_szMatrix_T laws_szMatrix_v
  simp only [Tree.run]
  repeat' (first | rfl | split)
noncomputable def laws_szMatrix_F : DFn := fun args L =>
  match args with
  | [.agg [.int .i64 v10, .int .i64 v11, a1], .int .i64 v13] =>
    optT (rowF32 L a1) fun v12 =>
    .leaf (.int .i64 (laws_szMatrix_v v12 v13), L)
  | _ => .fail
theorem laws_szMatrix_Fok : COk Try.prog 49 laws_szMatrix_F true := by
  intro F L H args r L' hs ha hr
  unfold laws_szMatrix_F at hr
  split at hr
  · rename_i v10 v11 a1 v13
    obtain ⟨v12, hv12, hr⟩ := optT_run hr
    have hy := laws_szMatrix_tot v12 v13
    generalize laws_szMatrix_v v12 v13 = y at hy hr
    simp only [Tree.run, Option.some.injEq, Prod.mk.injEq] at hr
    obtain ⟨rfl, rfl⟩ := hr
    exact call_ok0 hs (fun k => (([a1.av F] : List AV)[k]?).getD .top) [.agg [.int .i64 v10, .int .i64 v11, a1], .int .i64 v13] [.agg [.int .i64 v10, .int .i64 v11, .bslc (BR.root 0) (.f32 v12)], .int .i64 v13] (fun F' h0 hi hρ => ⟨by simp [DVs.av, DV.av, BR.av, hρ], laws_szMatrix_fn v10 v11 v12 v13 F' (by rw [hi]; rfl) (st_nil hi) ⟨⟨trivial, trivial, bslc_ok hi (by rw [h0, hρ]; exact rowF32_ok hs (DVs.okAt (DVs.okAt ha 0 rfl) 2 rfl) hv12), trivial⟩, trivial, trivial⟩ hy⟩) rfl
  · cases hr
/-! laws.szSheet -/
noncomputable def laws_szSheet_LO (v5 : ByteArray) (v6 : Int) (v7 : Int) (v8 : List Nat) (v9 : Int) : LOr := fun id e L =>
  match id with
  | _ => .fail
noncomputable def laws_szSheet_tab : List (FuncId × DFn × Bool) := [(49, laws_szMatrix_F, true)]
theorem laws_szSheet_hO : OrcOk Try.prog (tabD laws_szSheet_tab) (tabM laws_szSheet_tab) := tabD_cons laws_szMatrix_Fok (tabD_nil _)
noncomputable def laws_szSheet_T (v5 : ByteArray) (v8 : List Nat) (v9 : Int) : Tree (Int) :=
  (.br (decide (IntKind.i64.wrap (v9 - ((v5.size : Nat) : Int)) < (0 : Int))) (
   .leaf (-1 : Int)
  ) (
   (.br (decide ((laws_szMatrix_v v8 (IntKind.i64.wrap (v9 - ((v5.size : Nat) : Int)))) < (0 : Int))) (
    .leaf (-1 : Int)
   ) (
    .leaf (laws_szMatrix_v v8 (IntKind.i64.wrap (v9 - ((v5.size : Nat) : Int))))
   ))
  ))

noncomputable def laws_szSheet_g (v5 : ByteArray) (v8 : List Nat) (v9 : Int) : Option (Int) := (laws_szSheet_T v5 v8 v9).run
def laws_szSheet_enc (v5 : ByteArray) (v6 : Int) (v7 : Int) (v8 : List Nat) (v9 : Int) (y : Int) : Rs := (.int .i64 y, [])
theorem laws_szSheet_den (v5 : ByteArray) (v6 : Int) (v7 : Int) (v8 : List Nat) (v9 : Int) : (den TT (tabD laws_szSheet_tab) (tabM laws_szSheet_tab) (laws_szSheet_LO v5 v6 v7 v8 v9) (codeOf Try.f23) ([.agg [.str v5, .int .i64 v6, .int .i64 v7, .bslc (BR.root 0) (.f32 v8)], .int .i64 v9] ++ List.replicate (Try.f23.ntmps - ([.agg [.str v5, .int .i64 v6, .int .i64 v7, .bslc (BR.root 0) (.f32 v8)], .int .i64 v9] : List DV).length) .undef) []).bind (retD TT Try.f23.results.toList 0) = (laws_szSheet_T v5 v8 v9).bind fun y => .leaf (laws_szSheet_enc v5 v6 v7 v8 v9 y) := by kernel_rfl
theorem laws_szSheet_fn (v5 : ByteArray) (v6 : Int) (v7 : Int) (v8 : List Nat) (v9 : Int) (F : Fr) (hm : F.ids.length = 0) (h0 : St F [] F.H0) (hA : DVs.Ok F [] [.agg [.str v5, .int .i64 v6, .int .i64 v7, .bslc (BR.root 0) (.f32 v8)], .int .i64 v9]) {y : Int} (hy : laws_szSheet_g v5 v8 v9 = some y) : ∃ H', FnOk Try.prog 23 (DVs.av F [.agg [.str v5, .int .i64 v6, .int .i64 v7, .bslc (BR.root 0) (.f32 v8)], .int .i64 v9]) F.H0 ((laws_szSheet_enc v5 v6 v7 v8 v9 y).1.av F) H' ∧ St F (laws_szSheet_enc v5 v6 v7 v8 v9 y).2 H' ∧ (laws_szSheet_enc v5 v6 v7 v8 v9 y).1.Ok F (laws_szSheet_enc v5 v6 v7 v8 v9 y).2 :=
  fn_fin tok laws_szSheet_hO mixed Try.func23 Try.call23 (by kernel_rfl) (LoopsOk_eq (l := []) (by kernel_rfl) trivial) (laws_szSheet_den v5 v6 v7 v8 v9) hy hm h0 hA
def laws_szSheet_v (v5 : ByteArray) (v8 : List Nat) (v9 : Int) : Int :=
  if (decide (IntKind.i64.wrap (v9 - ((v5.size : Nat) : Int)) < (0 : Int))) = true then (
   (-1 : Int)
  ) else (
   if (decide ((laws_szMatrix_v v8 (IntKind.i64.wrap (v9 - ((v5.size : Nat) : Int)))) < (0 : Int))) = true then (
    (-1 : Int)
   ) else (
    (laws_szMatrix_v v8 (IntKind.i64.wrap (v9 - ((v5.size : Nat) : Int))))
   )
  )
theorem laws_szSheet_tot (v5 : ByteArray) (v8 : List Nat) (v9 : Int) : laws_szSheet_g v5 v8 v9 = some (laws_szSheet_v v5 v8 v9) := by
  unfold laws_szSheet_g laws_szSheet_T laws_szSheet_v
  simp only [Tree.run]
  repeat' (first | rfl | split)
noncomputable def laws_szSheet_F : DFn := fun args L =>
  match args with
  | [.agg [.str v5, .int .i64 v6, .int .i64 v7, a1], .int .i64 v9] =>
    optT (rowF32 L a1) fun v8 =>
    .leaf (.int .i64 (laws_szSheet_v v5 v8 v9), L)
  | _ => .fail
theorem laws_szSheet_Fok : COk Try.prog 23 laws_szSheet_F true := by
  intro F L H args r L' hs ha hr
  unfold laws_szSheet_F at hr
  split at hr
  · rename_i v5 v6 v7 a1 v9
    obtain ⟨v8, hv8, hr⟩ := optT_run hr
    have hy := laws_szSheet_tot v5 v8 v9
    generalize laws_szSheet_v v5 v8 v9 = y at hy hr
    simp only [Tree.run, Option.some.injEq, Prod.mk.injEq] at hr
    obtain ⟨rfl, rfl⟩ := hr
    exact call_ok0 hs (fun k => (([a1.av F] : List AV)[k]?).getD .top) [.agg [.str v5, .int .i64 v6, .int .i64 v7, a1], .int .i64 v9] [.agg [.str v5, .int .i64 v6, .int .i64 v7, .bslc (BR.root 0) (.f32 v8)], .int .i64 v9] (fun F' h0 hi hρ => ⟨by simp [DVs.av, DV.av, BR.av, hρ], laws_szSheet_fn v5 v6 v7 v8 v9 F' (by rw [hi]; rfl) (st_nil hi) ⟨⟨trivial, trivial, trivial, bslc_ok hi (by rw [h0, hρ]; exact rowF32_ok hs (DVs.okAt (DVs.okAt ha 0 rfl) 3 rfl) hv8), trivial⟩, trivial, trivial⟩ hy⟩) rfl
  · cases hr
/-! laws.toFloat32S -/
noncomputable def laws_toFloat32S_l0_T (v23 : List Nat) (s : Int × (List Nat)) : Tree ((Int × (List Nat)) ⊕ ((List Nat))) :=
  (.br (decide (s.1 < ((v23.length : Nat) : Int))) (
   (.grd (inb s.1 v23.length) <|
   (.grd (inb s.1 ((s.2).length)) <|
   .leaf (.inl (IntKind.i64.wrap (s.1 + (1 : Int)), List.set s.2 (Int.toNat s.1) (nth v23 (Int.toNat s.1))))))
  ) (
   .leaf (.inr s.2)
  ))

noncomputable def laws_toFloat32S_l0_g (v23 : List Nat) (s0 : Int × (List Nat)) : Option ((List Nat)) := whileM (fun s => (laws_toFloat32S_l0_T v23 s).run) s0
def laws_toFloat32S_l0_E (v23 : List Nat) (s : Int × (List Nat)) : Sd := ([.bslc (BR.root 0) (.f32 v23), .top, .top, .own 0 0 ((s.2).length), .int .i64 s.1, .top, .top, .top, .top, .top, .top, .top, .top, .top, .top, .top, .top, .top, .top, .top, .top, .top], [.row (.f32 s.2) 0])
def laws_toFloat32S_l0_X (v23 : List Nat) (x : (List Nat)) : Out := (.normal, [.top, .top, .top, .own 0 0 ((x).length), .top, .top, .top, .top, .top, .top, .top, .top, .top, .top, .top, .top, .top, .top, .top, .top, .top, .top], [.row (.f32 x) 0])
def laws_toFloat32S_l0_kill : List Nat := [0, 1, 1, 0, 0, 1, 1, 1, 1, 1, 1, 1, 1, 1, 1, 1, 1, 1, 1, 1, 1, 1]
def laws_toFloat32S_l0_nx : Exit → List Nat
  | .exit 0 => [1, 1, 1, 0, 1, 1, 1, 1, 1, 1, 1, 1, 1, 1, 1, 1, 1, 1, 1, 1, 1, 1]
  | .ret => [1, 1, 0, 1, 1, 1, 1, 1, 1, 1, 1, 1, 1, 1, 1, 1, 1, 1, 1, 1, 1, 1]
  | _ => []
noncomputable def laws_toFloat32S_LO (v23 : List Nat) : LOr := fun id e L =>
  match id with
  | 0 => .need (normA 0 laws_toFloat32S_l0_kill e L = some (laws_toFloat32S_l0_E v23 ((gI (vAt e 4)), (gRF L (vAt e 3))))) (.call (laws_toFloat32S_l0_g v23 ((gI (vAt e 4)), (gRF L (vAt e 3)))) fun x => .leaf (laws_toFloat32S_l0_X v23 x))
  | _ => .fail
noncomputable def laws_toFloat32S_tab : List (FuncId × DFn × Bool) := []
theorem laws_toFloat32S_hO : OrcOk Try.prog (tabD laws_toFloat32S_tab) (tabM laws_toFloat32S_tab) := tabD_nil _
theorem laws_toFloat32S_l0_be (v23 : List Nat) (s : Int × (List Nat)) : bodyT TT (tabD laws_toFloat32S_tab) (tabM laws_toFloat32S_tab) (laws_toFloat32S_LO v23) 0 laws_toFloat32S_l0_kill laws_toFloat32S_l0_nx (bodyOf Try.f10 0) 0 (laws_toFloat32S_l0_E v23 s) = (laws_toFloat32S_l0_T v23 s).bind fun y => .leaf (outS (laws_toFloat32S_l0_E v23) (laws_toFloat32S_l0_X v23) y) := by kernel_rfl
theorem laws_toFloat32S_l0_ok (v23 : List Nat) : LSound Try.prog 0 (laws_toFloat32S_LO v23) 0 (bodyOf Try.f10 0) := by
  intro e L out h
  exact lo_ok (E := laws_toFloat32S_l0_E v23) (gT := laws_toFloat32S_l0_T v23) (X := laws_toFloat32S_l0_X v23) (s0 := ((gI (vAt e 4)), (gRF L (vAt e 3)))) tok laws_toFloat32S_hO mixed (LoopsOk_eq (l := []) (by kernel_rfl) trivial) (laws_toFloat32S_l0_be v23) rfl (by intro x; rfl) h
noncomputable def laws_toFloat32S_T (v23 : List Nat) : Tree ((List Nat)) :=
  (.need (((v23.length : Nat) : Int) = ((v23.length : Nat) : Int)) <|
  (.grd (inb ((v23.length : Nat) : Int) (maxN + 1)) <|
  (.need (some (laws_toFloat32S_l0_E v23 ((0 : Int), List.replicate (Int.toNat ((v23.length : Nat) : Int)) (0 : Nat))) = some (laws_toFloat32S_l0_E v23 ((0 : Int), List.replicate (Int.toNat ((v23.length : Nat) : Int)) (0 : Nat)))) <|
  (.call (laws_toFloat32S_l0_g v23 ((0 : Int), List.replicate (Int.toNat ((v23.length : Nat) : Int)) (0 : Nat))) fun v29 =>
  .leaf v29))))

noncomputable def laws_toFloat32S_g (v23 : List Nat) : Option ((List Nat)) := (laws_toFloat32S_T v23).run
def laws_toFloat32S_enc (v23 : List Nat) (y : (List Nat)) : Rs := (.own 0 0 ((y).length), [.row (.f32 y) 0])
theorem laws_toFloat32S_den (v23 : List Nat) : (den TT (tabD laws_toFloat32S_tab) (tabM laws_toFloat32S_tab) (laws_toFloat32S_LO v23) (codeOf Try.f10) ([.bslc (BR.root 0) (.f32 v23)] ++ List.replicate (Try.f10.ntmps - ([.bslc (BR.root 0) (.f32 v23)] : List DV).length) .undef) []).bind (retD TT Try.f10.results.toList 0) = (laws_toFloat32S_T v23).bind fun y => .leaf (laws_toFloat32S_enc v23 y) := by kernel_rfl
theorem laws_toFloat32S_fn (v23 : List Nat) (F : Fr) (hm : F.ids.length = 0) (h0 : St F [] F.H0) (hA : DVs.Ok F [] [.bslc (BR.root 0) (.f32 v23)]) {y : (List Nat)} (hy : laws_toFloat32S_g v23 = some y) : ∃ H', FnOk Try.prog 10 (DVs.av F [.bslc (BR.root 0) (.f32 v23)]) F.H0 ((laws_toFloat32S_enc v23 y).1.av F) H' ∧ St F (laws_toFloat32S_enc v23 y).2 H' ∧ (laws_toFloat32S_enc v23 y).1.Ok F (laws_toFloat32S_enc v23 y).2 :=
  fn_fin tok laws_toFloat32S_hO mixed Try.func10 Try.call10 (by kernel_rfl) (LoopsOk_eq (l := [(0, bodyOf Try.f10 0)]) (by kernel_rfl) ⟨laws_toFloat32S_l0_ok v23, trivial⟩) (laws_toFloat32S_den v23) hy hm h0 hA
noncomputable def laws_toFloat32S_F : DFn := fun args L =>
  match args with
  | [a1] =>
    optT (rowF32 L a1) fun v23 =>
    .call (laws_toFloat32S_g v23) fun y => .leaf (.own (L.length + 0) 0 ((y).length), L ++ [.row (.f32 y) 0])
  | _ => .fail
theorem laws_toFloat32S_Fok : COk Try.prog 10 laws_toFloat32S_F true := by
  intro F L H args r L' hs ha hr
  unfold laws_toFloat32S_F at hr
  split at hr
  · rename_i a1
    obtain ⟨v23, hv23, hr⟩ := optT_run hr
    simp only [Tree.run] at hr
    obtain ⟨y, hy, hr⟩ := Option.bind_eq_some_iff.1 hr
    simp only [Tree.run, Option.some.injEq, Prod.mk.injEq] at hr
    obtain ⟨rfl, rfl⟩ := hr
    exact call_ok1 hs (fun k => (([a1.av F] : List AV)[k]?).getD .top) [a1] [.bslc (BR.root 0) (.f32 v23)] (fun F' h0 hi hρ => ⟨by simp [DVs.av, DV.av, BR.av, hρ], laws_toFloat32S_fn v23 F' (by rw [hi]; rfl) (st_nil hi) ⟨bslc_ok hi (by rw [h0, hρ]; exact rowF32_ok hs (DVs.okAt ha 0 rfl) hv23), trivial⟩ hy⟩) rfl rfl
  · cases hr
/-! laws.toMatrix -/
noncomputable def laws_toMatrix_LO (v20 : Int) (v21 : Int) (v22 : List Nat) : LOr := fun id e L =>
  match id with
  | _ => .fail
noncomputable def laws_toMatrix_tab : List (FuncId × DFn × Bool) := [(10, laws_toFloat32S_F, true)]
theorem laws_toMatrix_hO : OrcOk Try.prog (tabD laws_toMatrix_tab) (tabM laws_toMatrix_tab) := tabD_cons laws_toFloat32S_Fok (tabD_nil _)
noncomputable def laws_toMatrix_T (v20 : Int) (v21 : Int) (v22 : List Nat) : Tree (Int × Int × (List Nat)) :=
  (.call (laws_toFloat32S_g v22) fun v30 =>
  .leaf (v20, v21, v30))

noncomputable def laws_toMatrix_g (v20 : Int) (v21 : Int) (v22 : List Nat) : Option (Int × Int × (List Nat)) := (laws_toMatrix_T v20 v21 v22).run
def laws_toMatrix_enc (v20 : Int) (v21 : Int) (v22 : List Nat) (y : Int × Int × (List Nat)) : Rs := (.agg [.int .i64 y.1, .int .i64 y.2.1, .own 0 0 ((y.2.2).length)], [.row (.f32 y.2.2) 0])
theorem laws_toMatrix_den (v20 : Int) (v21 : Int) (v22 : List Nat) : (den TT (tabD laws_toMatrix_tab) (tabM laws_toMatrix_tab) (laws_toMatrix_LO v20 v21 v22) (codeOf Try.f51) ([.agg [.int .i64 v20, .int .i64 v21, .bslc (BR.root 0) (.f32 v22)]] ++ List.replicate (Try.f51.ntmps - ([.agg [.int .i64 v20, .int .i64 v21, .bslc (BR.root 0) (.f32 v22)]] : List DV).length) .undef) []).bind (retD TT Try.f51.results.toList 0) = (laws_toMatrix_T v20 v21 v22).bind fun y => .leaf (laws_toMatrix_enc v20 v21 v22 y) := by kernel_rfl
theorem laws_toMatrix_fn (v20 : Int) (v21 : Int) (v22 : List Nat) (F : Fr) (hm : F.ids.length = 0) (h0 : St F [] F.H0) (hA : DVs.Ok F [] [.agg [.int .i64 v20, .int .i64 v21, .bslc (BR.root 0) (.f32 v22)]]) {y : Int × Int × (List Nat)} (hy : laws_toMatrix_g v20 v21 v22 = some y) : ∃ H', FnOk Try.prog 51 (DVs.av F [.agg [.int .i64 v20, .int .i64 v21, .bslc (BR.root 0) (.f32 v22)]]) F.H0 ((laws_toMatrix_enc v20 v21 v22 y).1.av F) H' ∧ St F (laws_toMatrix_enc v20 v21 v22 y).2 H' ∧ (laws_toMatrix_enc v20 v21 v22 y).1.Ok F (laws_toMatrix_enc v20 v21 v22 y).2 :=
  fn_fin tok laws_toMatrix_hO mixed Try.func51 Try.call51 (by kernel_rfl) (LoopsOk_eq (l := []) (by kernel_rfl) trivial) (laws_toMatrix_den v20 v21 v22) hy hm h0 hA
noncomputable def laws_toMatrix_F : DFn := fun args L =>
  match args with
  | [.agg [.int .i64 v20, .int .i64 v21, a1]] =>
    optT (rowF32 L a1) fun v22 =>
    .call (laws_toMatrix_g v20 v21 v22) fun y => .leaf (.agg [.int .i64 y.1, .int .i64 y.2.1, .own (L.length + 0) 0 ((y.2.2).length)], L ++ [.row (.f32 y.2.2) 0])
  | _ => .fail
theorem laws_toMatrix_Fok : COk Try.prog 51 laws_toMatrix_F true := by
  intro F L H args r L' hs ha hr
  unfold laws_toMatrix_F at hr
  split at hr
  · rename_i v20 v21 a1
    obtain ⟨v22, hv22, hr⟩ := optT_run hr
    simp only [Tree.run] at hr
    obtain ⟨y, hy, hr⟩ := Option.bind_eq_some_iff.1 hr
    simp only [Tree.run, Option.some.injEq, Prod.mk.injEq] at hr
    obtain ⟨rfl, rfl⟩ := hr
    exact call_ok1 hs (fun k => (([a1.av F] : List AV)[k]?).getD .top) [.agg [.int .i64 v20, .int .i64 v21, a1]] [.agg [.int .i64 v20, .int .i64 v21, .bslc (BR.root 0) (.f32 v22)]] (fun F' h0 hi hρ => ⟨by simp [DVs.av, DV.av, BR.av, hρ], laws_toMatrix_fn v20 v21 v22 F' (by rw [hi]; rfl) (st_nil hi) ⟨⟨trivial, trivial, bslc_ok hi (by rw [h0, hρ]; exact rowF32_ok hs (DVs.okAt (DVs.okAt ha 0 rfl) 2 rfl) hv22), trivial⟩, trivial⟩ hy⟩) rfl rfl
  · cases hr
/-! laws.toSheet -/
noncomputable def laws_toSheet_LO (v16 : ByteArray) (v17 : Int) (v18 : Int) (v19 : List Nat) : LOr := fun id e L =>
  match id with
  | _ => .fail
noncomputable def laws_toSheet_tab : List (FuncId × DFn × Bool) := [(51, laws_toMatrix_F, true)]
theorem laws_toSheet_hO : OrcOk Try.prog (tabD laws_toSheet_tab) (tabM laws_toSheet_tab) := tabD_cons laws_toMatrix_Fok (tabD_nil _)
noncomputable def laws_toSheet_T (v16 : ByteArray) (v17 : Int) (v18 : Int) (v19 : List Nat) : Tree (ByteArray × Int × Int × (List Nat)) :=
  (.call (laws_toMatrix_g v17 v18 v19) fun v31 =>
  .leaf (v16, v31.1, v31.2.1, v31.2.2))

noncomputable def laws_toSheet_g (v16 : ByteArray) (v17 : Int) (v18 : Int) (v19 : List Nat) : Option (ByteArray × Int × Int × (List Nat)) := (laws_toSheet_T v16 v17 v18 v19).run
def laws_toSheet_enc (v16 : ByteArray) (v17 : Int) (v18 : Int) (v19 : List Nat) (y : ByteArray × Int × Int × (List Nat)) : Rs := (.agg [.str y.1, .int .i64 y.2.1, .int .i64 y.2.2.1, .own 0 0 ((y.2.2.2).length)], [.row (.f32 y.2.2.2) 0])
theorem laws_toSheet_den (v16 : ByteArray) (v17 : Int) (v18 : Int) (v19 : List Nat) : (den TT (tabD laws_toSheet_tab) (tabM laws_toSheet_tab) (laws_toSheet_LO v16 v17 v18 v19) (codeOf Try.f25) ([.agg [.str v16, .int .i64 v17, .int .i64 v18, .bslc (BR.root 0) (.f32 v19)]] ++ List.replicate (Try.f25.ntmps - ([.agg [.str v16, .int .i64 v17, .int .i64 v18, .bslc (BR.root 0) (.f32 v19)]] : List DV).length) .undef) []).bind (retD TT Try.f25.results.toList 0) = (laws_toSheet_T v16 v17 v18 v19).bind fun y => .leaf (laws_toSheet_enc v16 v17 v18 v19 y) := by kernel_rfl
theorem laws_toSheet_fn (v16 : ByteArray) (v17 : Int) (v18 : Int) (v19 : List Nat) (F : Fr) (hm : F.ids.length = 0) (h0 : St F [] F.H0) (hA : DVs.Ok F [] [.agg [.str v16, .int .i64 v17, .int .i64 v18, .bslc (BR.root 0) (.f32 v19)]]) {y : ByteArray × Int × Int × (List Nat)} (hy : laws_toSheet_g v16 v17 v18 v19 = some y) : ∃ H', FnOk Try.prog 25 (DVs.av F [.agg [.str v16, .int .i64 v17, .int .i64 v18, .bslc (BR.root 0) (.f32 v19)]]) F.H0 ((laws_toSheet_enc v16 v17 v18 v19 y).1.av F) H' ∧ St F (laws_toSheet_enc v16 v17 v18 v19 y).2 H' ∧ (laws_toSheet_enc v16 v17 v18 v19 y).1.Ok F (laws_toSheet_enc v16 v17 v18 v19 y).2 :=
  fn_fin tok laws_toSheet_hO mixed Try.func25 Try.call25 (by kernel_rfl) (LoopsOk_eq (l := []) (by kernel_rfl) trivial) (laws_toSheet_den v16 v17 v18 v19) hy hm h0 hA
noncomputable def laws_toSheet_F : DFn := fun args L =>
  match args with
  | [.agg [.str v16, .int .i64 v17, .int .i64 v18, a1]] =>
    optT (rowF32 L a1) fun v19 =>
    .call (laws_toSheet_g v16 v17 v18 v19) fun y => .leaf (.agg [.str y.1, .int .i64 y.2.1, .int .i64 y.2.2.1, .own (L.length + 0) 0 ((y.2.2.2).length)], L ++ [.row (.f32 y.2.2.2) 0])
  | _ => .fail
theorem laws_toSheet_Fok : COk Try.prog 25 laws_toSheet_F true := by
  intro F L H args r L' hs ha hr
  unfold laws_toSheet_F at hr
  split at hr
  · rename_i v16 v17 v18 a1
    obtain ⟨v19, hv19, hr⟩ := optT_run hr
    simp only [Tree.run] at hr
    obtain ⟨y, hy, hr⟩ := Option.bind_eq_some_iff.1 hr
    simp only [Tree.run, Option.some.injEq, Prod.mk.injEq] at hr
    obtain ⟨rfl, rfl⟩ := hr
    exact call_ok1 hs (fun k => (([a1.av F] : List AV)[k]?).getD .top) [.agg [.str v16, .int .i64 v17, .int .i64 v18, a1]] [.agg [.str v16, .int .i64 v17, .int .i64 v18, .bslc (BR.root 0) (.f32 v19)]] (fun F' h0 hi hρ => ⟨by simp [DVs.av, DV.av, BR.av, hρ], laws_toSheet_fn v16 v17 v18 v19 F' (by rw [hi]; rfl) (st_nil hi) ⟨⟨trivial, trivial, trivial, bslc_ok hi (by rw [h0, hρ]; exact rowF32_ok hs (DVs.okAt (DVs.okAt ha 0 rfl) 3 rfl) hv19), trivial⟩, trivial⟩ hy⟩) rfl rfl
  · cases hr
/-! spec.l07Name -/
noncomputable def spec_l07Name_l0_T (v41 : ByteArray) (s : Int) : Tree ((Int) ⊕ ((Unit) ⊕ (Unit))) :=
  (.br (decide (s < ((v41.size : Nat) : Int))) (
   (.grd (inb s v41.size) <|
   (.br (decide (bt v41 s < (97 : Int))) (
    .leaf (.inr (.inl ()))
   ) (
    (.grd (inb s v41.size) <|
    (.br (decide ((122 : Int) < bt v41 s)) (
     .leaf (.inr (.inl ()))
    ) (
     .leaf (.inl (IntKind.i64.wrap (s + (1 : Int))))
    )))
   )))
  ) (
   .leaf (.inr (.inr ()))
  ))

noncomputable def spec_l07Name_l0_g (v41 : ByteArray) (s0 : Int) : Option ((Unit) ⊕ (Unit)) := whileM (fun s => (spec_l07Name_l0_T v41 s).run) s0
def spec_l07Name_l0_E (v41 : ByteArray) (s : Int) : Sd := ([.str v41, .top, .top, .int .i64 s, .top, .top, .top, .top, .top, .top, .top, .top, .top, .top, .top, .top, .top, .top, .top, .top, .top, .top, .top, .top, .top, .top, .top, .top], [])
def spec_l07Name_l0_X (v41 : ByteArray) (x : (Unit) ⊕ (Unit)) : Out := (match x with | .inl x => (.ret, [.top, .top, .lit false, .top, .top, .top, .top, .top, .top, .top, .top, .top, .top, .top, .top, .top, .top, .top, .top, .top, .top, .top, .top, .top, .top, .top, .top, .top], []) | .inr x => (.normal, [.str v41, .top, .top, .top, .top, .top, .top, .top, .top, .top, .top, .top, .top, .top, .top, .top, .top, .top, .top, .top, .top, .top, .top, .top, .top, .top, .top, .top], []))
def spec_l07Name_l0_kill : List Nat := [0, 1, 1, 0, 1, 1, 1, 1, 1, 1, 1, 1, 1, 1, 1, 1, 1, 1, 1, 1, 1, 1, 1, 1, 1, 1, 1, 1]
def spec_l07Name_l0_nx : Exit → List Nat
  | .exit 0 => [0, 1, 1, 1, 1, 1, 1, 1, 1, 1, 1, 1, 1, 1, 1, 1, 1, 1, 1, 1, 1, 1, 1, 1, 1, 1, 1, 1]
  | .ret => [1, 1, 0, 1, 1, 1, 1, 1, 1, 1, 1, 1, 1, 1, 1, 1, 1, 1, 1, 1, 1, 1, 1, 1, 1, 1, 1, 1]
  | _ => []
noncomputable def spec_l07Name_LO (v41 : ByteArray) : LOr := fun id e L =>
  match id with
  | 0 => .need (normA 0 spec_l07Name_l0_kill e L = some (spec_l07Name_l0_E v41 (gI (vAt e 3)))) (.call (spec_l07Name_l0_g v41 (gI (vAt e 3))) fun x => .sum x (fun b0 => .leaf (spec_l07Name_l0_X v41 (.inl b0))) (fun c0 => .leaf (spec_l07Name_l0_X v41 (.inr c0))))
  | _ => .fail
noncomputable def spec_l07Name_tab : List (FuncId × DFn × Bool) := []
theorem spec_l07Name_hO : OrcOk Try.prog (tabD spec_l07Name_tab) (tabM spec_l07Name_tab) := tabD_nil _
theorem spec_l07Name_l0_be (v41 : ByteArray) (s : Int) : bodyT TT (tabD spec_l07Name_tab) (tabM spec_l07Name_tab) (spec_l07Name_LO v41) 0 spec_l07Name_l0_kill spec_l07Name_l0_nx (bodyOf Try.f68 0) 0 (spec_l07Name_l0_E v41 s) = (spec_l07Name_l0_T v41 s).bind fun y => .leaf (outS (spec_l07Name_l0_E v41) (spec_l07Name_l0_X v41) y) := by kernel_rfl
theorem spec_l07Name_l0_ok (v41 : ByteArray) : LSound Try.prog 0 (spec_l07Name_LO v41) 0 (bodyOf Try.f68 0) := by
  intro e L out h
  exact lo_ok (E := spec_l07Name_l0_E v41) (gT := spec_l07Name_l0_T v41) (X := spec_l07Name_l0_X v41) (s0 := (gI (vAt e 3))) tok spec_l07Name_hO mixed (LoopsOk_eq (l := []) (by kernel_rfl) trivial) (spec_l07Name_l0_be v41) rfl (by intro x; (cases x with | inl b => rfl | inr x => exact rfl)) h
noncomputable def spec_l07Name_T (v41 : ByteArray) : Tree (Bool) :=
  (.need (some (spec_l07Name_l0_E v41 (0 : Int)) = some (spec_l07Name_l0_E v41 (0 : Int))) <|
  (.call (spec_l07Name_l0_g v41 (0 : Int)) fun v45 =>
  (.sum v45 (fun v46 =>
   .leaf false
  ) (fun v47 =>
   (.br (decide ((1 : Int) ≤ ((v41.size : Nat) : Int))) (
    .leaf (decide (((v41.size : Nat) : Int) ≤ (8 : Int)))
   ) (
    .leaf false
   ))
  ))))

noncomputable def spec_l07Name_g (v41 : ByteArray) : Option (Bool) := (spec_l07Name_T v41).run
def spec_l07Name_enc (v41 : ByteArray) (y : Bool) : Rs := (.bool y, [])
theorem spec_l07Name_den (v41 : ByteArray) : (den TT (tabD spec_l07Name_tab) (tabM spec_l07Name_tab) (spec_l07Name_LO v41) (codeOf Try.f68) ([.str v41] ++ List.replicate (Try.f68.ntmps - ([.str v41] : List DV).length) .undef) []).bind (retD TT Try.f68.results.toList 0) = (spec_l07Name_T v41).bind fun y => .leaf (spec_l07Name_enc v41 y) := by kernel_rfl
theorem spec_l07Name_fn (v41 : ByteArray) (F : Fr) (hm : F.ids.length = 0) (h0 : St F [] F.H0) (hA : DVs.Ok F [] [.str v41]) {y : Bool} (hy : spec_l07Name_g v41 = some y) : ∃ H', FnOk Try.prog 68 (DVs.av F [.str v41]) F.H0 ((spec_l07Name_enc v41 y).1.av F) H' ∧ St F (spec_l07Name_enc v41 y).2 H' ∧ (spec_l07Name_enc v41 y).1.Ok F (spec_l07Name_enc v41 y).2 :=
  fn_fin tok spec_l07Name_hO mixed Try.func68 Try.call68 (by kernel_rfl) (LoopsOk_eq (l := [(0, bodyOf Try.f68 0)]) (by kernel_rfl) ⟨spec_l07Name_l0_ok v41, trivial⟩) (spec_l07Name_den v41) hy hm h0 hA
noncomputable def spec_l07Name_F : DFn := fun args L =>
  match args with
  | [.str v41] =>
    .call (spec_l07Name_g v41) fun y => .leaf (.bool y, L)
  | _ => .fail
theorem spec_l07Name_Fok : COk Try.prog 68 spec_l07Name_F true := by
  intro F L H args r L' hs ha hr
  unfold spec_l07Name_F at hr
  split at hr
  · rename_i v41
    simp only [Tree.run] at hr
    obtain ⟨y, hy, hr⟩ := Option.bind_eq_some_iff.1 hr
    simp only [Tree.run, Option.some.injEq, Prod.mk.injEq] at hr
    obtain ⟨rfl, rfl⟩ := hr
    exact call_ok0 hs (fun k => (([] : List AV)[k]?).getD .top) [.str v41] [.str v41] (fun F' h0 hi hρ => ⟨by simp [DVs.av, DV.av, BR.av, hρ], spec_l07Name_fn v41 F' (by rw [hi]; rfl) (st_nil hi) ⟨trivial, trivial⟩ hy⟩) rfl
  · cases hr
/-! spec.l00In -/
noncomputable def spec_l00In_LO (v54 : Int) (v55 : Int) (v56 : Int) : LOr := fun id e L =>
  match id with
  | _ => .fail
noncomputable def spec_l00In_tab : List (FuncId × DFn × Bool) := []
theorem spec_l00In_hO : OrcOk Try.prog (tabD spec_l00In_tab) (tabM spec_l00In_tab) := tabD_nil _
noncomputable def spec_l00In_T (v54 : Int) (v55 : Int) (v56 : Int) : Tree (Bool) :=
  (.br (decide (v55 ≤ v54)) (
   .leaf (decide (v54 ≤ v56))
  ) (
   .leaf false
  ))

noncomputable def spec_l00In_g (v54 : Int) (v55 : Int) (v56 : Int) : Option (Bool) := (spec_l00In_T v54 v55 v56).run
def spec_l00In_enc (v54 : Int) (v55 : Int) (v56 : Int) (y : Bool) : Rs := (.bool y, [])
theorem spec_l00In_den (v54 : Int) (v55 : Int) (v56 : Int) : (den TT (tabD spec_l00In_tab) (tabM spec_l00In_tab) (spec_l00In_LO v54 v55 v56) (codeOf Try.f78) ([.int .i64 v54, .int .i64 v55, .int .i64 v56] ++ List.replicate (Try.f78.ntmps - ([.int .i64 v54, .int .i64 v55, .int .i64 v56] : List DV).length) .undef) []).bind (retD TT Try.f78.results.toList 0) = (spec_l00In_T v54 v55 v56).bind fun y => .leaf (spec_l00In_enc v54 v55 v56 y) := by kernel_rfl
theorem spec_l00In_fn (v54 : Int) (v55 : Int) (v56 : Int) (F : Fr) (hm : F.ids.length = 0) (h0 : St F [] F.H0) (hA : DVs.Ok F [] [.int .i64 v54, .int .i64 v55, .int .i64 v56]) {y : Bool} (hy : spec_l00In_g v54 v55 v56 = some y) : ∃ H', FnOk Try.prog 78 (DVs.av F [.int .i64 v54, .int .i64 v55, .int .i64 v56]) F.H0 ((spec_l00In_enc v54 v55 v56 y).1.av F) H' ∧ St F (spec_l00In_enc v54 v55 v56 y).2 H' ∧ (spec_l00In_enc v54 v55 v56 y).1.Ok F (spec_l00In_enc v54 v55 v56 y).2 :=
  fn_fin tok spec_l00In_hO mixed Try.func78 Try.call78 (by kernel_rfl) (LoopsOk_eq (l := []) (by kernel_rfl) trivial) (spec_l00In_den v54 v55 v56) hy hm h0 hA
def spec_l00In_v (v54 : Int) (v55 : Int) (v56 : Int) : Bool :=
  if (decide (v55 ≤ v54)) = true then (
   decide (v54 ≤ v56)
  ) else (
   false
  )
theorem spec_l00In_tot (v54 : Int) (v55 : Int) (v56 : Int) : spec_l00In_g v54 v55 v56 = some (spec_l00In_v v54 v55 v56) := by
  unfold spec_l00In_g spec_l00In_T spec_l00In_v
  simp only [Tree.run]
  repeat' (first | rfl | split)
noncomputable def spec_l00In_F : DFn := fun args L =>
  match args with
  | [.int .i64 v54, .int .i64 v55, .int .i64 v56] =>
    .leaf (.bool (spec_l00In_v v54 v55 v56), L)
  | _ => .fail
theorem spec_l00In_Fok : COk Try.prog 78 spec_l00In_F true := by
  intro F L H args r L' hs ha hr
  unfold spec_l00In_F at hr
  split at hr
  · rename_i v54 v55 v56
    have hy := spec_l00In_tot v54 v55 v56
    generalize spec_l00In_v v54 v55 v56 = y at hy hr
    simp only [Tree.run, Option.some.injEq, Prod.mk.injEq] at hr
    obtain ⟨rfl, rfl⟩ := hr
    exact call_ok0 hs (fun k => (([] : List AV)[k]?).getD .top) [.int .i64 v54, .int .i64 v55, .int .i64 v56] [.int .i64 v54, .int .i64 v55, .int .i64 v56] (fun F' h0 hi hρ => ⟨by simp [DVs.av, DV.av, BR.av, hρ], spec_l00In_fn v54 v55 v56 F' (by rw [hi]; rfl) (st_nil hi) ⟨trivial, trivial, trivial, trivial⟩ hy⟩) rfl
  · cases hr
/-! spec.l02Sides -/
noncomputable def spec_l02Sides_LO (v52 : Int) (v53 : Int) : LOr := fun id e L =>
  match id with
  | _ => .fail
noncomputable def spec_l02Sides_tab : List (FuncId × DFn × Bool) := [(78, spec_l00In_F, true)]
theorem spec_l02Sides_hO : OrcOk Try.prog (tabD spec_l02Sides_tab) (tabM spec_l02Sides_tab) := tabD_cons spec_l00In_Fok (tabD_nil _)
noncomputable def spec_l02Sides_T (v52 : Int) (v53 : Int) : Tree (Bool) :=
  (.br (spec_l00In_v v52 (1 : Int) (12 : Int)) (
   .leaf (spec_l00In_v v53 (1 : Int) (12 : Int))
  ) (
   .leaf false
  ))

noncomputable def spec_l02Sides_g (v52 : Int) (v53 : Int) : Option (Bool) := (spec_l02Sides_T v52 v53).run
def spec_l02Sides_enc (v52 : Int) (v53 : Int) (y : Bool) : Rs := (.bool y, [])
theorem spec_l02Sides_den (v52 : Int) (v53 : Int) : (den TT (tabD spec_l02Sides_tab) (tabM spec_l02Sides_tab) (spec_l02Sides_LO v52 v53) (codeOf Try.f76) ([.int .i64 v52, .int .i64 v53] ++ List.replicate (Try.f76.ntmps - ([.int .i64 v52, .int .i64 v53] : List DV).length) .undef) []).bind (retD TT Try.f76.results.toList 0) = (spec_l02Sides_T v52 v53).bind fun y => .leaf (spec_l02Sides_enc v52 v53 y) := by kernel_rfl
theorem spec_l02Sides_fn (v52 : Int) (v53 : Int) (F : Fr) (hm : F.ids.length = 0) (h0 : St F [] F.H0) (hA : DVs.Ok F [] [.int .i64 v52, .int .i64 v53]) {y : Bool} (hy : spec_l02Sides_g v52 v53 = some y) : ∃ H', FnOk Try.prog 76 (DVs.av F [.int .i64 v52, .int .i64 v53]) F.H0 ((spec_l02Sides_enc v52 v53 y).1.av F) H' ∧ St F (spec_l02Sides_enc v52 v53 y).2 H' ∧ (spec_l02Sides_enc v52 v53 y).1.Ok F (spec_l02Sides_enc v52 v53 y).2 :=
  fn_fin tok spec_l02Sides_hO mixed Try.func76 Try.call76 (by kernel_rfl) (LoopsOk_eq (l := []) (by kernel_rfl) trivial) (spec_l02Sides_den v52 v53) hy hm h0 hA
def spec_l02Sides_v (v52 : Int) (v53 : Int) : Bool :=
  if (spec_l00In_v v52 (1 : Int) (12 : Int)) = true then (
   (spec_l00In_v v53 (1 : Int) (12 : Int))
  ) else (
   false
  )
theorem spec_l02Sides_tot (v52 : Int) (v53 : Int) : spec_l02Sides_g v52 v53 = some (spec_l02Sides_v v52 v53) := by
  unfold spec_l02Sides_g spec_l02Sides_T spec_l02Sides_v
  simp only [Tree.run]
  repeat' (first | rfl | split)
noncomputable def spec_l02Sides_F : DFn := fun args L =>
  match args with
  | [.int .i64 v52, .int .i64 v53] =>
    .leaf (.bool (spec_l02Sides_v v52 v53), L)
  | _ => .fail
theorem spec_l02Sides_Fok : COk Try.prog 76 spec_l02Sides_F true := by
  intro F L H args r L' hs ha hr
  unfold spec_l02Sides_F at hr
  split at hr
  · rename_i v52 v53
    have hy := spec_l02Sides_tot v52 v53
    generalize spec_l02Sides_v v52 v53 = y at hy hr
    simp only [Tree.run, Option.some.injEq, Prod.mk.injEq] at hr
    obtain ⟨rfl, rfl⟩ := hr
    exact call_ok0 hs (fun k => (([] : List AV)[k]?).getD .top) [.int .i64 v52, .int .i64 v53] [.int .i64 v52, .int .i64 v53] (fun F' h0 hi hρ => ⟨by simp [DVs.av, DV.av, BR.av, hρ], spec_l02Sides_fn v52 v53 F' (by rw [hi]; rfl) (st_nil hi) ⟨trivial, trivial, trivial⟩ hy⟩) rfl
  · cases hr
/-! spec.l01Finite -/
noncomputable def spec_l01Finite_LO (v59 : Nat) : LOr := fun id e L =>
  match id with
  | _ => .fail
noncomputable def spec_l01Finite_tab : List (FuncId × DFn × Bool) := []
theorem spec_l01Finite_hO : OrcOk Try.prog (tabD spec_l01Finite_tab) (tabM spec_l01Finite_tab) := tabD_nil _
noncomputable def spec_l01Finite_T (v59 : Nat) : Tree (Bool) :=
  .leaf (feq .f32 (fsub .f32 v59 v59) (0 : Nat))

noncomputable def spec_l01Finite_g (v59 : Nat) : Option (Bool) := (spec_l01Finite_T v59).run
def spec_l01Finite_enc (v59 : Nat) (y : Bool) : Rs := (.bool y, [])
theorem spec_l01Finite_den (v59 : Nat) : (den TT (tabD spec_l01Finite_tab) (tabM spec_l01Finite_tab) (spec_l01Finite_LO v59) (codeOf Try.f36) ([.flt .f32 v59] ++ List.replicate (Try.f36.ntmps - ([.flt .f32 v59] : List DV).length) .undef) []).bind (retD TT Try.f36.results.toList 0) = (spec_l01Finite_T v59).bind fun y => .leaf (spec_l01Finite_enc v59 y) := by kernel_rfl
theorem spec_l01Finite_fn (v59 : Nat) (F : Fr) (hm : F.ids.length = 0) (h0 : St F [] F.H0) (hA : DVs.Ok F [] [.flt .f32 v59]) {y : Bool} (hy : spec_l01Finite_g v59 = some y) : ∃ H', FnOk Try.prog 36 (DVs.av F [.flt .f32 v59]) F.H0 ((spec_l01Finite_enc v59 y).1.av F) H' ∧ St F (spec_l01Finite_enc v59 y).2 H' ∧ (spec_l01Finite_enc v59 y).1.Ok F (spec_l01Finite_enc v59 y).2 :=
  fn_fin tok spec_l01Finite_hO mixed Try.func36 Try.call36 (by kernel_rfl) (LoopsOk_eq (l := []) (by kernel_rfl) trivial) (spec_l01Finite_den v59) hy hm h0 hA
def spec_l01Finite_v (v59 : Nat) : Bool :=
  feq .f32 (fsub .f32 v59 v59) (0 : Nat)
theorem spec_l01Finite_tot (v59 : Nat) : spec_l01Finite_g v59 = some (spec_l01Finite_v v59) := by
  unfold spec_l01Finite_g spec_l01Finite_T spec_l01Finite_v
  simp only [Tree.run]
  repeat' (first | rfl | split)
noncomputable def spec_l01Finite_F : DFn := fun args L =>
  match args with
  | [.flt .f32 v59] =>
    .leaf (.bool (spec_l01Finite_v v59), L)
  | _ => .fail
theorem spec_l01Finite_Fok : COk Try.prog 36 spec_l01Finite_F true := by
  intro F L H args r L' hs ha hr
  unfold spec_l01Finite_F at hr
  split at hr
  · rename_i v59
    have hy := spec_l01Finite_tot v59
    generalize spec_l01Finite_v v59 = y at hy hr
    simp only [Tree.run, Option.some.injEq, Prod.mk.injEq] at hr
    obtain ⟨rfl, rfl⟩ := hr
    exact call_ok0 hs (fun k => (([] : List AV)[k]?).getD .top) [.flt .f32 v59] [.flt .f32 v59] (fun F' h0 hi hρ => ⟨by simp [DVs.av, DV.av, BR.av, hρ], spec_l01Finite_fn v59 F' (by rw [hi]; rfl) (st_nil hi) ⟨trivial, trivial⟩ hy⟩) rfl
  · cases hr
/-! spec.l02Finite -/
noncomputable def spec_l02Finite_l0_T (v57 : List Nat) (s : Int) : Tree ((Int) ⊕ ((Unit) ⊕ (Unit))) :=
  (.br (decide (s < ((v57.length : Nat) : Int))) (
   (.grd (inb s v57.length) <|
   (.br (!(spec_l01Finite_v (nth v57 (Int.toNat s)))) (
    .leaf (.inr (.inl ()))
   ) (
    .leaf (.inl (IntKind.i64.wrap (s + (1 : Int))))
   )))
  ) (
   .leaf (.inr (.inr ()))
  ))

noncomputable def spec_l02Finite_l0_g (v57 : List Nat) (s0 : Int) : Option ((Unit) ⊕ (Unit)) := whileM (fun s => (spec_l02Finite_l0_T v57 s).run) s0
def spec_l02Finite_l0_E (v57 : List Nat) (s : Int) : Sd := ([.bslc (BR.root 0) (.f32 v57), .top, .top, .int .i64 s, .top, .top, .top, .top, .top, .top, .top, .top, .top, .top, .top, .top], [])
def spec_l02Finite_l0_X (v57 : List Nat) (x : (Unit) ⊕ (Unit)) : Out := (match x with | .inl x => (.ret, [.top, .top, .lit false, .top, .top, .top, .top, .top, .top, .top, .top, .top, .top, .top, .top, .top], []) | .inr x => (.normal, [.top, .top, .top, .top, .top, .top, .top, .top, .top, .top, .top, .top, .top, .top, .top, .top], []))
def spec_l02Finite_l0_kill : List Nat := [0, 1, 1, 0, 1, 1, 1, 1, 1, 1, 1, 1, 1, 1, 1, 1]
def spec_l02Finite_l0_nx : Exit → List Nat
  | .exit 0 => [1, 1, 1, 1, 1, 1, 1, 1, 1, 1, 1, 1, 1, 1, 1, 1]
  | .ret => [1, 1, 0, 1, 1, 1, 1, 1, 1, 1, 1, 1, 1, 1, 1, 1]
  | _ => []
noncomputable def spec_l02Finite_LO (v57 : List Nat) : LOr := fun id e L =>
  match id with
  | 0 => .need (normA 0 spec_l02Finite_l0_kill e L = some (spec_l02Finite_l0_E v57 (gI (vAt e 3)))) (.call (spec_l02Finite_l0_g v57 (gI (vAt e 3))) fun x => .sum x (fun b0 => .leaf (spec_l02Finite_l0_X v57 (.inl b0))) (fun c0 => .leaf (spec_l02Finite_l0_X v57 (.inr c0))))
  | _ => .fail
noncomputable def spec_l02Finite_tab : List (FuncId × DFn × Bool) := [(36, spec_l01Finite_F, true)]
theorem spec_l02Finite_hO : OrcOk Try.prog (tabD spec_l02Finite_tab) (tabM spec_l02Finite_tab) := tabD_cons spec_l01Finite_Fok (tabD_nil _)
theorem spec_l02Finite_l0_be (v57 : List Nat) (s : Int) : bodyT TT (tabD spec_l02Finite_tab) (tabM spec_l02Finite_tab) (spec_l02Finite_LO v57) 0 spec_l02Finite_l0_kill spec_l02Finite_l0_nx (bodyOf Try.f35 0) 0 (spec_l02Finite_l0_E v57 s) = (spec_l02Finite_l0_T v57 s).bind fun y => .leaf (outS (spec_l02Finite_l0_E v57) (spec_l02Finite_l0_X v57) y) := by kernel_rfl
theorem spec_l02Finite_l0_ok (v57 : List Nat) : LSound Try.prog 0 (spec_l02Finite_LO v57) 0 (bodyOf Try.f35 0) := by
  intro e L out h
  exact lo_ok (E := spec_l02Finite_l0_E v57) (gT := spec_l02Finite_l0_T v57) (X := spec_l02Finite_l0_X v57) (s0 := (gI (vAt e 3))) tok spec_l02Finite_hO mixed (LoopsOk_eq (l := []) (by kernel_rfl) trivial) (spec_l02Finite_l0_be v57) rfl (by intro x; (cases x with | inl b => rfl | inr x => exact rfl)) h
noncomputable def spec_l02Finite_T (v57 : List Nat) : Tree (Bool) :=
  (.need (some (spec_l02Finite_l0_E v57 (0 : Int)) = some (spec_l02Finite_l0_E v57 (0 : Int))) <|
  (.call (spec_l02Finite_l0_g v57 (0 : Int)) fun v62 =>
  (.sum v62 (fun v63 =>
   .leaf false
  ) (fun v64 =>
   .leaf true
  ))))

noncomputable def spec_l02Finite_g (v57 : List Nat) : Option (Bool) := (spec_l02Finite_T v57).run
def spec_l02Finite_enc (v57 : List Nat) (y : Bool) : Rs := (.bool y, [])
theorem spec_l02Finite_den (v57 : List Nat) : (den TT (tabD spec_l02Finite_tab) (tabM spec_l02Finite_tab) (spec_l02Finite_LO v57) (codeOf Try.f35) ([.bslc (BR.root 0) (.f32 v57)] ++ List.replicate (Try.f35.ntmps - ([.bslc (BR.root 0) (.f32 v57)] : List DV).length) .undef) []).bind (retD TT Try.f35.results.toList 0) = (spec_l02Finite_T v57).bind fun y => .leaf (spec_l02Finite_enc v57 y) := by kernel_rfl
theorem spec_l02Finite_fn (v57 : List Nat) (F : Fr) (hm : F.ids.length = 0) (h0 : St F [] F.H0) (hA : DVs.Ok F [] [.bslc (BR.root 0) (.f32 v57)]) {y : Bool} (hy : spec_l02Finite_g v57 = some y) : ∃ H', FnOk Try.prog 35 (DVs.av F [.bslc (BR.root 0) (.f32 v57)]) F.H0 ((spec_l02Finite_enc v57 y).1.av F) H' ∧ St F (spec_l02Finite_enc v57 y).2 H' ∧ (spec_l02Finite_enc v57 y).1.Ok F (spec_l02Finite_enc v57 y).2 :=
  fn_fin tok spec_l02Finite_hO mixed Try.func35 Try.call35 (by kernel_rfl) (LoopsOk_eq (l := [(0, bodyOf Try.f35 0)]) (by kernel_rfl) ⟨spec_l02Finite_l0_ok v57, trivial⟩) (spec_l02Finite_den v57) hy hm h0 hA
noncomputable def spec_l02Finite_F : DFn := fun args L =>
  match args with
  | [a1] =>
    optT (rowF32 L a1) fun v57 =>
    .call (spec_l02Finite_g v57) fun y => .leaf (.bool y, L)
  | _ => .fail
theorem spec_l02Finite_Fok : COk Try.prog 35 spec_l02Finite_F true := by
  intro F L H args r L' hs ha hr
  unfold spec_l02Finite_F at hr
  split at hr
  · rename_i a1
    obtain ⟨v57, hv57, hr⟩ := optT_run hr
    simp only [Tree.run] at hr
    obtain ⟨y, hy, hr⟩ := Option.bind_eq_some_iff.1 hr
    simp only [Tree.run, Option.some.injEq, Prod.mk.injEq] at hr
    obtain ⟨rfl, rfl⟩ := hr
    exact call_ok0 hs (fun k => (([a1.av F] : List AV)[k]?).getD .top) [a1] [.bslc (BR.root 0) (.f32 v57)] (fun F' h0 hi hρ => ⟨by simp [DVs.av, DV.av, BR.av, hρ], spec_l02Finite_fn v57 F' (by rw [hi]; rfl) (st_nil hi) ⟨bslc_ok hi (by rw [h0, hρ]; exact rowF32_ok hs (DVs.okAt ha 0 rfl) hv57), trivial⟩ hy⟩) rfl
  · cases hr
/-! spec.l02Is -/
noncomputable def spec_l02Is_LO (v49 : Int) (v50 : Int) (v51 : List Nat) : LOr := fun id e L =>
  match id with
  | _ => .fail
noncomputable def spec_l02Is_tab : List (FuncId × DFn × Bool) := [(76, spec_l02Sides_F, true), (35, spec_l02Finite_F, true)]
theorem spec_l02Is_hO : OrcOk Try.prog (tabD spec_l02Is_tab) (tabM spec_l02Is_tab) := tabD_cons spec_l02Sides_Fok (tabD_cons spec_l02Finite_Fok (tabD_nil _))
noncomputable def spec_l02Is_T (v49 : Int) (v50 : Int) (v51 : List Nat) : Tree (Bool) :=
  (.br (spec_l02Sides_v v49 v50) (
   (.br (decide (((v51.length : Nat) : Int) = IntKind.i64.wrap (v49 * v50))) (
    (.call (spec_l02Finite_g v51) fun v65 =>
    .leaf v65)
   ) (
    .leaf false
   ))
  ) (
   .leaf false
  ))

noncomputable def spec_l02Is_g (v49 : Int) (v50 : Int) (v51 : List Nat) : Option (Bool) := (spec_l02Is_T v49 v50 v51).run
def spec_l02Is_enc (v49 : Int) (v50 : Int) (v51 : List Nat) (y : Bool) : Rs := (.bool y, [])
theorem spec_l02Is_den (v49 : Int) (v50 : Int) (v51 : List Nat) : (den TT (tabD spec_l02Is_tab) (tabM spec_l02Is_tab) (spec_l02Is_LO v49 v50 v51) (codeOf Try.f69) ([.bptr (BR.root 0) [.int .i64 v49, .int .i64 v50, .bslc (BR.root 1) (.f32 v51)]] ++ List.replicate (Try.f69.ntmps - ([.bptr (BR.root 0) [.int .i64 v49, .int .i64 v50, .bslc (BR.root 1) (.f32 v51)]] : List DV).length) .undef) []).bind (retD TT Try.f69.results.toList 0) = (spec_l02Is_T v49 v50 v51).bind fun y => .leaf (spec_l02Is_enc v49 v50 v51 y) := by kernel_rfl
theorem spec_l02Is_fn (v49 : Int) (v50 : Int) (v51 : List Nat) (F : Fr) (hm : F.ids.length = 0) (h0 : St F [] F.H0) (hA : DVs.Ok F [] [.bptr (BR.root 0) [.int .i64 v49, .int .i64 v50, .bslc (BR.root 1) (.f32 v51)]]) {y : Bool} (hy : spec_l02Is_g v49 v50 v51 = some y) : ∃ H', FnOk Try.prog 69 (DVs.av F [.bptr (BR.root 0) [.int .i64 v49, .int .i64 v50, .bslc (BR.root 1) (.f32 v51)]]) F.H0 ((spec_l02Is_enc v49 v50 v51 y).1.av F) H' ∧ St F (spec_l02Is_enc v49 v50 v51 y).2 H' ∧ (spec_l02Is_enc v49 v50 v51 y).1.Ok F (spec_l02Is_enc v49 v50 v51 y).2 :=
  fn_fin tok spec_l02Is_hO mixed Try.func69 Try.call69 (by kernel_rfl) (LoopsOk_eq (l := []) (by kernel_rfl) trivial) (spec_l02Is_den v49 v50 v51) hy hm h0 hA
noncomputable def spec_l02Is_F : DFn := fun args L =>
  match args with
  | [a1] =>
    optT (cellsOf L 3 a1) fun cs0 =>
    (match cs0 with
    | [.int .i64 v49, .int .i64 v50, a2] =>
    optT (rowF32 L a2) fun v51 =>
    .call (spec_l02Is_g v49 v50 v51) fun y => .leaf (.bool y, L)
    | _ => .fail)
  | _ => .fail
theorem spec_l02Is_Fok : COk Try.prog 69 spec_l02Is_F true := by
  intro F L H args r L' hs ha hr
  unfold spec_l02Is_F at hr
  split at hr
  · rename_i a1
    obtain ⟨cs0, hcp0, hr⟩ := optT_run hr
    split at hr
    · rename_i v49 v50 a2
      obtain ⟨v51, hv51, hr⟩ := optT_run hr
      simp only [Tree.run] at hr
      obtain ⟨y, hy, hr⟩ := Option.bind_eq_some_iff.1 hr
      simp only [Tree.run, Option.some.injEq, Prod.mk.injEq] at hr
      obtain ⟨rfl, rfl⟩ := hr
      exact call_ok0 hs (fun k => (([a1.av F, a2.av F] : List AV)[k]?).getD .top) [a1] [.bptr (BR.root 0) [.int .i64 v49, .int .i64 v50, .bslc (BR.root 1) (.f32 v51)]] (fun F' h0 hi hρ => ⟨by simp [DVs.av, DV.av, BR.av, hρ], spec_l02Is_fn v49 v50 v51 F' (by rw [hi]; rfl) (st_nil hi) ⟨bptr_ok hi (by rw [h0]; simpa [DVs.av, DV.av, BR.av, hρ] using (cellsOf_ok hs (DVs.okAt ha 0 rfl) hcp0).1) ⟨trivial, trivial, bslc_ok hi (by rw [h0, hρ]; exact rowF32_ok hs (DVs.okAt (cellsOf_ok hs (DVs.okAt ha 0 rfl) hcp0).2 2 rfl) hv51), trivial⟩, trivial⟩ hy⟩) rfl
    · cases hr
  · cases hr
/-! spec.l07Sheet -/
noncomputable def spec_l07Sheet_LO (v37 : ByteArray) (v38 : Int) (v39 : Int) (v40 : List Nat) : LOr := fun id e L =>
  match id with
  | _ => .fail
noncomputable def spec_l07Sheet_tab : List (FuncId × DFn × Bool) := [(68, spec_l07Name_F, true), (69, spec_l02Is_F, true)]
theorem spec_l07Sheet_hO : OrcOk Try.prog (tabD spec_l07Sheet_tab) (tabM spec_l07Sheet_tab) := tabD_cons spec_l07Name_Fok (tabD_cons spec_l02Is_Fok (tabD_nil _))
noncomputable def spec_l07Sheet_T (v37 : ByteArray) (v38 : Int) (v39 : Int) (v40 : List Nat) : Tree (Bool) :=
  (.call (spec_l07Name_g v37) fun v48 =>
  (.br v48 (
   (.call (spec_l02Is_g v38 v39 v40) fun v66 =>
   .leaf v66)
  ) (
   .leaf false
  )))

noncomputable def spec_l07Sheet_g (v37 : ByteArray) (v38 : Int) (v39 : Int) (v40 : List Nat) : Option (Bool) := (spec_l07Sheet_T v37 v38 v39 v40).run
def spec_l07Sheet_enc (v37 : ByteArray) (v38 : Int) (v39 : Int) (v40 : List Nat) (y : Bool) : Rs := (.bool y, [])
theorem spec_l07Sheet_den (v37 : ByteArray) (v38 : Int) (v39 : Int) (v40 : List Nat) : (den TT (tabD spec_l07Sheet_tab) (tabM spec_l07Sheet_tab) (spec_l07Sheet_LO v37 v38 v39 v40) (codeOf Try.f50) ([.bptr (BR.root 0) [.str v37, .int .i64 v38, .int .i64 v39, .bslc (BR.root 1) (.f32 v40)]] ++ List.replicate (Try.f50.ntmps - ([.bptr (BR.root 0) [.str v37, .int .i64 v38, .int .i64 v39, .bslc (BR.root 1) (.f32 v40)]] : List DV).length) .undef) []).bind (retD TT Try.f50.results.toList 0) = (spec_l07Sheet_T v37 v38 v39 v40).bind fun y => .leaf (spec_l07Sheet_enc v37 v38 v39 v40 y) := by kernel_rfl
theorem spec_l07Sheet_fn (v37 : ByteArray) (v38 : Int) (v39 : Int) (v40 : List Nat) (F : Fr) (hm : F.ids.length = 0) (h0 : St F [] F.H0) (hA : DVs.Ok F [] [.bptr (BR.root 0) [.str v37, .int .i64 v38, .int .i64 v39, .bslc (BR.root 1) (.f32 v40)]]) {y : Bool} (hy : spec_l07Sheet_g v37 v38 v39 v40 = some y) : ∃ H', FnOk Try.prog 50 (DVs.av F [.bptr (BR.root 0) [.str v37, .int .i64 v38, .int .i64 v39, .bslc (BR.root 1) (.f32 v40)]]) F.H0 ((spec_l07Sheet_enc v37 v38 v39 v40 y).1.av F) H' ∧ St F (spec_l07Sheet_enc v37 v38 v39 v40 y).2 H' ∧ (spec_l07Sheet_enc v37 v38 v39 v40 y).1.Ok F (spec_l07Sheet_enc v37 v38 v39 v40 y).2 :=
  fn_fin tok spec_l07Sheet_hO mixed Try.func50 Try.call50 (by kernel_rfl) (LoopsOk_eq (l := []) (by kernel_rfl) trivial) (spec_l07Sheet_den v37 v38 v39 v40) hy hm h0 hA
noncomputable def spec_l07Sheet_F : DFn := fun args L =>
  match args with
  | [a1] =>
    optT (cellsOf L 4 a1) fun cs0 =>
    (match cs0 with
    | [.str v37, .int .i64 v38, .int .i64 v39, a2] =>
    optT (rowF32 L a2) fun v40 =>
    .call (spec_l07Sheet_g v37 v38 v39 v40) fun y => .leaf (.bool y, L)
    | _ => .fail)
  | _ => .fail
theorem spec_l07Sheet_Fok : COk Try.prog 50 spec_l07Sheet_F true := by
  intro F L H args r L' hs ha hr
  unfold spec_l07Sheet_F at hr
  split at hr
  · rename_i a1
    obtain ⟨cs0, hcp0, hr⟩ := optT_run hr
    split at hr
    · rename_i v37 v38 v39 a2
      obtain ⟨v40, hv40, hr⟩ := optT_run hr
      simp only [Tree.run] at hr
      obtain ⟨y, hy, hr⟩ := Option.bind_eq_some_iff.1 hr
      simp only [Tree.run, Option.some.injEq, Prod.mk.injEq] at hr
      obtain ⟨rfl, rfl⟩ := hr
      exact call_ok0 hs (fun k => (([a1.av F, a2.av F] : List AV)[k]?).getD .top) [a1] [.bptr (BR.root 0) [.str v37, .int .i64 v38, .int .i64 v39, .bslc (BR.root 1) (.f32 v40)]] (fun F' h0 hi hρ => ⟨by simp [DVs.av, DV.av, BR.av, hρ], spec_l07Sheet_fn v37 v38 v39 v40 F' (by rw [hi]; rfl) (st_nil hi) ⟨bptr_ok hi (by rw [h0]; simpa [DVs.av, DV.av, BR.av, hρ] using (cellsOf_ok hs (DVs.okAt ha 0 rfl) hcp0).1) ⟨trivial, trivial, trivial, bslc_ok hi (by rw [h0, hρ]; exact rowF32_ok hs (DVs.okAt (cellsOf_ok hs (DVs.okAt ha 0 rfl) hcp0).2 3 rfl) hv40), trivial⟩, trivial⟩ hy⟩) rfl
    · cases hr
  · cases hr
/-! spec.ValidSheet -/
noncomputable def spec_ValidSheet_LO (v33 : ByteArray) (v34 : Int) (v35 : Int) (v36 : List Nat) : LOr := fun id e L =>
  match id with
  | _ => .fail
noncomputable def spec_ValidSheet_tab : List (FuncId × DFn × Bool) := [(50, spec_l07Sheet_F, true)]
theorem spec_ValidSheet_hO : OrcOk Try.prog (tabD spec_ValidSheet_tab) (tabM spec_ValidSheet_tab) := tabD_cons spec_l07Sheet_Fok (tabD_nil _)
noncomputable def spec_ValidSheet_T (v33 : ByteArray) (v34 : Int) (v35 : Int) (v36 : List Nat) : Tree (Bool) :=
  (.call (spec_l07Sheet_g v33 v34 v35 v36) fun v67 =>
  .leaf v67)

noncomputable def spec_ValidSheet_g (v33 : ByteArray) (v34 : Int) (v35 : Int) (v36 : List Nat) : Option (Bool) := (spec_ValidSheet_T v33 v34 v35 v36).run
def spec_ValidSheet_enc (v33 : ByteArray) (v34 : Int) (v35 : Int) (v36 : List Nat) (y : Bool) : Rs := (.bool y, [])
theorem spec_ValidSheet_den (v33 : ByteArray) (v34 : Int) (v35 : Int) (v36 : List Nat) : (den TT (tabD spec_ValidSheet_tab) (tabM spec_ValidSheet_tab) (spec_ValidSheet_LO v33 v34 v35 v36) (codeOf Try.f24) ([.agg [.str v33, .int .i64 v34, .int .i64 v35, .bslc (BR.root 0) (.f32 v36)]] ++ List.replicate (Try.f24.ntmps - ([.agg [.str v33, .int .i64 v34, .int .i64 v35, .bslc (BR.root 0) (.f32 v36)]] : List DV).length) .undef) []).bind (retD TT Try.f24.results.toList 0) = (spec_ValidSheet_T v33 v34 v35 v36).bind fun y => .leaf (spec_ValidSheet_enc v33 v34 v35 v36 y) := by kernel_rfl
theorem spec_ValidSheet_fn (v33 : ByteArray) (v34 : Int) (v35 : Int) (v36 : List Nat) (F : Fr) (hm : F.ids.length = 0) (h0 : St F [] F.H0) (hA : DVs.Ok F [] [.agg [.str v33, .int .i64 v34, .int .i64 v35, .bslc (BR.root 0) (.f32 v36)]]) {y : Bool} (hy : spec_ValidSheet_g v33 v34 v35 v36 = some y) : ∃ H', FnOk Try.prog 24 (DVs.av F [.agg [.str v33, .int .i64 v34, .int .i64 v35, .bslc (BR.root 0) (.f32 v36)]]) F.H0 ((spec_ValidSheet_enc v33 v34 v35 v36 y).1.av F) H' ∧ St F (spec_ValidSheet_enc v33 v34 v35 v36 y).2 H' ∧ (spec_ValidSheet_enc v33 v34 v35 v36 y).1.Ok F (spec_ValidSheet_enc v33 v34 v35 v36 y).2 :=
  fn_fin tok spec_ValidSheet_hO mixed Try.func24 Try.call24 (by kernel_rfl) (LoopsOk_eq (l := []) (by kernel_rfl) trivial) (spec_ValidSheet_den v33 v34 v35 v36) hy hm h0 hA
noncomputable def spec_ValidSheet_F : DFn := fun args L =>
  match args with
  | [.agg [.str v33, .int .i64 v34, .int .i64 v35, a1]] =>
    optT (rowF32 L a1) fun v36 =>
    .call (spec_ValidSheet_g v33 v34 v35 v36) fun y => .leaf (.bool y, L)
  | _ => .fail
theorem spec_ValidSheet_Fok : COk Try.prog 24 spec_ValidSheet_F true := by
  intro F L H args r L' hs ha hr
  unfold spec_ValidSheet_F at hr
  split at hr
  · rename_i v33 v34 v35 a1
    obtain ⟨v36, hv36, hr⟩ := optT_run hr
    simp only [Tree.run] at hr
    obtain ⟨y, hy, hr⟩ := Option.bind_eq_some_iff.1 hr
    simp only [Tree.run, Option.some.injEq, Prod.mk.injEq] at hr
    obtain ⟨rfl, rfl⟩ := hr
    exact call_ok0 hs (fun k => (([a1.av F] : List AV)[k]?).getD .top) [.agg [.str v33, .int .i64 v34, .int .i64 v35, a1]] [.agg [.str v33, .int .i64 v34, .int .i64 v35, .bslc (BR.root 0) (.f32 v36)]] (fun F' h0 hi hρ => ⟨by simp [DVs.av, DV.av, BR.av, hρ], spec_ValidSheet_fn v33 v34 v35 v36 F' (by rw [hi]; rfl) (st_nil hi) ⟨⟨trivial, trivial, trivial, bslc_ok hi (by rw [h0, hρ]; exact rowF32_ok hs (DVs.okAt (DVs.okAt ha 0 rfl) 3 rfl) hv36), trivial⟩, trivial⟩ hy⟩) rfl
  · cases hr
/-! impl.inRange -/
noncomputable def impl_inRange_LO (v81 : Int) (v82 : Int) (v83 : Int) : LOr := fun id e L =>
  match id with
  | _ => .fail
noncomputable def impl_inRange_tab : List (FuncId × DFn × Bool) := []
theorem impl_inRange_hO : OrcOk Try.prog (tabD impl_inRange_tab) (tabM impl_inRange_tab) := tabD_nil _
noncomputable def impl_inRange_T (v81 : Int) (v82 : Int) (v83 : Int) : Tree (Bool) :=
  (.br (decide (v82 ≤ v81)) (
   .leaf (decide (v81 ≤ v83))
  ) (
   .leaf false
  ))

noncomputable def impl_inRange_g (v81 : Int) (v82 : Int) (v83 : Int) : Option (Bool) := (impl_inRange_T v81 v82 v83).run
def impl_inRange_enc (v81 : Int) (v82 : Int) (v83 : Int) (y : Bool) : Rs := (.bool y, [])
theorem impl_inRange_den (v81 : Int) (v82 : Int) (v83 : Int) : (den TT (tabD impl_inRange_tab) (tabM impl_inRange_tab) (impl_inRange_LO v81 v82 v83) (codeOf Try.f63) ([.int .i64 v81, .int .i64 v82, .int .i64 v83] ++ List.replicate (Try.f63.ntmps - ([.int .i64 v81, .int .i64 v82, .int .i64 v83] : List DV).length) .undef) []).bind (retD TT Try.f63.results.toList 0) = (impl_inRange_T v81 v82 v83).bind fun y => .leaf (impl_inRange_enc v81 v82 v83 y) := by kernel_rfl
theorem impl_inRange_fn (v81 : Int) (v82 : Int) (v83 : Int) (F : Fr) (hm : F.ids.length = 0) (h0 : St F [] F.H0) (hA : DVs.Ok F [] [.int .i64 v81, .int .i64 v82, .int .i64 v83]) {y : Bool} (hy : impl_inRange_g v81 v82 v83 = some y) : ∃ H', FnOk Try.prog 63 (DVs.av F [.int .i64 v81, .int .i64 v82, .int .i64 v83]) F.H0 ((impl_inRange_enc v81 v82 v83 y).1.av F) H' ∧ St F (impl_inRange_enc v81 v82 v83 y).2 H' ∧ (impl_inRange_enc v81 v82 v83 y).1.Ok F (impl_inRange_enc v81 v82 v83 y).2 :=
  fn_fin tok impl_inRange_hO mixed Try.func63 Try.call63 (by kernel_rfl) (LoopsOk_eq (l := []) (by kernel_rfl) trivial) (impl_inRange_den v81 v82 v83) hy hm h0 hA
def impl_inRange_v (v81 : Int) (v82 : Int) (v83 : Int) : Bool :=
  if (decide (v82 ≤ v81)) = true then (
   decide (v81 ≤ v83)
  ) else (
   false
  )
theorem impl_inRange_tot (v81 : Int) (v82 : Int) (v83 : Int) : impl_inRange_g v81 v82 v83 = some (impl_inRange_v v81 v82 v83) := by
  unfold impl_inRange_g impl_inRange_T impl_inRange_v
  simp only [Tree.run]
  repeat' (first | rfl | split)
noncomputable def impl_inRange_F : DFn := fun args L =>
  match args with
  | [.int .i64 v81, .int .i64 v82, .int .i64 v83] =>
    .leaf (.bool (impl_inRange_v v81 v82 v83), L)
  | _ => .fail
theorem impl_inRange_Fok : COk Try.prog 63 impl_inRange_F true := by
  intro F L H args r L' hs ha hr
  unfold impl_inRange_F at hr
  split at hr
  · rename_i v81 v82 v83
    have hy := impl_inRange_tot v81 v82 v83
    generalize impl_inRange_v v81 v82 v83 = y at hy hr
    simp only [Tree.run, Option.some.injEq, Prod.mk.injEq] at hr
    obtain ⟨rfl, rfl⟩ := hr
    exact call_ok0 hs (fun k => (([] : List AV)[k]?).getD .top) [.int .i64 v81, .int .i64 v82, .int .i64 v83] [.int .i64 v81, .int .i64 v82, .int .i64 v83] (fun F' h0 hi hρ => ⟨by simp [DVs.av, DV.av, BR.av, hρ], impl_inRange_fn v81 v82 v83 F' (by rw [hi]; rfl) (st_nil hi) ⟨trivial, trivial, trivial, trivial⟩ hy⟩) rfl
  · cases hr
/-! impl.IsName -/
noncomputable def impl_IsName_l0_T (v74 : ByteArray) (s : Int) : Tree ((Int) ⊕ ((Unit) ⊕ (Unit))) :=
  (.br (decide (s < ((v74.size : Nat) : Int))) (
   (.grd (inb s v74.size) <|
   (.br (decide (bt v74 s < (97 : Int))) (
    .leaf (.inr (.inl ()))
   ) (
    (.grd (inb s v74.size) <|
    (.br (decide ((122 : Int) < bt v74 s)) (
     .leaf (.inr (.inl ()))
    ) (
     .leaf (.inl (IntKind.i64.wrap (s + (1 : Int))))
    )))
   )))
  ) (
   .leaf (.inr (.inr ()))
  ))

noncomputable def impl_IsName_l0_g (v74 : ByteArray) (s0 : Int) : Option ((Unit) ⊕ (Unit)) := whileM (fun s => (impl_IsName_l0_T v74 s).run) s0
def impl_IsName_l0_E (v74 : ByteArray) (s : Int) : Sd := ([.str v74, .top, .top, .top, .top, .int .i64 ((v74.size : Nat) : Int), .int .i64 s, .top, .top, .top, .top, .top, .top, .top, .top, .top, .top, .top, .top, .top, .top, .top, .top], [])
def impl_IsName_l0_X (v74 : ByteArray) (x : (Unit) ⊕ (Unit)) : Out := (match x with | .inl x => (.ret, [.top, .top, .lit false, .top, .top, .top, .top, .top, .top, .top, .top, .top, .top, .top, .top, .top, .top, .top, .top, .top, .top, .top, .top], []) | .inr x => (.normal, [.str v74, .top, .top, .top, .top, .top, .top, .top, .top, .top, .top, .top, .top, .top, .top, .top, .top, .top, .top, .top, .top, .top, .top], []))
def impl_IsName_l0_kill : List Nat := [0, 1, 1, 1, 1, 0, 0, 1, 1, 1, 1, 1, 1, 1, 1, 1, 1, 1, 1, 1, 1, 1, 1]
def impl_IsName_l0_nx : Exit → List Nat
  | .exit 0 => [0, 1, 1, 1, 1, 1, 1, 1, 1, 1, 1, 1, 1, 1, 1, 1, 1, 1, 1, 1, 1, 1, 1]
  | .ret => [1, 1, 0, 1, 1, 1, 1, 1, 1, 1, 1, 1, 1, 1, 1, 1, 1, 1, 1, 1, 1, 1, 1]
  | _ => []
noncomputable def impl_IsName_LO (v74 : ByteArray) : LOr := fun id e L =>
  match id with
  | 0 => .need (normA 0 impl_IsName_l0_kill e L = some (impl_IsName_l0_E v74 (gI (vAt e 6)))) (.call (impl_IsName_l0_g v74 (gI (vAt e 6))) fun x => .sum x (fun b0 => .leaf (impl_IsName_l0_X v74 (.inl b0))) (fun c0 => .leaf (impl_IsName_l0_X v74 (.inr c0))))
  | _ => .fail
noncomputable def impl_IsName_tab : List (FuncId × DFn × Bool) := [(63, impl_inRange_F, true)]
theorem impl_IsName_hO : OrcOk Try.prog (tabD impl_IsName_tab) (tabM impl_IsName_tab) := tabD_cons impl_inRange_Fok (tabD_nil _)
theorem impl_IsName_l0_be (v74 : ByteArray) (s : Int) : bodyT TT (tabD impl_IsName_tab) (tabM impl_IsName_tab) (impl_IsName_LO v74) 0 impl_IsName_l0_kill impl_IsName_l0_nx (bodyOf Try.f52 0) 0 (impl_IsName_l0_E v74 s) = (impl_IsName_l0_T v74 s).bind fun y => .leaf (outS (impl_IsName_l0_E v74) (impl_IsName_l0_X v74) y) := by kernel_rfl
theorem impl_IsName_l0_ok (v74 : ByteArray) : LSound Try.prog 0 (impl_IsName_LO v74) 0 (bodyOf Try.f52 0) := by
  intro e L out h
  exact lo_ok (E := impl_IsName_l0_E v74) (gT := impl_IsName_l0_T v74) (X := impl_IsName_l0_X v74) (s0 := (gI (vAt e 6))) tok impl_IsName_hO mixed (LoopsOk_eq (l := []) (by kernel_rfl) trivial) (impl_IsName_l0_be v74) rfl (by intro x; (cases x with | inl b => rfl | inr x => exact rfl)) h
noncomputable def impl_IsName_T (v74 : ByteArray) : Tree (Bool) :=
  (.need (some (impl_IsName_l0_E v74 (0 : Int)) = some (impl_IsName_l0_E v74 (0 : Int))) <|
  (.call (impl_IsName_l0_g v74 (0 : Int)) fun v78 =>
  (.sum v78 (fun v79 =>
   .leaf false
  ) (fun v80 =>
   .leaf (impl_inRange_v ((v74.size : Nat) : Int) (1 : Int) (8 : Int))
  ))))

noncomputable def impl_IsName_g (v74 : ByteArray) : Option (Bool) := (impl_IsName_T v74).run
def impl_IsName_enc (v74 : ByteArray) (y : Bool) : Rs := (.bool y, [])
theorem impl_IsName_den (v74 : ByteArray) : (den TT (tabD impl_IsName_tab) (tabM impl_IsName_tab) (impl_IsName_LO v74) (codeOf Try.f52) ([.str v74] ++ List.replicate (Try.f52.ntmps - ([.str v74] : List DV).length) .undef) []).bind (retD TT Try.f52.results.toList 0) = (impl_IsName_T v74).bind fun y => .leaf (impl_IsName_enc v74 y) := by kernel_rfl
theorem impl_IsName_fn (v74 : ByteArray) (F : Fr) (hm : F.ids.length = 0) (h0 : St F [] F.H0) (hA : DVs.Ok F [] [.str v74]) {y : Bool} (hy : impl_IsName_g v74 = some y) : ∃ H', FnOk Try.prog 52 (DVs.av F [.str v74]) F.H0 ((impl_IsName_enc v74 y).1.av F) H' ∧ St F (impl_IsName_enc v74 y).2 H' ∧ (impl_IsName_enc v74 y).1.Ok F (impl_IsName_enc v74 y).2 :=
  fn_fin tok impl_IsName_hO mixed Try.func52 Try.call52 (by kernel_rfl) (LoopsOk_eq (l := [(0, bodyOf Try.f52 0)]) (by kernel_rfl) ⟨impl_IsName_l0_ok v74, trivial⟩) (impl_IsName_den v74) hy hm h0 hA
noncomputable def impl_IsName_F : DFn := fun args L =>
  match args with
  | [.str v74] =>
    .call (impl_IsName_g v74) fun y => .leaf (.bool y, L)
  | _ => .fail
theorem impl_IsName_Fok : COk Try.prog 52 impl_IsName_F true := by
  intro F L H args r L' hs ha hr
  unfold impl_IsName_F at hr
  split at hr
  · rename_i v74
    simp only [Tree.run] at hr
    obtain ⟨y, hy, hr⟩ := Option.bind_eq_some_iff.1 hr
    simp only [Tree.run, Option.some.injEq, Prod.mk.injEq] at hr
    obtain ⟨rfl, rfl⟩ := hr
    exact call_ok0 hs (fun k => (([] : List AV)[k]?).getD .top) [.str v74] [.str v74] (fun F' h0 hi hρ => ⟨by simp [DVs.av, DV.av, BR.av, hρ], impl_IsName_fn v74 F' (by rw [hi]; rfl) (st_nil hi) ⟨trivial, trivial⟩ hy⟩) rfl
  · cases hr
/-! impl.isSide -/
noncomputable def impl_isSide_LO (v88 : Int) : LOr := fun id e L =>
  match id with
  | _ => .fail
noncomputable def impl_isSide_tab : List (FuncId × DFn × Bool) := [(63, impl_inRange_F, true)]
theorem impl_isSide_hO : OrcOk Try.prog (tabD impl_isSide_tab) (tabM impl_isSide_tab) := tabD_cons impl_inRange_Fok (tabD_nil _)
noncomputable def impl_isSide_T (v88 : Int) : Tree (Bool) :=
  .leaf (impl_inRange_v v88 (1 : Int) (12 : Int))

noncomputable def impl_isSide_g (v88 : Int) : Option (Bool) := (impl_isSide_T v88).run
def impl_isSide_enc (v88 : Int) (y : Bool) : Rs := (.bool y, [])
theorem impl_isSide_den (v88 : Int) : (den TT (tabD impl_isSide_tab) (tabM impl_isSide_tab) (impl_isSide_LO v88) (codeOf Try.f70) ([.int .i64 v88] ++ List.replicate (Try.f70.ntmps - ([.int .i64 v88] : List DV).length) .undef) []).bind (retD TT Try.f70.results.toList 0) = (impl_isSide_T v88).bind fun y => .leaf (impl_isSide_enc v88 y) := by kernel_rfl
theorem impl_isSide_fn (v88 : Int) (F : Fr) (hm : F.ids.length = 0) (h0 : St F [] F.H0) (hA : DVs.Ok F [] [.int .i64 v88]) {y : Bool} (hy : impl_isSide_g v88 = some y) : ∃ H', FnOk Try.prog 70 (DVs.av F [.int .i64 v88]) F.H0 ((impl_isSide_enc v88 y).1.av F) H' ∧ St F (impl_isSide_enc v88 y).2 H' ∧ (impl_isSide_enc v88 y).1.Ok F (impl_isSide_enc v88 y).2 :=
  fn_fin tok impl_isSide_hO mixed Try.func70 Try.call70 (by kernel_rfl) (LoopsOk_eq (l := []) (by kernel_rfl) trivial) (impl_isSide_den v88) hy hm h0 hA
def impl_isSide_v (v88 : Int) : Bool :=
  (impl_inRange_v v88 (1 : Int) (12 : Int))
theorem impl_isSide_tot (v88 : Int) : impl_isSide_g v88 = some (impl_isSide_v v88) := by
  unfold impl_isSide_g impl_isSide_T impl_isSide_v
  simp only [Tree.run]
  repeat' (first | rfl | split)
noncomputable def impl_isSide_F : DFn := fun args L =>
  match args with
  | [.int .i64 v88] =>
    .leaf (.bool (impl_isSide_v v88), L)
  | _ => .fail
theorem impl_isSide_Fok : COk Try.prog 70 impl_isSide_F true := by
  intro F L H args r L' hs ha hr
  unfold impl_isSide_F at hr
  split at hr
  · rename_i v88
    have hy := impl_isSide_tot v88
    generalize impl_isSide_v v88 = y at hy hr
    simp only [Tree.run, Option.some.injEq, Prod.mk.injEq] at hr
    obtain ⟨rfl, rfl⟩ := hr
    exact call_ok0 hs (fun k => (([] : List AV)[k]?).getD .top) [.int .i64 v88] [.int .i64 v88] (fun F' h0 hi hρ => ⟨by simp [DVs.av, DV.av, BR.av, hρ], impl_isSide_fn v88 F' (by rw [hi]; rfl) (st_nil hi) ⟨trivial, trivial⟩ hy⟩) rfl
  · cases hr
/-! impl.length[float32] -/
noncomputable def impl_lengthF_LO (v89 : List Nat) : LOr := fun id e L =>
  match id with
  | _ => .fail
noncomputable def impl_lengthF_tab : List (FuncId × DFn × Bool) := []
theorem impl_lengthF_hO : OrcOk Try.prog (tabD impl_lengthF_tab) (tabM impl_lengthF_tab) := tabD_nil _
noncomputable def impl_lengthF_T (v89 : List Nat) : Tree (Int) :=
  .leaf ((v89.length : Nat) : Int)

noncomputable def impl_lengthF_g (v89 : List Nat) : Option (Int) := (impl_lengthF_T v89).run
def impl_lengthF_enc (v89 : List Nat) (y : Int) : Rs := (.int .i64 y, [])
theorem impl_lengthF_den (v89 : List Nat) : (den TT (tabD impl_lengthF_tab) (tabM impl_lengthF_tab) (impl_lengthF_LO v89) (codeOf Try.f57) ([.bslc (BR.root 0) (.f32 v89)] ++ List.replicate (Try.f57.ntmps - ([.bslc (BR.root 0) (.f32 v89)] : List DV).length) .undef) []).bind (retD TT Try.f57.results.toList 0) = (impl_lengthF_T v89).bind fun y => .leaf (impl_lengthF_enc v89 y) := by kernel_rfl
theorem impl_lengthF_fn (v89 : List Nat) (F : Fr) (hm : F.ids.length = 0) (h0 : St F [] F.H0) (hA : DVs.Ok F [] [.bslc (BR.root 0) (.f32 v89)]) {y : Int} (hy : impl_lengthF_g v89 = some y) : ∃ H', FnOk Try.prog 57 (DVs.av F [.bslc (BR.root 0) (.f32 v89)]) F.H0 ((impl_lengthF_enc v89 y).1.av F) H' ∧ St F (impl_lengthF_enc v89 y).2 H' ∧ (impl_lengthF_enc v89 y).1.Ok F (impl_lengthF_enc v89 y).2 :=
  fn_fin tok impl_lengthF_hO mixed Try.func57 Try.call57 (by kernel_rfl) (LoopsOk_eq (l := []) (by kernel_rfl) trivial) (impl_lengthF_den v89) hy hm h0 hA
def impl_lengthF_v (v89 : List Nat) : Int :=
  ((v89.length : Nat) : Int)
theorem impl_lengthF_tot (v89 : List Nat) : impl_lengthF_g v89 = some (impl_lengthF_v v89) := by
  unfold impl_lengthF_g impl_lengthF_T impl_lengthF_v
  simp only [Tree.run]
  repeat' (first | rfl | split)
noncomputable def impl_lengthF_F : DFn := fun args L =>
  match args with
  | [a1] =>
    optT (rowF32 L a1) fun v89 =>
    .leaf (.int .i64 (impl_lengthF_v v89), L)
  | _ => .fail
theorem impl_lengthF_Fok : COk Try.prog 57 impl_lengthF_F true := by
  intro F L H args r L' hs ha hr
  unfold impl_lengthF_F at hr
  split at hr
  · rename_i a1
    obtain ⟨v89, hv89, hr⟩ := optT_run hr
    have hy := impl_lengthF_tot v89
    generalize impl_lengthF_v v89 = y at hy hr
    simp only [Tree.run, Option.some.injEq, Prod.mk.injEq] at hr
    obtain ⟨rfl, rfl⟩ := hr
    exact call_ok0 hs (fun k => (([a1.av F] : List AV)[k]?).getD .top) [a1] [.bslc (BR.root 0) (.f32 v89)] (fun F' h0 hi hρ => ⟨by simp [DVs.av, DV.av, BR.av, hρ], impl_lengthF_fn v89 F' (by rw [hi]; rfl) (st_nil hi) ⟨bslc_ok hi (by rw [h0, hρ]; exact rowF32_ok hs (DVs.okAt ha 0 rfl) hv89), trivial⟩ hy⟩) rfl
  · cases hr
/-! math.IsNaN -/
noncomputable def math_IsNaN_LO (v97 : Nat) : LOr := fun id e L =>
  match id with
  | _ => .fail
noncomputable def math_IsNaN_tab : List (FuncId × DFn × Bool) := []
theorem math_IsNaN_hO : OrcOk Try.prog (tabD math_IsNaN_tab) (tabM math_IsNaN_tab) := tabD_nil _
noncomputable def math_IsNaN_T (v97 : Nat) : Tree (Bool) :=
  .leaf (!feq .f64 v97 v97)

noncomputable def math_IsNaN_g (v97 : Nat) : Option (Bool) := (math_IsNaN_T v97).run
def math_IsNaN_enc (v97 : Nat) (y : Bool) : Rs := (.bool y, [])
theorem math_IsNaN_den (v97 : Nat) : (den TT (tabD math_IsNaN_tab) (tabM math_IsNaN_tab) (math_IsNaN_LO v97) (codeOf Try.f73) ([.flt .f64 v97] ++ List.replicate (Try.f73.ntmps - ([.flt .f64 v97] : List DV).length) .undef) []).bind (retD TT Try.f73.results.toList 0) = (math_IsNaN_T v97).bind fun y => .leaf (math_IsNaN_enc v97 y) := by kernel_rfl
theorem math_IsNaN_fn (v97 : Nat) (F : Fr) (hm : F.ids.length = 0) (h0 : St F [] F.H0) (hA : DVs.Ok F [] [.flt .f64 v97]) {y : Bool} (hy : math_IsNaN_g v97 = some y) : ∃ H', FnOk Try.prog 73 (DVs.av F [.flt .f64 v97]) F.H0 ((math_IsNaN_enc v97 y).1.av F) H' ∧ St F (math_IsNaN_enc v97 y).2 H' ∧ (math_IsNaN_enc v97 y).1.Ok F (math_IsNaN_enc v97 y).2 :=
  fn_fin tok math_IsNaN_hO mixed Try.func73 Try.call73 (by kernel_rfl) (LoopsOk_eq (l := []) (by kernel_rfl) trivial) (math_IsNaN_den v97) hy hm h0 hA
def math_IsNaN_v (v97 : Nat) : Bool :=
  !feq .f64 v97 v97
theorem math_IsNaN_tot (v97 : Nat) : math_IsNaN_g v97 = some (math_IsNaN_v v97) := by
  unfold math_IsNaN_g math_IsNaN_T math_IsNaN_v
  simp only [Tree.run]
  repeat' (first | rfl | split)
noncomputable def math_IsNaN_F : DFn := fun args L =>
  match args with
  | [.flt .f64 v97] =>
    .leaf (.bool (math_IsNaN_v v97), L)
  | _ => .fail
theorem math_IsNaN_Fok : COk Try.prog 73 math_IsNaN_F true := by
  intro F L H args r L' hs ha hr
  unfold math_IsNaN_F at hr
  split at hr
  · rename_i v97
    have hy := math_IsNaN_tot v97
    generalize math_IsNaN_v v97 = y at hy hr
    simp only [Tree.run, Option.some.injEq, Prod.mk.injEq] at hr
    obtain ⟨rfl, rfl⟩ := hr
    exact call_ok0 hs (fun k => (([] : List AV)[k]?).getD .top) [.flt .f64 v97] [.flt .f64 v97] (fun F' h0 hi hρ => ⟨by simp [DVs.av, DV.av, BR.av, hρ], math_IsNaN_fn v97 F' (by rw [hi]; rfl) (st_nil hi) ⟨trivial, trivial⟩ hy⟩) rfl
  · cases hr
/-! math.IsInf -/
noncomputable def math_IsInf_LO (v98 : Nat) (v99 : Int) : LOr := fun id e L =>
  match id with
  | _ => .fail
noncomputable def math_IsInf_tab : List (FuncId × DFn × Bool) := [(77, Abs_F, true)]
theorem math_IsInf_hO : OrcOk Try.prog (tabD math_IsInf_tab) (tabM math_IsInf_tab) := tabD_cons Abs_Fok (tabD_nil _)
noncomputable def math_IsInf_T (v98 : Nat) (v99 : Int) : Tree (Bool) :=
  (.br (decide (v99 = (0 : Int))) (
   .leaf (fgrt .f64 (fabs v98) (9218868437227405311 : Nat))
  ) (
   (.br (decide (v99 < (0 : Int))) (
    .leaf (fgrt .f64 (fneg .f64 v98) (9218868437227405311 : Nat))
   ) (
    .leaf (fgrt .f64 v98 (9218868437227405311 : Nat))
   ))
  ))

noncomputable def math_IsInf_g (v98 : Nat) (v99 : Int) : Option (Bool) := (math_IsInf_T v98 v99).run
def math_IsInf_enc (v98 : Nat) (v99 : Int) (y : Bool) : Rs := (.bool y, [])
theorem math_IsInf_den (v98 : Nat) (v99 : Int) : (den TT (tabD math_IsInf_tab) (tabM math_IsInf_tab) (math_IsInf_LO v98 v99) (codeOf Try.f74) ([.flt .f64 v98, .int .i64 v99] ++ List.replicate (Try.f74.ntmps - ([.flt .f64 v98, .int .i64 v99] : List DV).length) .undef) []).bind (retD TT Try.f74.results.toList 0) = (math_IsInf_T v98 v99).bind fun y => .leaf (math_IsInf_enc v98 v99 y) := by kernel_rfl
theorem math_IsInf_fn (v98 : Nat) (v99 : Int) (F : Fr) (hm : F.ids.length = 0) (h0 : St F [] F.H0) (hA : DVs.Ok F [] [.flt .f64 v98, .int .i64 v99]) {y : Bool} (hy : math_IsInf_g v98 v99 = some y) : ∃ H', FnOk Try.prog 74 (DVs.av F [.flt .f64 v98, .int .i64 v99]) F.H0 ((math_IsInf_enc v98 v99 y).1.av F) H' ∧ St F (math_IsInf_enc v98 v99 y).2 H' ∧ (math_IsInf_enc v98 v99 y).1.Ok F (math_IsInf_enc v98 v99 y).2 :=
  fn_fin tok math_IsInf_hO mixed Try.func74 Try.call74 (by kernel_rfl) (LoopsOk_eq (l := []) (by kernel_rfl) trivial) (math_IsInf_den v98 v99) hy hm h0 hA
def math_IsInf_v (v98 : Nat) (v99 : Int) : Bool :=
  if (decide (v99 = (0 : Int))) = true then (
   fgrt .f64 (fabs v98) (9218868437227405311 : Nat)
  ) else (
   if (decide (v99 < (0 : Int))) = true then (
    fgrt .f64 (fneg .f64 v98) (9218868437227405311 : Nat)
   ) else (
    fgrt .f64 v98 (9218868437227405311 : Nat)
   )
  )
theorem math_IsInf_tot (v98 : Nat) (v99 : Int) : math_IsInf_g v98 v99 = some (math_IsInf_v v98 v99) := by
  unfold math_IsInf_g math_IsInf_T math_IsInf_v
  simp only [Tree.run]
  repeat' (first | rfl | split)
noncomputable def math_IsInf_F : DFn := fun args L =>
  match args with
  | [.flt .f64 v98, .int .i64 v99] =>
    .leaf (.bool (math_IsInf_v v98 v99), L)
  | _ => .fail
theorem math_IsInf_Fok : COk Try.prog 74 math_IsInf_F true := by
  intro F L H args r L' hs ha hr
  unfold math_IsInf_F at hr
  split at hr
  · rename_i v98 v99
    have hy := math_IsInf_tot v98 v99
    generalize math_IsInf_v v98 v99 = y at hy hr
    simp only [Tree.run, Option.some.injEq, Prod.mk.injEq] at hr
    obtain ⟨rfl, rfl⟩ := hr
    exact call_ok0 hs (fun k => (([] : List AV)[k]?).getD .top) [.flt .f64 v98, .int .i64 v99] [.flt .f64 v98, .int .i64 v99] (fun F' h0 hi hρ => ⟨by simp [DVs.av, DV.av, BR.av, hρ], math_IsInf_fn v98 v99 F' (by rw [hi]; rfl) (st_nil hi) ⟨trivial, trivial, trivial⟩ hy⟩) rfl
  · cases hr
/-! impl.isFinite64 -/
noncomputable def impl_isFinite64_LO (v96 : Nat) : LOr := fun id e L =>
  match id with
  | _ => .fail
noncomputable def impl_isFinite64_tab : List (FuncId × DFn × Bool) := [(73, math_IsNaN_F, true), (74, math_IsInf_F, true)]
theorem impl_isFinite64_hO : OrcOk Try.prog (tabD impl_isFinite64_tab) (tabM impl_isFinite64_tab) := tabD_cons math_IsNaN_Fok (tabD_cons math_IsInf_Fok (tabD_nil _))
noncomputable def impl_isFinite64_T (v96 : Nat) : Tree (Bool) :=
  (.br (!(math_IsNaN_v v96)) (
   .leaf (!(math_IsInf_v v96 (0 : Int)))
  ) (
   .leaf false
  ))

noncomputable def impl_isFinite64_g (v96 : Nat) : Option (Bool) := (impl_isFinite64_T v96).run
def impl_isFinite64_enc (v96 : Nat) (y : Bool) : Rs := (.bool y, [])
theorem impl_isFinite64_den (v96 : Nat) : (den TT (tabD impl_isFinite64_tab) (tabM impl_isFinite64_tab) (impl_isFinite64_LO v96) (codeOf Try.f64) ([.flt .f64 v96] ++ List.replicate (Try.f64.ntmps - ([.flt .f64 v96] : List DV).length) .undef) []).bind (retD TT Try.f64.results.toList 0) = (impl_isFinite64_T v96).bind fun y => .leaf (impl_isFinite64_enc v96 y) := by kernel_rfl
theorem impl_isFinite64_fn (v96 : Nat) (F : Fr) (hm : F.ids.length = 0) (h0 : St F [] F.H0) (hA : DVs.Ok F [] [.flt .f64 v96]) {y : Bool} (hy : impl_isFinite64_g v96 = some y) : ∃ H', FnOk Try.prog 64 (DVs.av F [.flt .f64 v96]) F.H0 ((impl_isFinite64_enc v96 y).1.av F) H' ∧ St F (impl_isFinite64_enc v96 y).2 H' ∧ (impl_isFinite64_enc v96 y).1.Ok F (impl_isFinite64_enc v96 y).2 :=
  fn_fin tok impl_isFinite64_hO mixed Try.func64 Try.call64 (by kernel_rfl) (LoopsOk_eq (l := []) (by kernel_rfl) trivial) (impl_isFinite64_den v96) hy hm h0 hA
def impl_isFinite64_v (v96 : Nat) : Bool :=
  if (!(math_IsNaN_v v96)) = true then (
   !(math_IsInf_v v96 (0 : Int))
  ) else (
   false
  )
theorem impl_isFinite64_tot (v96 : Nat) : impl_isFinite64_g v96 = some (impl_isFinite64_v v96) := by
  unfold impl_isFinite64_g impl_isFinite64_T impl_isFinite64_v
  simp only [Tree.run]
  repeat' (first | rfl | split)
noncomputable def impl_isFinite64_F : DFn := fun args L =>
  match args with
  | [.flt .f64 v96] =>
    .leaf (.bool (impl_isFinite64_v v96), L)
  | _ => .fail
theorem impl_isFinite64_Fok : COk Try.prog 64 impl_isFinite64_F true := by
  intro F L H args r L' hs ha hr
  unfold impl_isFinite64_F at hr
  split at hr
  · rename_i v96
    have hy := impl_isFinite64_tot v96
    generalize impl_isFinite64_v v96 = y at hy hr
    simp only [Tree.run, Option.some.injEq, Prod.mk.injEq] at hr
    obtain ⟨rfl, rfl⟩ := hr
    exact call_ok0 hs (fun k => (([] : List AV)[k]?).getD .top) [.flt .f64 v96] [.flt .f64 v96] (fun F' h0 hi hρ => ⟨by simp [DVs.av, DV.av, BR.av, hρ], impl_isFinite64_fn v96 F' (by rw [hi]; rfl) (st_nil hi) ⟨trivial, trivial⟩ hy⟩) rfl
  · cases hr
/-! impl.IsFinite -/
noncomputable def impl_IsFinite_LO (v95 : Nat) : LOr := fun id e L =>
  match id with
  | _ => .fail
noncomputable def impl_IsFinite_tab : List (FuncId × DFn × Bool) := [(64, impl_isFinite64_F, true)]
theorem impl_IsFinite_hO : OrcOk Try.prog (tabD impl_IsFinite_tab) (tabM impl_IsFinite_tab) := tabD_cons impl_isFinite64_Fok (tabD_nil _)
noncomputable def impl_IsFinite_T (v95 : Nat) : Tree (Bool) :=
  .leaf (impl_isFinite64_v (wid v95))

noncomputable def impl_IsFinite_g (v95 : Nat) : Option (Bool) := (impl_IsFinite_T v95).run
def impl_IsFinite_enc (v95 : Nat) (y : Bool) : Rs := (.bool y, [])
theorem impl_IsFinite_den (v95 : Nat) : (den TT (tabD impl_IsFinite_tab) (tabM impl_IsFinite_tab) (impl_IsFinite_LO v95) (codeOf Try.f39) ([.flt .f32 v95] ++ List.replicate (Try.f39.ntmps - ([.flt .f32 v95] : List DV).length) .undef) []).bind (retD TT Try.f39.results.toList 0) = (impl_IsFinite_T v95).bind fun y => .leaf (impl_IsFinite_enc v95 y) := by kernel_rfl
theorem impl_IsFinite_fn (v95 : Nat) (F : Fr) (hm : F.ids.length = 0) (h0 : St F [] F.H0) (hA : DVs.Ok F [] [.flt .f32 v95]) {y : Bool} (hy : impl_IsFinite_g v95 = some y) : ∃ H', FnOk Try.prog 39 (DVs.av F [.flt .f32 v95]) F.H0 ((impl_IsFinite_enc v95 y).1.av F) H' ∧ St F (impl_IsFinite_enc v95 y).2 H' ∧ (impl_IsFinite_enc v95 y).1.Ok F (impl_IsFinite_enc v95 y).2 :=
  fn_fin tok impl_IsFinite_hO mixed Try.func39 Try.call39 (by kernel_rfl) (LoopsOk_eq (l := []) (by kernel_rfl) trivial) (impl_IsFinite_den v95) hy hm h0 hA
def impl_IsFinite_v (v95 : Nat) : Bool :=
  (impl_isFinite64_v (wid v95))
theorem impl_IsFinite_tot (v95 : Nat) : impl_IsFinite_g v95 = some (impl_IsFinite_v v95) := by
  unfold impl_IsFinite_g impl_IsFinite_T impl_IsFinite_v
  simp only [Tree.run]
  repeat' (first | rfl | split)
noncomputable def impl_IsFinite_F : DFn := fun args L =>
  match args with
  | [.flt .f32 v95] =>
    .leaf (.bool (impl_IsFinite_v v95), L)
  | _ => .fail
theorem impl_IsFinite_Fok : COk Try.prog 39 impl_IsFinite_F true := by
  intro F L H args r L' hs ha hr
  unfold impl_IsFinite_F at hr
  split at hr
  · rename_i v95
    have hy := impl_IsFinite_tot v95
    generalize impl_IsFinite_v v95 = y at hy hr
    simp only [Tree.run, Option.some.injEq, Prod.mk.injEq] at hr
    obtain ⟨rfl, rfl⟩ := hr
    exact call_ok0 hs (fun k => (([] : List AV)[k]?).getD .top) [.flt .f32 v95] [.flt .f32 v95] (fun F' h0 hi hρ => ⟨by simp [DVs.av, DV.av, BR.av, hρ], impl_IsFinite_fn v95 F' (by rw [hi]; rfl) (st_nil hi) ⟨trivial, trivial⟩ hy⟩) rfl
  · cases hr
/-! impl.areFinite$1 -/
noncomputable def impl_areFinite_1_LO (v94 : Nat) : LOr := fun id e L =>
  match id with
  | _ => .fail
noncomputable def impl_areFinite_1_tab : List (FuncId × DFn × Bool) := [(39, impl_IsFinite_F, true)]
theorem impl_areFinite_1_hO : OrcOk Try.prog (tabD impl_areFinite_1_tab) (tabM impl_areFinite_1_tab) := tabD_cons impl_IsFinite_Fok (tabD_nil _)
noncomputable def impl_areFinite_1_T (v94 : Nat) : Tree (Bool) :=
  .leaf (!(impl_IsFinite_v v94))

noncomputable def impl_areFinite_1_g (v94 : Nat) : Option (Bool) := (impl_areFinite_1_T v94).run
def impl_areFinite_1_enc (v94 : Nat) (y : Bool) : Rs := (.bool y, [])
theorem impl_areFinite_1_den (v94 : Nat) : (den TT (tabD impl_areFinite_1_tab) (tabM impl_areFinite_1_tab) (impl_areFinite_1_LO v94) (codeOf Try.f66) ([.flt .f32 v94] ++ List.replicate (Try.f66.ntmps - ([.flt .f32 v94] : List DV).length) .undef) []).bind (retD TT Try.f66.results.toList 0) = (impl_areFinite_1_T v94).bind fun y => .leaf (impl_areFinite_1_enc v94 y) := by kernel_rfl
theorem impl_areFinite_1_fn (v94 : Nat) (F : Fr) (hm : F.ids.length = 0) (h0 : St F [] F.H0) (hA : DVs.Ok F [] [.flt .f32 v94]) {y : Bool} (hy : impl_areFinite_1_g v94 = some y) : ∃ H', FnOk Try.prog 66 (DVs.av F [.flt .f32 v94]) F.H0 ((impl_areFinite_1_enc v94 y).1.av F) H' ∧ St F (impl_areFinite_1_enc v94 y).2 H' ∧ (impl_areFinite_1_enc v94 y).1.Ok F (impl_areFinite_1_enc v94 y).2 :=
  fn_fin tok impl_areFinite_1_hO mixed Try.func66 Try.call66 (by kernel_rfl) (LoopsOk_eq (l := []) (by kernel_rfl) trivial) (impl_areFinite_1_den v94) hy hm h0 hA
def impl_areFinite_1_v (v94 : Nat) : Bool :=
  !(impl_IsFinite_v v94)
theorem impl_areFinite_1_tot (v94 : Nat) : impl_areFinite_1_g v94 = some (impl_areFinite_1_v v94) := by
  unfold impl_areFinite_1_g impl_areFinite_1_T impl_areFinite_1_v
  simp only [Tree.run]
  repeat' (first | rfl | split)
noncomputable def impl_areFinite_1_F : DFn := fun args L =>
  match args with
  | [.flt .f32 v94] =>
    .leaf (.bool (impl_areFinite_1_v v94), L)
  | _ => .fail
theorem impl_areFinite_1_Fok : COk Try.prog 66 impl_areFinite_1_F true := by
  intro F L H args r L' hs ha hr
  unfold impl_areFinite_1_F at hr
  split at hr
  · rename_i v94
    have hy := impl_areFinite_1_tot v94
    generalize impl_areFinite_1_v v94 = y at hy hr
    simp only [Tree.run, Option.some.injEq, Prod.mk.injEq] at hr
    obtain ⟨rfl, rfl⟩ := hr
    exact call_ok0 hs (fun k => (([] : List AV)[k]?).getD .top) [.flt .f32 v94] [.flt .f32 v94] (fun F' h0 hi hρ => ⟨by simp [DVs.av, DV.av, BR.av, hρ], impl_areFinite_1_fn v94 F' (by rw [hi]; rfl) (st_nil hi) ⟨trivial, trivial⟩ hy⟩) rfl
  · cases hr
/-! slices.IndexFunc[list of float32,float32] -/
noncomputable def slices_IndexFuncF_l0_T (v92 : List Nat) (s : Int) : Tree ((Int) ⊕ ((Int) ⊕ (Unit))) :=
  (.br (decide (s < ((v92.length : Nat) : Int))) (
   (.grd (inb s v92.length) <|
   (.br (impl_areFinite_1_v (nth v92 (Int.toNat s))) (
    .leaf (.inr (.inl s))
   ) (
    .leaf (.inl (IntKind.i64.wrap (s + (1 : Int))))
   )))
  ) (
   .leaf (.inr (.inr ()))
  ))

noncomputable def slices_IndexFuncF_l0_g (v92 : List Nat) (s0 : Int) : Option ((Int) ⊕ (Unit)) := whileM (fun s => (slices_IndexFuncF_l0_T v92 s).run) s0
def slices_IndexFuncF_l0_E (v92 : List Nat) (s : Int) : Sd := ([.bslc (BR.root 0) (.f32 v92), .fn 66 [], .top, .top, .top, .top, .top, .int .i64 ((v92.length : Nat) : Int), .int .i64 s, .top, .top, .top, .top, .top, .top, .top, .top, .top, .top], [])
def slices_IndexFuncF_l0_X (v92 : List Nat) (x : (Int) ⊕ (Unit)) : Out := (match x with | .inl x => (.ret, [.top, .top, .top, .top, .int .i64 x, .top, .top, .top, .top, .top, .top, .top, .top, .top, .top, .top, .top, .top, .top], []) | .inr x => (.normal, [.top, .top, .top, .top, .top, .top, .top, .top, .top, .top, .top, .top, .top, .top, .top, .top, .top, .top, .top], []))
def slices_IndexFuncF_l0_kill : List Nat := [0, 0, 1, 1, 1, 1, 1, 0, 0, 1, 1, 1, 1, 1, 1, 1, 1, 1, 1]
def slices_IndexFuncF_l0_nx : Exit → List Nat
  | .exit 0 => [1, 1, 1, 1, 1, 1, 1, 1, 1, 1, 1, 1, 1, 1, 1, 1, 1, 1, 1]
  | .ret => [1, 1, 1, 1, 0, 1, 1, 1, 1, 1, 1, 1, 1, 1, 1, 1, 1, 1, 1]
  | _ => []
noncomputable def slices_IndexFuncF_LO (v92 : List Nat) : LOr := fun id e L =>
  match id with
  | 0 => .need (normA 0 slices_IndexFuncF_l0_kill e L = some (slices_IndexFuncF_l0_E v92 (gI (vAt e 8)))) (.call (slices_IndexFuncF_l0_g v92 (gI (vAt e 8))) fun x => .sum x (fun b0 => .leaf (slices_IndexFuncF_l0_X v92 (.inl b0))) (fun c0 => .leaf (slices_IndexFuncF_l0_X v92 (.inr c0))))
  | _ => .fail
noncomputable def slices_IndexFuncF_tab : List (FuncId × DFn × Bool) := [(66, impl_areFinite_1_F, true)]
theorem slices_IndexFuncF_hO : OrcOk Try.prog (tabD slices_IndexFuncF_tab) (tabM slices_IndexFuncF_tab) := tabD_cons impl_areFinite_1_Fok (tabD_nil _)
theorem slices_IndexFuncF_l0_be (v92 : List Nat) (s : Int) : bodyT TT (tabD slices_IndexFuncF_tab) (tabM slices_IndexFuncF_tab) (slices_IndexFuncF_LO v92) 0 slices_IndexFuncF_l0_kill slices_IndexFuncF_l0_nx (bodyOf Try.f75 0) 0 (slices_IndexFuncF_l0_E v92 s) = (slices_IndexFuncF_l0_T v92 s).bind fun y => .leaf (outS (slices_IndexFuncF_l0_E v92) (slices_IndexFuncF_l0_X v92) y) := by kernel_rfl
theorem slices_IndexFuncF_l0_ok (v92 : List Nat) : LSound Try.prog 0 (slices_IndexFuncF_LO v92) 0 (bodyOf Try.f75 0) := by
  intro e L out h
  exact lo_ok (E := slices_IndexFuncF_l0_E v92) (gT := slices_IndexFuncF_l0_T v92) (X := slices_IndexFuncF_l0_X v92) (s0 := (gI (vAt e 8))) tok slices_IndexFuncF_hO mixed (LoopsOk_eq (l := []) (by kernel_rfl) trivial) (slices_IndexFuncF_l0_be v92) rfl (by intro x; (cases x with | inl b => rfl | inr x => exact rfl)) h
noncomputable def slices_IndexFuncF_T (v92 : List Nat) : Tree (Int) :=
  (.need (some (slices_IndexFuncF_l0_E v92 (0 : Int)) = some (slices_IndexFuncF_l0_E v92 (0 : Int))) <|
  (.call (slices_IndexFuncF_l0_g v92 (0 : Int)) fun v102 =>
  (.sum v102 (fun v103 =>
   .leaf v103
  ) (fun v104 =>
   .leaf (-1 : Int)
  ))))

noncomputable def slices_IndexFuncF_g (v92 : List Nat) : Option (Int) := (slices_IndexFuncF_T v92).run
def slices_IndexFuncF_enc (v92 : List Nat) (y : Int) : Rs := (.int .i64 y, [])
theorem slices_IndexFuncF_den (v92 : List Nat) : (den TT (tabD slices_IndexFuncF_tab) (tabM slices_IndexFuncF_tab) (slices_IndexFuncF_LO v92) (codeOf Try.f75) ([.bslc (BR.root 0) (.f32 v92), .fn 66 []] ++ List.replicate (Try.f75.ntmps - ([.bslc (BR.root 0) (.f32 v92), .fn 66 []] : List DV).length) .undef) []).bind (retD TT Try.f75.results.toList 0) = (slices_IndexFuncF_T v92).bind fun y => .leaf (slices_IndexFuncF_enc v92 y) := by kernel_rfl
theorem slices_IndexFuncF_fn (v92 : List Nat) (F : Fr) (hm : F.ids.length = 0) (h0 : St F [] F.H0) (hA : DVs.Ok F [] [.bslc (BR.root 0) (.f32 v92), .fn 66 []]) {y : Int} (hy : slices_IndexFuncF_g v92 = some y) : ∃ H', FnOk Try.prog 75 (DVs.av F [.bslc (BR.root 0) (.f32 v92), .fn 66 []]) F.H0 ((slices_IndexFuncF_enc v92 y).1.av F) H' ∧ St F (slices_IndexFuncF_enc v92 y).2 H' ∧ (slices_IndexFuncF_enc v92 y).1.Ok F (slices_IndexFuncF_enc v92 y).2 :=
  fn_fin tok slices_IndexFuncF_hO mixed Try.func75 Try.call75 (by kernel_rfl) (LoopsOk_eq (l := [(0, bodyOf Try.f75 0)]) (by kernel_rfl) ⟨slices_IndexFuncF_l0_ok v92, trivial⟩) (slices_IndexFuncF_den v92) hy hm h0 hA
noncomputable def slices_IndexFuncF_F : DFn := fun args L =>
  match args with
  | [a1, .fn 66 []] =>
    optT (rowF32 L a1) fun v92 =>
    .call (slices_IndexFuncF_g v92) fun y => .leaf (.int .i64 y, L)
  | _ => .fail
theorem slices_IndexFuncF_Fok : COk Try.prog 75 slices_IndexFuncF_F true := by
  intro F L H args r L' hs ha hr
  unfold slices_IndexFuncF_F at hr
  split at hr
  · rename_i a1
    obtain ⟨v92, hv92, hr⟩ := optT_run hr
    simp only [Tree.run] at hr
    obtain ⟨y, hy, hr⟩ := Option.bind_eq_some_iff.1 hr
    simp only [Tree.run, Option.some.injEq, Prod.mk.injEq] at hr
    obtain ⟨rfl, rfl⟩ := hr
    exact call_ok0 hs (fun k => (([a1.av F] : List AV)[k]?).getD .top) [a1, .fn 66 []] [.bslc (BR.root 0) (.f32 v92), .fn 66 []] (fun F' h0 hi hρ => ⟨by simp [DVs.av, DV.av, BR.av, hρ], slices_IndexFuncF_fn v92 F' (by rw [hi]; rfl) (st_nil hi) ⟨bslc_ok hi (by rw [h0, hρ]; exact rowF32_ok hs (DVs.okAt ha 0 rfl) hv92), trivial, trivial⟩ hy⟩) rfl
  · cases hr
/-! slices.ContainsFunc[list of float32,float32] -/
noncomputable def slices_ContainsFuncF_LO (v91 : List Nat) : LOr := fun id e L =>
  match id with
  | _ => .fail
noncomputable def slices_ContainsFuncF_tab : List (FuncId × DFn × Bool) := [(75, slices_IndexFuncF_F, true)]
theorem slices_ContainsFuncF_hO : OrcOk Try.prog (tabD slices_ContainsFuncF_tab) (tabM slices_ContainsFuncF_tab) := tabD_cons slices_IndexFuncF_Fok (tabD_nil _)
noncomputable def slices_ContainsFuncF_T (v91 : List Nat) : Tree (Bool) :=
  (.call (slices_IndexFuncF_g v91) fun v105 =>
  .leaf (decide ((0 : Int) ≤ v105)))

noncomputable def slices_ContainsFuncF_g (v91 : List Nat) : Option (Bool) := (slices_ContainsFuncF_T v91).run
def slices_ContainsFuncF_enc (v91 : List Nat) (y : Bool) : Rs := (.bool y, [])
theorem slices_ContainsFuncF_den (v91 : List Nat) : (den TT (tabD slices_ContainsFuncF_tab) (tabM slices_ContainsFuncF_tab) (slices_ContainsFuncF_LO v91) (codeOf Try.f65) ([.bslc (BR.root 0) (.f32 v91), .fn 66 []] ++ List.replicate (Try.f65.ntmps - ([.bslc (BR.root 0) (.f32 v91), .fn 66 []] : List DV).length) .undef) []).bind (retD TT Try.f65.results.toList 0) = (slices_ContainsFuncF_T v91).bind fun y => .leaf (slices_ContainsFuncF_enc v91 y) := by kernel_rfl
theorem slices_ContainsFuncF_fn (v91 : List Nat) (F : Fr) (hm : F.ids.length = 0) (h0 : St F [] F.H0) (hA : DVs.Ok F [] [.bslc (BR.root 0) (.f32 v91), .fn 66 []]) {y : Bool} (hy : slices_ContainsFuncF_g v91 = some y) : ∃ H', FnOk Try.prog 65 (DVs.av F [.bslc (BR.root 0) (.f32 v91), .fn 66 []]) F.H0 ((slices_ContainsFuncF_enc v91 y).1.av F) H' ∧ St F (slices_ContainsFuncF_enc v91 y).2 H' ∧ (slices_ContainsFuncF_enc v91 y).1.Ok F (slices_ContainsFuncF_enc v91 y).2 :=
  fn_fin tok slices_ContainsFuncF_hO mixed Try.func65 Try.call65 (by kernel_rfl) (LoopsOk_eq (l := []) (by kernel_rfl) trivial) (slices_ContainsFuncF_den v91) hy hm h0 hA
noncomputable def slices_ContainsFuncF_F : DFn := fun args L =>
  match args with
  | [a1, .fn 66 []] =>
    optT (rowF32 L a1) fun v91 =>
    .call (slices_ContainsFuncF_g v91) fun y => .leaf (.bool y, L)
  | _ => .fail
theorem slices_ContainsFuncF_Fok : COk Try.prog 65 slices_ContainsFuncF_F true := by
  intro F L H args r L' hs ha hr
  unfold slices_ContainsFuncF_F at hr
  split at hr
  · rename_i a1
    obtain ⟨v91, hv91, hr⟩ := optT_run hr
    simp only [Tree.run] at hr
    obtain ⟨y, hy, hr⟩ := Option.bind_eq_some_iff.1 hr
    simp only [Tree.run, Option.some.injEq, Prod.mk.injEq] at hr
    obtain ⟨rfl, rfl⟩ := hr
    exact call_ok0 hs (fun k => (([a1.av F] : List AV)[k]?).getD .top) [a1, .fn 66 []] [.bslc (BR.root 0) (.f32 v91), .fn 66 []] (fun F' h0 hi hρ => ⟨by simp [DVs.av, DV.av, BR.av, hρ], slices_ContainsFuncF_fn v91 F' (by rw [hi]; rfl) (st_nil hi) ⟨bslc_ok hi (by rw [h0, hρ]; exact rowF32_ok hs (DVs.okAt ha 0 rfl) hv91), trivial, trivial⟩ hy⟩) rfl
  · cases hr
/-! impl.areFinite -/
noncomputable def impl_areFinite_LO (v90 : List Nat) : LOr := fun id e L =>
  match id with
  | _ => .fail
noncomputable def impl_areFinite_tab : List (FuncId × DFn × Bool) := [(65, slices_ContainsFuncF_F, true)]
theorem impl_areFinite_hO : OrcOk Try.prog (tabD impl_areFinite_tab) (tabM impl_areFinite_tab) := tabD_cons slices_ContainsFuncF_Fok (tabD_nil _)
noncomputable def impl_areFinite_T (v90 : List Nat) : Tree (Bool) :=
  (.call (slices_ContainsFuncF_g v90) fun v106 =>
  .leaf (!v106))

noncomputable def impl_areFinite_g (v90 : List Nat) : Option (Bool) := (impl_areFinite_T v90).run
def impl_areFinite_enc (v90 : List Nat) (y : Bool) : Rs := (.bool y, [])
theorem impl_areFinite_den (v90 : List Nat) : (den TT (tabD impl_areFinite_tab) (tabM impl_areFinite_tab) (impl_areFinite_LO v90) (codeOf Try.f44) ([.bslc (BR.root 0) (.f32 v90)] ++ List.replicate (Try.f44.ntmps - ([.bslc (BR.root 0) (.f32 v90)] : List DV).length) .undef) []).bind (retD TT Try.f44.results.toList 0) = (impl_areFinite_T v90).bind fun y => .leaf (impl_areFinite_enc v90 y) := by kernel_rfl
theorem impl_areFinite_fn (v90 : List Nat) (F : Fr) (hm : F.ids.length = 0) (h0 : St F [] F.H0) (hA : DVs.Ok F [] [.bslc (BR.root 0) (.f32 v90)]) {y : Bool} (hy : impl_areFinite_g v90 = some y) : ∃ H', FnOk Try.prog 44 (DVs.av F [.bslc (BR.root 0) (.f32 v90)]) F.H0 ((impl_areFinite_enc v90 y).1.av F) H' ∧ St F (impl_areFinite_enc v90 y).2 H' ∧ (impl_areFinite_enc v90 y).1.Ok F (impl_areFinite_enc v90 y).2 :=
  fn_fin tok impl_areFinite_hO mixed Try.func44 Try.call44 (by kernel_rfl) (LoopsOk_eq (l := []) (by kernel_rfl) trivial) (impl_areFinite_den v90) hy hm h0 hA
noncomputable def impl_areFinite_F : DFn := fun args L =>
  match args with
  | [a1] =>
    optT (rowF32 L a1) fun v90 =>
    .call (impl_areFinite_g v90) fun y => .leaf (.bool y, L)
  | _ => .fail
theorem impl_areFinite_Fok : COk Try.prog 44 impl_areFinite_F true := by
  intro F L H args r L' hs ha hr
  unfold impl_areFinite_F at hr
  split at hr
  · rename_i a1
    obtain ⟨v90, hv90, hr⟩ := optT_run hr
    simp only [Tree.run] at hr
    obtain ⟨y, hy, hr⟩ := Option.bind_eq_some_iff.1 hr
    simp only [Tree.run, Option.some.injEq, Prod.mk.injEq] at hr
    obtain ⟨rfl, rfl⟩ := hr
    exact call_ok0 hs (fun k => (([a1.av F] : List AV)[k]?).getD .top) [a1] [.bslc (BR.root 0) (.f32 v90)] (fun F' h0 hi hρ => ⟨by simp [DVs.av, DV.av, BR.av, hρ], impl_areFinite_fn v90 F' (by rw [hi]; rfl) (st_nil hi) ⟨bslc_ok hi (by rw [h0, hρ]; exact rowF32_ok hs (DVs.okAt ha 0 rfl) hv90), trivial⟩ hy⟩) rfl
  · cases hr
/-! impl.ValidMatrix -/
noncomputable def impl_ValidMatrix_LO (v85 : Int) (v86 : Int) (v87 : List Nat) : LOr := fun id e L =>
  match id with
  | _ => .fail
noncomputable def impl_ValidMatrix_tab : List (FuncId × DFn × Bool) := [(70, impl_isSide_F, true), (57, impl_lengthF_F, true), (44, impl_areFinite_F, true)]
theorem impl_ValidMatrix_hO : OrcOk Try.prog (tabD impl_ValidMatrix_tab) (tabM impl_ValidMatrix_tab) := tabD_cons impl_isSide_Fok (tabD_cons impl_lengthF_Fok (tabD_cons impl_areFinite_Fok (tabD_nil _)))
noncomputable def impl_ValidMatrix_T (v85 : Int) (v86 : Int) (v87 : List Nat) : Tree (Bool) :=
  (.br (impl_isSide_v v85) (
   (.br (impl_isSide_v v86) (
    (.br (decide ((impl_lengthF_v v87) = IntKind.i64.wrap (v85 * v86))) (
     (.call (impl_areFinite_g v87) fun v107 =>
     .leaf v107)
    ) (
     .leaf false
    ))
   ) (
    .leaf false
   ))
  ) (
   .leaf false
  ))

noncomputable def impl_ValidMatrix_g (v85 : Int) (v86 : Int) (v87 : List Nat) : Option (Bool) := (impl_ValidMatrix_T v85 v86 v87).run
def impl_ValidMatrix_enc (v85 : Int) (v86 : Int) (v87 : List Nat) (y : Bool) : Rs := (.bool y, [])
theorem impl_ValidMatrix_den (v85 : Int) (v86 : Int) (v87 : List Nat) : (den TT (tabD impl_ValidMatrix_tab) (tabM impl_ValidMatrix_tab) (impl_ValidMatrix_LO v85 v86 v87) (codeOf Try.f53) ([.agg [.int .i64 v85, .int .i64 v86, .bslc (BR.root 0) (.f32 v87)]] ++ List.replicate (Try.f53.ntmps - ([.agg [.int .i64 v85, .int .i64 v86, .bslc (BR.root 0) (.f32 v87)]] : List DV).length) .undef) []).bind (retD TT Try.f53.results.toList 0) = (impl_ValidMatrix_T v85 v86 v87).bind fun y => .leaf (impl_ValidMatrix_enc v85 v86 v87 y) := by kernel_rfl
theorem impl_ValidMatrix_fn (v85 : Int) (v86 : Int) (v87 : List Nat) (F : Fr) (hm : F.ids.length = 0) (h0 : St F [] F.H0) (hA : DVs.Ok F [] [.agg [.int .i64 v85, .int .i64 v86, .bslc (BR.root 0) (.f32 v87)]]) {y : Bool} (hy : impl_ValidMatrix_g v85 v86 v87 = some y) : ∃ H', FnOk Try.prog 53 (DVs.av F [.agg [.int .i64 v85, .int .i64 v86, .bslc (BR.root 0) (.f32 v87)]]) F.H0 ((impl_ValidMatrix_enc v85 v86 v87 y).1.av F) H' ∧ St F (impl_ValidMatrix_enc v85 v86 v87 y).2 H' ∧ (impl_ValidMatrix_enc v85 v86 v87 y).1.Ok F (impl_ValidMatrix_enc v85 v86 v87 y).2 :=
  fn_fin tok impl_ValidMatrix_hO mixed Try.func53 Try.call53 (by kernel_rfl) (LoopsOk_eq (l := []) (by kernel_rfl) trivial) (impl_ValidMatrix_den v85 v86 v87) hy hm h0 hA
noncomputable def impl_ValidMatrix_F : DFn := fun args L =>
  match args with
  | [.agg [.int .i64 v85, .int .i64 v86, a1]] =>
    optT (rowF32 L a1) fun v87 =>
    .call (impl_ValidMatrix_g v85 v86 v87) fun y => .leaf (.bool y, L)
  | _ => .fail
theorem impl_ValidMatrix_Fok : COk Try.prog 53 impl_ValidMatrix_F true := by
  intro F L H args r L' hs ha hr
  unfold impl_ValidMatrix_F at hr
  split at hr
  · rename_i v85 v86 a1
    obtain ⟨v87, hv87, hr⟩ := optT_run hr
    simp only [Tree.run] at hr
    obtain ⟨y, hy, hr⟩ := Option.bind_eq_some_iff.1 hr
    simp only [Tree.run, Option.some.injEq, Prod.mk.injEq] at hr
    obtain ⟨rfl, rfl⟩ := hr
    exact call_ok0 hs (fun k => (([a1.av F] : List AV)[k]?).getD .top) [.agg [.int .i64 v85, .int .i64 v86, a1]] [.agg [.int .i64 v85, .int .i64 v86, .bslc (BR.root 0) (.f32 v87)]] (fun F' h0 hi hρ => ⟨by simp [DVs.av, DV.av, BR.av, hρ], impl_ValidMatrix_fn v85 v86 v87 F' (by rw [hi]; rfl) (st_nil hi) ⟨⟨trivial, trivial, bslc_ok hi (by rw [h0, hρ]; exact rowF32_ok hs (DVs.okAt (DVs.okAt ha 0 rfl) 2 rfl) hv87), trivial⟩, trivial⟩ hy⟩) rfl
  · cases hr
/-! impl.ValidSheet -/
noncomputable def impl_ValidSheet_LO (v70 : ByteArray) (v71 : Int) (v72 : Int) (v73 : List Nat) : LOr := fun id e L =>
  match id with
  | _ => .fail
noncomputable def impl_ValidSheet_tab : List (FuncId × DFn × Bool) := [(52, impl_IsName_F, true), (53, impl_ValidMatrix_F, true)]
theorem impl_ValidSheet_hO : OrcOk Try.prog (tabD impl_ValidSheet_tab) (tabM impl_ValidSheet_tab) := tabD_cons impl_IsName_Fok (tabD_cons impl_ValidMatrix_Fok (tabD_nil _))
noncomputable def impl_ValidSheet_T (v70 : ByteArray) (v71 : Int) (v72 : Int) (v73 : List Nat) : Tree (Bool) :=
  (.call (impl_IsName_g v70) fun v84 =>
  (.br v84 (
   (.call (impl_ValidMatrix_g v71 v72 v73) fun v108 =>
   .leaf v108)
  ) (
   .leaf false
  )))

noncomputable def impl_ValidSheet_g (v70 : ByteArray) (v71 : Int) (v72 : Int) (v73 : List Nat) : Option (Bool) := (impl_ValidSheet_T v70 v71 v72 v73).run
def impl_ValidSheet_enc (v70 : ByteArray) (v71 : Int) (v72 : Int) (v73 : List Nat) (y : Bool) : Rs := (.bool y, [])
theorem impl_ValidSheet_den (v70 : ByteArray) (v71 : Int) (v72 : Int) (v73 : List Nat) : (den TT (tabD impl_ValidSheet_tab) (tabM impl_ValidSheet_tab) (impl_ValidSheet_LO v70 v71 v72 v73) (codeOf Try.f26) ([.agg [.str v70, .int .i64 v71, .int .i64 v72, .bslc (BR.root 0) (.f32 v73)]] ++ List.replicate (Try.f26.ntmps - ([.agg [.str v70, .int .i64 v71, .int .i64 v72, .bslc (BR.root 0) (.f32 v73)]] : List DV).length) .undef) []).bind (retD TT Try.f26.results.toList 0) = (impl_ValidSheet_T v70 v71 v72 v73).bind fun y => .leaf (impl_ValidSheet_enc v70 v71 v72 v73 y) := by kernel_rfl
theorem impl_ValidSheet_fn (v70 : ByteArray) (v71 : Int) (v72 : Int) (v73 : List Nat) (F : Fr) (hm : F.ids.length = 0) (h0 : St F [] F.H0) (hA : DVs.Ok F [] [.agg [.str v70, .int .i64 v71, .int .i64 v72, .bslc (BR.root 0) (.f32 v73)]]) {y : Bool} (hy : impl_ValidSheet_g v70 v71 v72 v73 = some y) : ∃ H', FnOk Try.prog 26 (DVs.av F [.agg [.str v70, .int .i64 v71, .int .i64 v72, .bslc (BR.root 0) (.f32 v73)]]) F.H0 ((impl_ValidSheet_enc v70 v71 v72 v73 y).1.av F) H' ∧ St F (impl_ValidSheet_enc v70 v71 v72 v73 y).2 H' ∧ (impl_ValidSheet_enc v70 v71 v72 v73 y).1.Ok F (impl_ValidSheet_enc v70 v71 v72 v73 y).2 :=
  fn_fin tok impl_ValidSheet_hO mixed Try.func26 Try.call26 (by kernel_rfl) (LoopsOk_eq (l := []) (by kernel_rfl) trivial) (impl_ValidSheet_den v70 v71 v72 v73) hy hm h0 hA
noncomputable def impl_ValidSheet_F : DFn := fun args L =>
  match args with
  | [.agg [.str v70, .int .i64 v71, .int .i64 v72, a1]] =>
    optT (rowF32 L a1) fun v73 =>
    .call (impl_ValidSheet_g v70 v71 v72 v73) fun y => .leaf (.bool y, L)
  | _ => .fail
theorem impl_ValidSheet_Fok : COk Try.prog 26 impl_ValidSheet_F true := by
  intro F L H args r L' hs ha hr
  unfold impl_ValidSheet_F at hr
  split at hr
  · rename_i v70 v71 v72 a1
    obtain ⟨v73, hv73, hr⟩ := optT_run hr
    simp only [Tree.run] at hr
    obtain ⟨y, hy, hr⟩ := Option.bind_eq_some_iff.1 hr
    simp only [Tree.run, Option.some.injEq, Prod.mk.injEq] at hr
    obtain ⟨rfl, rfl⟩ := hr
    exact call_ok0 hs (fun k => (([a1.av F] : List AV)[k]?).getD .top) [.agg [.str v70, .int .i64 v71, .int .i64 v72, a1]] [.agg [.str v70, .int .i64 v71, .int .i64 v72, .bslc (BR.root 0) (.f32 v73)]] (fun F' h0 hi hρ => ⟨by simp [DVs.av, DV.av, BR.av, hρ], impl_ValidSheet_fn v70 v71 v72 v73 F' (by rw [hi]; rfl) (st_nil hi) ⟨⟨trivial, trivial, trivial, bslc_ok hi (by rw [h0, hρ]; exact rowF32_ok hs (DVs.okAt (DVs.okAt ha 0 rfl) 3 rfl) hv73), trivial⟩, trivial⟩ hy⟩) rfl
  · cases hr
/-! laws.sameFloat -/
noncomputable def laws_sameFloat_LO (v128 : Nat) (v129 : Nat) : LOr := fun id e L =>
  match id with
  | _ => .fail
noncomputable def laws_sameFloat_tab : List (FuncId × DFn × Bool) := []
theorem laws_sameFloat_hO : OrcOk Try.prog (tabD laws_sameFloat_tab) (tabM laws_sameFloat_tab) := tabD_nil _
noncomputable def laws_sameFloat_T (v128 : Nat) (v129 : Nat) : Tree (Bool) :=
  (.br (!feq .f64 v128 v128) (
   (.br (!feq .f64 v128 v128) (
    .leaf (!feq .f64 v129 v129)
   ) (
    .leaf false
   ))
  ) (
   (.br (!feq .f64 v129 v129) (
    (.br (!feq .f64 v128 v128) (
     .leaf (!feq .f64 v129 v129)
    ) (
     .leaf false
    ))
   ) (
    (.br (feq .f64 v128 (0 : Nat)) (
     (.br (feq .f64 v129 (0 : Nat)) (
      .leaf ((fgrt .f64 (fdiv .f64 (4607182418800017408 : Nat) v128) (0 : Nat)) == (fgrt .f64 (fdiv .f64 (4607182418800017408 : Nat) v129) (0 : Nat)))
     ) (
      .leaf (feq .f64 v128 v129)
     ))
    ) (
     .leaf (feq .f64 v128 v129)
    ))
   ))
  ))

noncomputable def laws_sameFloat_g (v128 : Nat) (v129 : Nat) : Option (Bool) := (laws_sameFloat_T v128 v129).run
def laws_sameFloat_enc (v128 : Nat) (v129 : Nat) (y : Bool) : Rs := (.bool y, [])
theorem laws_sameFloat_den (v128 : Nat) (v129 : Nat) : (den TT (tabD laws_sameFloat_tab) (tabM laws_sameFloat_tab) (laws_sameFloat_LO v128 v129) (codeOf Try.f12) ([.flt .f64 v128, .flt .f64 v129] ++ List.replicate (Try.f12.ntmps - ([.flt .f64 v128, .flt .f64 v129] : List DV).length) .undef) []).bind (retD TT Try.f12.results.toList 0) = (laws_sameFloat_T v128 v129).bind fun y => .leaf (laws_sameFloat_enc v128 v129 y) := by kernel_rfl
theorem laws_sameFloat_fn (v128 : Nat) (v129 : Nat) (F : Fr) (hm : F.ids.length = 0) (h0 : St F [] F.H0) (hA : DVs.Ok F [] [.flt .f64 v128, .flt .f64 v129]) {y : Bool} (hy : laws_sameFloat_g v128 v129 = some y) : ∃ H', FnOk Try.prog 12 (DVs.av F [.flt .f64 v128, .flt .f64 v129]) F.H0 ((laws_sameFloat_enc v128 v129 y).1.av F) H' ∧ St F (laws_sameFloat_enc v128 v129 y).2 H' ∧ (laws_sameFloat_enc v128 v129 y).1.Ok F (laws_sameFloat_enc v128 v129 y).2 :=
  fn_fin tok laws_sameFloat_hO mixed Try.func12 Try.call12 (by kernel_rfl) (LoopsOk_eq (l := []) (by kernel_rfl) trivial) (laws_sameFloat_den v128 v129) hy hm h0 hA
def laws_sameFloat_v (v128 : Nat) (v129 : Nat) : Bool :=
  if (!feq .f64 v128 v128) = true then (
   if (!feq .f64 v128 v128) = true then (
    !feq .f64 v129 v129
   ) else (
    false
   )
  ) else (
   if (!feq .f64 v129 v129) = true then (
    if (!feq .f64 v128 v128) = true then (
     !feq .f64 v129 v129
    ) else (
     false
    )
   ) else (
    if (feq .f64 v128 (0 : Nat)) = true then (
     if (feq .f64 v129 (0 : Nat)) = true then (
      (fgrt .f64 (fdiv .f64 (4607182418800017408 : Nat) v128) (0 : Nat)) == (fgrt .f64 (fdiv .f64 (4607182418800017408 : Nat) v129) (0 : Nat))
     ) else (
      feq .f64 v128 v129
     )
    ) else (
     feq .f64 v128 v129
    )
   )
  )
theorem laws_sameFloat_tot (v128 : Nat) (v129 : Nat) : laws_sameFloat_g v128 v129 = some (laws_sameFloat_v v128 v129) := by
  unfold laws_sameFloat_g laws_sameFloat_T laws_sameFloat_v
  simp only [Tree.run]
  repeat' (first | rfl | split)
noncomputable def laws_sameFloat_F : DFn := fun args L =>
  match args with
  | [.flt .f64 v128, .flt .f64 v129] =>
    .leaf (.bool (laws_sameFloat_v v128 v129), L)
  | _ => .fail
theorem laws_sameFloat_Fok : COk Try.prog 12 laws_sameFloat_F true := by
  intro F L H args r L' hs ha hr
  unfold laws_sameFloat_F at hr
  split at hr
  · rename_i v128 v129
    have hy := laws_sameFloat_tot v128 v129
    generalize laws_sameFloat_v v128 v129 = y at hy hr
    simp only [Tree.run, Option.some.injEq, Prod.mk.injEq] at hr
    obtain ⟨rfl, rfl⟩ := hr
    exact call_ok0 hs (fun k => (([] : List AV)[k]?).getD .top) [.flt .f64 v128, .flt .f64 v129] [.flt .f64 v128, .flt .f64 v129] (fun F' h0 hi hρ => ⟨by simp [DVs.av, DV.av, BR.av, hρ], laws_sameFloat_fn v128 v129 F' (by rw [hi]; rfl) (st_nil hi) ⟨trivial, trivial, trivial⟩ hy⟩) rfl
  · cases hr
/-! laws.eqFloat32S -/
noncomputable def laws_eqFloat32S_l0_T (v125 : List Nat) (v126 : List Nat) (s : Int) : Tree ((Int) ⊕ ((Unit) ⊕ (Unit))) :=
  (.br (decide (s < ((v125.length : Nat) : Int))) (
   (.grd (inb s v125.length) <|
   (.grd (inb s v126.length) <|
   (.br (!(laws_sameFloat_v (wid (nth v125 (Int.toNat s))) (wid (nth v126 (Int.toNat s))))) (
    .leaf (.inr (.inl ()))
   ) (
    .leaf (.inl (IntKind.i64.wrap (s + (1 : Int))))
   ))))
  ) (
   .leaf (.inr (.inr ()))
  ))

noncomputable def laws_eqFloat32S_l0_g (v125 : List Nat) (v126 : List Nat) (s0 : Int) : Option ((Unit) ⊕ (Unit)) := whileM (fun s => (laws_eqFloat32S_l0_T v125 v126 s).run) s0
def laws_eqFloat32S_l0_E (v125 : List Nat) (v126 : List Nat) (s : Int) : Sd := ([.bslc (BR.root 0) (.f32 v125), .bslc (BR.root 1) (.f32 v126), .top, .top, .top, .int .i64 s, .top, .top, .top, .top, .top, .top, .top, .top, .top, .top, .top, .top, .top, .top, .top, .top, .top, .top, .top, .top, .top, .top, .top], [])
def laws_eqFloat32S_l0_X (v125 : List Nat) (v126 : List Nat) (x : (Unit) ⊕ (Unit)) : Out := (match x with | .inl x => (.ret, [.top, .top, .top, .top, .lit false, .top, .top, .top, .top, .top, .top, .top, .top, .top, .top, .top, .top, .top, .top, .top, .top, .top, .top, .top, .top, .top, .top, .top, .top], []) | .inr x => (.normal, [.top, .top, .top, .top, .top, .top, .top, .top, .top, .top, .top, .top, .top, .top, .top, .top, .top, .top, .top, .top, .top, .top, .top, .top, .top, .top, .top, .top, .top], []))
def laws_eqFloat32S_l0_kill : List Nat := [0, 0, 1, 1, 1, 0, 1, 1, 1, 1, 1, 1, 1, 1, 1, 1, 1, 1, 1, 1, 1, 1, 1, 1, 1, 1, 1, 1, 1]
def laws_eqFloat32S_l0_nx : Exit → List Nat
  | .exit 0 => [1, 1, 1, 1, 1, 1, 1, 1, 1, 1, 1, 1, 1, 1, 1, 1, 1, 1, 1, 1, 1, 1, 1, 1, 1, 1, 1, 1, 1]
  | .ret => [1, 1, 1, 1, 0, 1, 1, 1, 1, 1, 1, 1, 1, 1, 1, 1, 1, 1, 1, 1, 1, 1, 1, 1, 1, 1, 1, 1, 1]
  | _ => []
noncomputable def laws_eqFloat32S_LO (v125 : List Nat) (v126 : List Nat) : LOr := fun id e L =>
  match id with
  | 0 => .need (normA 0 laws_eqFloat32S_l0_kill e L = some (laws_eqFloat32S_l0_E v125 v126 (gI (vAt e 5)))) (.call (laws_eqFloat32S_l0_g v125 v126 (gI (vAt e 5))) fun x => .sum x (fun b0 => .leaf (laws_eqFloat32S_l0_X v125 v126 (.inl b0))) (fun c0 => .leaf (laws_eqFloat32S_l0_X v125 v126 (.inr c0))))
  | _ => .fail
noncomputable def laws_eqFloat32S_tab : List (FuncId × DFn × Bool) := [(12, laws_sameFloat_F, true)]
theorem laws_eqFloat32S_hO : OrcOk Try.prog (tabD laws_eqFloat32S_tab) (tabM laws_eqFloat32S_tab) := tabD_cons laws_sameFloat_Fok (tabD_nil _)
theorem laws_eqFloat32S_l0_be (v125 : List Nat) (v126 : List Nat) (s : Int) : bodyT TT (tabD laws_eqFloat32S_tab) (tabM laws_eqFloat32S_tab) (laws_eqFloat32S_LO v125 v126) 0 laws_eqFloat32S_l0_kill laws_eqFloat32S_l0_nx (bodyOf Try.f13 0) 0 (laws_eqFloat32S_l0_E v125 v126 s) = (laws_eqFloat32S_l0_T v125 v126 s).bind fun y => .leaf (outS (laws_eqFloat32S_l0_E v125 v126) (laws_eqFloat32S_l0_X v125 v126) y) := by kernel_rfl
theorem laws_eqFloat32S_l0_ok (v125 : List Nat) (v126 : List Nat) : LSound Try.prog 0 (laws_eqFloat32S_LO v125 v126) 0 (bodyOf Try.f13 0) := by
  intro e L out h
  exact lo_ok (E := laws_eqFloat32S_l0_E v125 v126) (gT := laws_eqFloat32S_l0_T v125 v126) (X := laws_eqFloat32S_l0_X v125 v126) (s0 := (gI (vAt e 5))) tok laws_eqFloat32S_hO mixed (LoopsOk_eq (l := []) (by kernel_rfl) trivial) (laws_eqFloat32S_l0_be v125 v126) rfl (by intro x; (cases x with | inl b => rfl | inr x => exact rfl)) h
noncomputable def laws_eqFloat32S_T (v125 : List Nat) (v126 : List Nat) : Tree (Bool) :=
  (.br (!decide (((v125.length : Nat) : Int) = ((v126.length : Nat) : Int))) (
   .leaf false
  ) (
   (.need (some (laws_eqFloat32S_l0_E v125 v126 (0 : Int)) = some (laws_eqFloat32S_l0_E v125 v126 (0 : Int))) <|
   (.call (laws_eqFloat32S_l0_g v125 v126 (0 : Int)) fun v132 =>
   (.sum v132 (fun v133 =>
    .leaf false
   ) (fun v134 =>
    .leaf true
   ))))
  ))

noncomputable def laws_eqFloat32S_g (v125 : List Nat) (v126 : List Nat) : Option (Bool) := (laws_eqFloat32S_T v125 v126).run
def laws_eqFloat32S_enc (v125 : List Nat) (v126 : List Nat) (y : Bool) : Rs := (.bool y, [])
theorem laws_eqFloat32S_den (v125 : List Nat) (v126 : List Nat) : (den TT (tabD laws_eqFloat32S_tab) (tabM laws_eqFloat32S_tab) (laws_eqFloat32S_LO v125 v126) (codeOf Try.f13) ([.bslc (BR.root 0) (.f32 v125), .bslc (BR.root 1) (.f32 v126)] ++ List.replicate (Try.f13.ntmps - ([.bslc (BR.root 0) (.f32 v125), .bslc (BR.root 1) (.f32 v126)] : List DV).length) .undef) []).bind (retD TT Try.f13.results.toList 0) = (laws_eqFloat32S_T v125 v126).bind fun y => .leaf (laws_eqFloat32S_enc v125 v126 y) := by kernel_rfl
theorem laws_eqFloat32S_fn (v125 : List Nat) (v126 : List Nat) (F : Fr) (hm : F.ids.length = 0) (h0 : St F [] F.H0) (hA : DVs.Ok F [] [.bslc (BR.root 0) (.f32 v125), .bslc (BR.root 1) (.f32 v126)]) {y : Bool} (hy : laws_eqFloat32S_g v125 v126 = some y) : ∃ H', FnOk Try.prog 13 (DVs.av F [.bslc (BR.root 0) (.f32 v125), .bslc (BR.root 1) (.f32 v126)]) F.H0 ((laws_eqFloat32S_enc v125 v126 y).1.av F) H' ∧ St F (laws_eqFloat32S_enc v125 v126 y).2 H' ∧ (laws_eqFloat32S_enc v125 v126 y).1.Ok F (laws_eqFloat32S_enc v125 v126 y).2 :=
  fn_fin tok laws_eqFloat32S_hO mixed Try.func13 Try.call13 (by kernel_rfl) (LoopsOk_eq (l := [(0, bodyOf Try.f13 0)]) (by kernel_rfl) ⟨laws_eqFloat32S_l0_ok v125 v126, trivial⟩) (laws_eqFloat32S_den v125 v126) hy hm h0 hA
noncomputable def laws_eqFloat32S_F : DFn := fun args L =>
  match args with
  | [a1, a2] =>
    optT (rowF32 L a1) fun v125 =>
    optT (rowF32 L a2) fun v126 =>
    .call (laws_eqFloat32S_g v125 v126) fun y => .leaf (.bool y, L)
  | _ => .fail
theorem laws_eqFloat32S_Fok : COk Try.prog 13 laws_eqFloat32S_F true := by
  intro F L H args r L' hs ha hr
  unfold laws_eqFloat32S_F at hr
  split at hr
  · rename_i a1 a2
    obtain ⟨v125, hv125, hr⟩ := optT_run hr
    obtain ⟨v126, hv126, hr⟩ := optT_run hr
    simp only [Tree.run] at hr
    obtain ⟨y, hy, hr⟩ := Option.bind_eq_some_iff.1 hr
    simp only [Tree.run, Option.some.injEq, Prod.mk.injEq] at hr
    obtain ⟨rfl, rfl⟩ := hr
    exact call_ok0 hs (fun k => (([a1.av F, a2.av F] : List AV)[k]?).getD .top) [a1, a2] [.bslc (BR.root 0) (.f32 v125), .bslc (BR.root 1) (.f32 v126)] (fun F' h0 hi hρ => ⟨by simp [DVs.av, DV.av, BR.av, hρ], laws_eqFloat32S_fn v125 v126 F' (by rw [hi]; rfl) (st_nil hi) ⟨bslc_ok hi (by rw [h0, hρ]; exact rowF32_ok hs (DVs.okAt ha 0 rfl) hv125), bslc_ok hi (by rw [h0, hρ]; exact rowF32_ok hs (DVs.okAt ha 1 rfl) hv126), trivial⟩ hy⟩) rfl
  · cases hr
/-! laws.eqMatrix -/
noncomputable def laws_eqMatrix_LO (v119 : Int) (v120 : Int) (v121 : List Nat) (v122 : Int) (v123 : Int) (v124 : List Nat) : LOr := fun id e L =>
  match id with
  | _ => .fail
noncomputable def laws_eqMatrix_tab : List (FuncId × DFn × Bool) := [(13, laws_eqFloat32S_F, true)]
theorem laws_eqMatrix_hO : OrcOk Try.prog (tabD laws_eqMatrix_tab) (tabM laws_eqMatrix_tab) := tabD_cons laws_eqFloat32S_Fok (tabD_nil _)
noncomputable def laws_eqMatrix_T (v119 : Int) (v120 : Int) (v121 : List Nat) (v122 : Int) (v123 : Int) (v124 : List Nat) : Tree (Bool) :=
  (.br (!decide (v119 = v122)) (
   .leaf false
  ) (
   (.br (!decide (v120 = v123)) (
    .leaf false
   ) (
    (.call (laws_eqFloat32S_g v121 v124) fun v135 =>
    (.br (!v135) (
     .leaf false
    ) (
     .leaf true
    )))
   ))
  ))

noncomputable def laws_eqMatrix_g (v119 : Int) (v120 : Int) (v121 : List Nat) (v122 : Int) (v123 : Int) (v124 : List Nat) : Option (Bool) := (laws_eqMatrix_T v119 v120 v121 v122 v123 v124).run
def laws_eqMatrix_enc (v119 : Int) (v120 : Int) (v121 : List Nat) (v122 : Int) (v123 : Int) (v124 : List Nat) (y : Bool) : Rs := (.bool y, [])
theorem laws_eqMatrix_den (v119 : Int) (v120 : Int) (v121 : List Nat) (v122 : Int) (v123 : Int) (v124 : List Nat) : (den TT (tabD laws_eqMatrix_tab) (tabM laws_eqMatrix_tab) (laws_eqMatrix_LO v119 v120 v121 v122 v123 v124) (codeOf Try.f30) ([.agg [.int .i64 v119, .int .i64 v120, .bslc (BR.root 0) (.f32 v121)], .agg [.int .i64 v122, .int .i64 v123, .bslc (BR.root 1) (.f32 v124)]] ++ List.replicate (Try.f30.ntmps - ([.agg [.int .i64 v119, .int .i64 v120, .bslc (BR.root 0) (.f32 v121)], .agg [.int .i64 v122, .int .i64 v123, .bslc (BR.root 1) (.f32 v124)]] : List DV).length) .undef) []).bind (retD TT Try.f30.results.toList 0) = (laws_eqMatrix_T v119 v120 v121 v122 v123 v124).bind fun y => .leaf (laws_eqMatrix_enc v119 v120 v121 v122 v123 v124 y) := by kernel_rfl
theorem laws_eqMatrix_fn (v119 : Int) (v120 : Int) (v121 : List Nat) (v122 : Int) (v123 : Int) (v124 : List Nat) (F : Fr) (hm : F.ids.length = 0) (h0 : St F [] F.H0) (hA : DVs.Ok F [] [.agg [.int .i64 v119, .int .i64 v120, .bslc (BR.root 0) (.f32 v121)], .agg [.int .i64 v122, .int .i64 v123, .bslc (BR.root 1) (.f32 v124)]]) {y : Bool} (hy : laws_eqMatrix_g v119 v120 v121 v122 v123 v124 = some y) : ∃ H', FnOk Try.prog 30 (DVs.av F [.agg [.int .i64 v119, .int .i64 v120, .bslc (BR.root 0) (.f32 v121)], .agg [.int .i64 v122, .int .i64 v123, .bslc (BR.root 1) (.f32 v124)]]) F.H0 ((laws_eqMatrix_enc v119 v120 v121 v122 v123 v124 y).1.av F) H' ∧ St F (laws_eqMatrix_enc v119 v120 v121 v122 v123 v124 y).2 H' ∧ (laws_eqMatrix_enc v119 v120 v121 v122 v123 v124 y).1.Ok F (laws_eqMatrix_enc v119 v120 v121 v122 v123 v124 y).2 :=
  fn_fin tok laws_eqMatrix_hO mixed Try.func30 Try.call30 (by kernel_rfl) (LoopsOk_eq (l := []) (by kernel_rfl) trivial) (laws_eqMatrix_den v119 v120 v121 v122 v123 v124) hy hm h0 hA
noncomputable def laws_eqMatrix_F : DFn := fun args L =>
  match args with
  | [.agg [.int .i64 v119, .int .i64 v120, a1], .agg [.int .i64 v122, .int .i64 v123, a2]] =>
    optT (rowF32 L a1) fun v121 =>
    optT (rowF32 L a2) fun v124 =>
    .call (laws_eqMatrix_g v119 v120 v121 v122 v123 v124) fun y => .leaf (.bool y, L)
  | _ => .fail
theorem laws_eqMatrix_Fok : COk Try.prog 30 laws_eqMatrix_F true := by
  intro F L H args r L' hs ha hr
  unfold laws_eqMatrix_F at hr
  split at hr
  · rename_i v119 v120 a1 v122 v123 a2
    obtain ⟨v121, hv121, hr⟩ := optT_run hr
    obtain ⟨v124, hv124, hr⟩ := optT_run hr
    simp only [Tree.run] at hr
    obtain ⟨y, hy, hr⟩ := Option.bind_eq_some_iff.1 hr
    simp only [Tree.run, Option.some.injEq, Prod.mk.injEq] at hr
    obtain ⟨rfl, rfl⟩ := hr
    exact call_ok0 hs (fun k => (([a1.av F, a2.av F] : List AV)[k]?).getD .top) [.agg [.int .i64 v119, .int .i64 v120, a1], .agg [.int .i64 v122, .int .i64 v123, a2]] [.agg [.int .i64 v119, .int .i64 v120, .bslc (BR.root 0) (.f32 v121)], .agg [.int .i64 v122, .int .i64 v123, .bslc (BR.root 1) (.f32 v124)]] (fun F' h0 hi hρ => ⟨by simp [DVs.av, DV.av, BR.av, hρ], laws_eqMatrix_fn v119 v120 v121 v122 v123 v124 F' (by rw [hi]; rfl) (st_nil hi) ⟨⟨trivial, trivial, bslc_ok hi (by rw [h0, hρ]; exact rowF32_ok hs (DVs.okAt (DVs.okAt ha 0 rfl) 2 rfl) hv121), trivial⟩, ⟨trivial, trivial, bslc_ok hi (by rw [h0, hρ]; exact rowF32_ok hs (DVs.okAt (DVs.okAt ha 1 rfl) 2 rfl) hv124), trivial⟩, trivial⟩ hy⟩) rfl
  · cases hr
/-! laws.eqSheet -/
noncomputable def laws_eqSheet_LO (v111 : ByteArray) (v112 : Int) (v113 : Int) (v114 : List Nat) (v115 : ByteArray) (v116 : Int) (v117 : Int) (v118 : List Nat) : LOr := fun id e L =>
  match id with
  | _ => .fail
noncomputable def laws_eqSheet_tab : List (FuncId × DFn × Bool) := [(30, laws_eqMatrix_F, true)]
theorem laws_eqSheet_hO : OrcOk Try.prog (tabD laws_eqSheet_tab) (tabM laws_eqSheet_tab) := tabD_cons laws_eqMatrix_Fok (tabD_nil _)
noncomputable def laws_eqSheet_T (v111 : ByteArray) (v112 : Int) (v113 : Int) (v114 : List Nat) (v115 : ByteArray) (v116 : Int) (v117 : Int) (v118 : List Nat) : Tree (Bool) :=
  (.br (!(v111.toList == v115.toList)) (
   .leaf false
  ) (
   (.call (laws_eqMatrix_g v112 v113 v114 v116 v117 v118) fun v136 =>
   (.br (!v136) (
    .leaf false
   ) (
    .leaf true
   )))
  ))

noncomputable def laws_eqSheet_g (v111 : ByteArray) (v112 : Int) (v113 : Int) (v114 : List Nat) (v115 : ByteArray) (v116 : Int) (v117 : Int) (v118 : List Nat) : Option (Bool) := (laws_eqSheet_T v111 v112 v113 v114 v115 v116 v117 v118).run
def laws_eqSheet_enc (v111 : ByteArray) (v112 : Int) (v113 : Int) (v114 : List Nat) (v115 : ByteArray) (v116 : Int) (v117 : Int) (v118 : List Nat) (y : Bool) : Rs := (.bool y, [])
theorem laws_eqSheet_den (v111 : ByteArray) (v112 : Int) (v113 : Int) (v114 : List Nat) (v115 : ByteArray) (v116 : Int) (v117 : Int) (v118 : List Nat) : (den TT (tabD laws_eqSheet_tab) (tabM laws_eqSheet_tab) (laws_eqSheet_LO v111 v112 v113 v114 v115 v116 v117 v118) (codeOf Try.f27) ([.agg [.str v111, .int .i64 v112, .int .i64 v113, .bslc (BR.root 0) (.f32 v114)], .agg [.str v115, .int .i64 v116, .int .i64 v117, .bslc (BR.root 1) (.f32 v118)]] ++ List.replicate (Try.f27.ntmps - ([.agg [.str v111, .int .i64 v112, .int .i64 v113, .bslc (BR.root 0) (.f32 v114)], .agg [.str v115, .int .i64 v116, .int .i64 v117, .bslc (BR.root 1) (.f32 v118)]] : List DV).length) .undef) []).bind (retD TT Try.f27.results.toList 0) = (laws_eqSheet_T v111 v112 v113 v114 v115 v116 v117 v118).bind fun y => .leaf (laws_eqSheet_enc v111 v112 v113 v114 v115 v116 v117 v118 y) := by kernel_rfl
theorem laws_eqSheet_fn (v111 : ByteArray) (v112 : Int) (v113 : Int) (v114 : List Nat) (v115 : ByteArray) (v116 : Int) (v117 : Int) (v118 : List Nat) (F : Fr) (hm : F.ids.length = 0) (h0 : St F [] F.H0) (hA : DVs.Ok F [] [.agg [.str v111, .int .i64 v112, .int .i64 v113, .bslc (BR.root 0) (.f32 v114)], .agg [.str v115, .int .i64 v116, .int .i64 v117, .bslc (BR.root 1) (.f32 v118)]]) {y : Bool} (hy : laws_eqSheet_g v111 v112 v113 v114 v115 v116 v117 v118 = some y) : ∃ H', FnOk Try.prog 27 (DVs.av F [.agg [.str v111, .int .i64 v112, .int .i64 v113, .bslc (BR.root 0) (.f32 v114)], .agg [.str v115, .int .i64 v116, .int .i64 v117, .bslc (BR.root 1) (.f32 v118)]]) F.H0 ((laws_eqSheet_enc v111 v112 v113 v114 v115 v116 v117 v118 y).1.av F) H' ∧ St F (laws_eqSheet_enc v111 v112 v113 v114 v115 v116 v117 v118 y).2 H' ∧ (laws_eqSheet_enc v111 v112 v113 v114 v115 v116 v117 v118 y).1.Ok F (laws_eqSheet_enc v111 v112 v113 v114 v115 v116 v117 v118 y).2 :=
  fn_fin tok laws_eqSheet_hO mixed Try.func27 Try.call27 (by kernel_rfl) (LoopsOk_eq (l := []) (by kernel_rfl) trivial) (laws_eqSheet_den v111 v112 v113 v114 v115 v116 v117 v118) hy hm h0 hA
noncomputable def laws_eqSheet_F : DFn := fun args L =>
  match args with
  | [.agg [.str v111, .int .i64 v112, .int .i64 v113, a1], .agg [.str v115, .int .i64 v116, .int .i64 v117, a2]] =>
    optT (rowF32 L a1) fun v114 =>
    optT (rowF32 L a2) fun v118 =>
    .call (laws_eqSheet_g v111 v112 v113 v114 v115 v116 v117 v118) fun y => .leaf (.bool y, L)
  | _ => .fail
theorem laws_eqSheet_Fok : COk Try.prog 27 laws_eqSheet_F true := by
  intro F L H args r L' hs ha hr
  unfold laws_eqSheet_F at hr
  split at hr
  · rename_i v111 v112 v113 a1 v115 v116 v117 a2
    obtain ⟨v114, hv114, hr⟩ := optT_run hr
    obtain ⟨v118, hv118, hr⟩ := optT_run hr
    simp only [Tree.run] at hr
    obtain ⟨y, hy, hr⟩ := Option.bind_eq_some_iff.1 hr
    simp only [Tree.run, Option.some.injEq, Prod.mk.injEq] at hr
    obtain ⟨rfl, rfl⟩ := hr
    exact call_ok0 hs (fun k => (([a1.av F, a2.av F] : List AV)[k]?).getD .top) [.agg [.str v111, .int .i64 v112, .int .i64 v113, a1], .agg [.str v115, .int .i64 v116, .int .i64 v117, a2]] [.agg [.str v111, .int .i64 v112, .int .i64 v113, .bslc (BR.root 0) (.f32 v114)], .agg [.str v115, .int .i64 v116, .int .i64 v117, .bslc (BR.root 1) (.f32 v118)]] (fun F' h0 hi hρ => ⟨by simp [DVs.av, DV.av, BR.av, hρ], laws_eqSheet_fn v111 v112 v113 v114 v115 v116 v117 v118 F' (by rw [hi]; rfl) (st_nil hi) ⟨⟨trivial, trivial, trivial, bslc_ok hi (by rw [h0, hρ]; exact rowF32_ok hs (DVs.okAt (DVs.okAt ha 0 rfl) 3 rfl) hv114), trivial⟩, ⟨trivial, trivial, trivial, bslc_ok hi (by rw [h0, hρ]; exact rowF32_ok hs (DVs.okAt (DVs.okAt ha 1 rfl) 3 rfl) hv118), trivial⟩, trivial⟩ hy⟩) rfl
  · cases hr
/-! laws.FnExactValidSheet -/
noncomputable def laws_FnExactValidSheet_LO (v1 : ByteArray) (v2 : Int) (v3 : Int) (v4 : List Nat) : LOr := fun id e L =>
  match id with
  | _ => .fail
noncomputable def laws_FnExactValidSheet_tab : List (FuncId × DFn × Bool) := [(23, laws_szSheet_F, true), (25, laws_toSheet_F, true), (24, spec_ValidSheet_F, true), (26, impl_ValidSheet_F, true), (27, laws_eqSheet_F, true)]
theorem laws_FnExactValidSheet_hO : OrcOk Try.prog (tabD laws_FnExactValidSheet_tab) (tabM laws_FnExactValidSheet_tab) := tabD_cons laws_szSheet_Fok (tabD_cons laws_toSheet_Fok (tabD_cons spec_ValidSheet_Fok (tabD_cons impl_ValidSheet_Fok (tabD_cons laws_eqSheet_Fok (tabD_nil _)))))
noncomputable def laws_FnExactValidSheet_T (v1 : ByteArray) (v2 : Int) (v3 : Int) (v4 : List Nat) : Tree (Bool) :=
  (.br (decide ((laws_szSheet_v v1 v4 (1048576 : Int)) < (0 : Int))) (
   .leaf true
  ) (
   (.call (laws_toSheet_g v1 v2 v3 v4) fun v32 =>
   (.call (spec_ValidSheet_g v32.1 v32.2.1 v32.2.2.1 v32.2.2.2) fun v68 =>
   (.call (laws_toSheet_g v1 v2 v3 v4) fun v69 =>
   (.call (impl_ValidSheet_g v69.1 v69.2.1 v69.2.2.1 v69.2.2.2) fun v109 =>
   (.br (!(v109 == v68)) (
    .leaf false
   ) (
    (.call (laws_toSheet_g v1 v2 v3 v4) fun v110 =>
    (.call (laws_eqSheet_g v69.1 v69.2.1 v69.2.2.1 v69.2.2.2 v110.1 v110.2.1 v110.2.2.1 v110.2.2.2) fun v137 =>
    (.br (!v137) (
     .leaf false
    ) (
     .leaf true
    ))))
   ))))))
  ))

noncomputable def laws_FnExactValidSheet_g (v1 : ByteArray) (v2 : Int) (v3 : Int) (v4 : List Nat) : Option (Bool) := (laws_FnExactValidSheet_T v1 v2 v3 v4).run
def laws_FnExactValidSheet_enc (v1 : ByteArray) (v2 : Int) (v3 : Int) (v4 : List Nat) (y : Bool) : Rs := (.bool y, [])
theorem laws_FnExactValidSheet_den (v1 : ByteArray) (v2 : Int) (v3 : Int) (v4 : List Nat) : (den TT (tabD laws_FnExactValidSheet_tab) (tabM laws_FnExactValidSheet_tab) (laws_FnExactValidSheet_LO v1 v2 v3 v4) (codeOf Try.f6) ([.agg [.str v1, .int .i64 v2, .int .i64 v3, .bslc (BR.root 0) (.f32 v4)]] ++ List.replicate (Try.f6.ntmps - ([.agg [.str v1, .int .i64 v2, .int .i64 v3, .bslc (BR.root 0) (.f32 v4)]] : List DV).length) .undef) []).bind (retD TT Try.f6.results.toList 0) = (laws_FnExactValidSheet_T v1 v2 v3 v4).bind fun y => .leaf (laws_FnExactValidSheet_enc v1 v2 v3 v4 y) := by kernel_rfl
theorem laws_FnExactValidSheet_fn (v1 : ByteArray) (v2 : Int) (v3 : Int) (v4 : List Nat) (F : Fr) (hm : F.ids.length = 0) (h0 : St F [] F.H0) (hA : DVs.Ok F [] [.agg [.str v1, .int .i64 v2, .int .i64 v3, .bslc (BR.root 0) (.f32 v4)]]) {y : Bool} (hy : laws_FnExactValidSheet_g v1 v2 v3 v4 = some y) : ∃ H', FnOk Try.prog 6 (DVs.av F [.agg [.str v1, .int .i64 v2, .int .i64 v3, .bslc (BR.root 0) (.f32 v4)]]) F.H0 ((laws_FnExactValidSheet_enc v1 v2 v3 v4 y).1.av F) H' ∧ St F (laws_FnExactValidSheet_enc v1 v2 v3 v4 y).2 H' ∧ (laws_FnExactValidSheet_enc v1 v2 v3 v4 y).1.Ok F (laws_FnExactValidSheet_enc v1 v2 v3 v4 y).2 :=
  fn_fin tok laws_FnExactValidSheet_hO mixed Try.func6 Try.call6 (by kernel_rfl) (LoopsOk_eq (l := []) (by kernel_rfl) trivial) (laws_FnExactValidSheet_den v1 v2 v3 v4) hy hm h0 hA
noncomputable def laws_FnExactValidSheet_F : DFn := fun args L =>
  match args with
  | [.agg [.str v1, .int .i64 v2, .int .i64 v3, a1]] =>
    optT (rowF32 L a1) fun v4 =>
    .call (laws_FnExactValidSheet_g v1 v2 v3 v4) fun y => .leaf (.bool y, L)
  | _ => .fail
theorem laws_FnExactValidSheet_Fok : COk Try.prog 6 laws_FnExactValidSheet_F true := by
  intro F L H args r L' hs ha hr
  unfold laws_FnExactValidSheet_F at hr
  split at hr
  · rename_i v1 v2 v3 a1
    obtain ⟨v4, hv4, hr⟩ := optT_run hr
    simp only [Tree.run] at hr
    obtain ⟨y, hy, hr⟩ := Option.bind_eq_some_iff.1 hr
    simp only [Tree.run, Option.some.injEq, Prod.mk.injEq] at hr
    obtain ⟨rfl, rfl⟩ := hr
    exact call_ok0 hs (fun k => (([a1.av F] : List AV)[k]?).getD .top) [.agg [.str v1, .int .i64 v2, .int .i64 v3, a1]] [.agg [.str v1, .int .i64 v2, .int .i64 v3, .bslc (BR.root 0) (.f32 v4)]] (fun F' h0 hi hρ => ⟨by simp [DVs.av, DV.av, BR.av, hρ], laws_FnExactValidSheet_fn v1 v2 v3 v4 F' (by rw [hi]; rfl) (st_nil hi) ⟨⟨trivial, trivial, trivial, bslc_ok hi (by rw [h0, hρ]; exact rowF32_ok hs (DVs.okAt (DVs.okAt ha 0 rfl) 3 rfl) hv4), trivial⟩, trivial⟩ hy⟩) rfl
  · cases hr
/-! laws.szFloat32S -/
noncomputable def laws_szFloat32S_len_LO (v151 : Nat) (v152 : Int) : LOr := fun id e L =>
  match id with
  | _ => .fail
noncomputable def laws_szFloat32S_len_tab : List (FuncId × DFn × Bool) := []
theorem laws_szFloat32S_len_hO : OrcOk Try.prog (tabD laws_szFloat32S_len_tab) (tabM laws_szFloat32S_len_tab) := tabD_nil _
noncomputable def laws_szFloat32S_len_T (v151 : Nat) (v152 : Int) : Tree (Int) :=
  (.br (decide (IntKind.i64.wrap (v152 - ((v151 : Nat) : Int)) < (0 : Int))) (
   .leaf (-1 : Int)
  ) (
   .leaf (IntKind.i64.wrap (v152 - ((v151 : Nat) : Int)))
  ))

noncomputable def laws_szFloat32S_len_g (v151 : Nat) (v152 : Int) : Option (Int) := (laws_szFloat32S_len_T v151 v152).run
def laws_szFloat32S_len_enc (v151 : Nat) (v152 : Int) (y : Int) : Rs := (.int .i64 y, [])
theorem laws_szFloat32S_len_den (v151 : Nat) (v152 : Int) : (den TT (tabD laws_szFloat32S_len_tab) (tabM laws_szFloat32S_len_tab) (laws_szFloat32S_len_LO v151 v152) (codeOf Try.f42) ([.hslc (BR.root 0) v151, .int .i64 v152] ++ List.replicate (Try.f42.ntmps - ([.hslc (BR.root 0) v151, .int .i64 v152] : List DV).length) .undef) []).bind (retD TT Try.f42.results.toList 0) = (laws_szFloat32S_len_T v151 v152).bind fun y => .leaf (laws_szFloat32S_len_enc v151 v152 y) := by kernel_rfl
theorem laws_szFloat32S_len_fn (v151 : Nat) (v152 : Int) (F : Fr) (hm : F.ids.length = 0) (h0 : St F [] F.H0) (hA : DVs.Ok F [] [.hslc (BR.root 0) v151, .int .i64 v152]) {y : Int} (hy : laws_szFloat32S_len_g v151 v152 = some y) : ∃ H', FnOk Try.prog 42 (DVs.av F [.hslc (BR.root 0) v151, .int .i64 v152]) F.H0 ((laws_szFloat32S_len_enc v151 v152 y).1.av F) H' ∧ St F (laws_szFloat32S_len_enc v151 v152 y).2 H' ∧ (laws_szFloat32S_len_enc v151 v152 y).1.Ok F (laws_szFloat32S_len_enc v151 v152 y).2 :=
  fn_fin tok laws_szFloat32S_len_hO mixed Try.func42 Try.call42 (by kernel_rfl) (LoopsOk_eq (l := []) (by kernel_rfl) trivial) (laws_szFloat32S_len_den v151 v152) hy hm h0 hA
def laws_szFloat32S_len_v (v151 : Nat) (v152 : Int) : Int :=
  if (decide (IntKind.i64.wrap (v152 - ((v151 : Nat) : Int)) < (0 : Int))) = true then (
   (-1 : Int)
  ) else (
   IntKind.i64.wrap (v152 - ((v151 : Nat) : Int))
  )
theorem laws_szFloat32S_len_tot (v151 : Nat) (v152 : Int) : laws_szFloat32S_len_g v151 v152 = some (laws_szFloat32S_len_v v151 v152) := by
  unfold laws_szFloat32S_len_g laws_szFloat32S_len_T laws_szFloat32S_len_v
  simp only [Tree.run]
  repeat' (first | rfl | split)
noncomputable def laws_szFloat32S_len_F : DFn := fun args L =>
  match args with
  | [a1, .int .i64 v152] =>
    optT (lenV L a1) fun v151 =>
    .leaf (.int .i64 (laws_szFloat32S_len_v v151 v152), L)
  | _ => .fail
theorem laws_szFloat32S_len_Fok : COk Try.prog 42 laws_szFloat32S_len_F true := by
  intro F L H args r L' hs ha hr
  unfold laws_szFloat32S_len_F at hr
  split at hr
  · rename_i a1 v152
    obtain ⟨v151, hv151, hr⟩ := optT_run hr
    have hy := laws_szFloat32S_len_tot v151 v152
    generalize laws_szFloat32S_len_v v151 v152 = y at hy hr
    simp only [Tree.run, Option.some.injEq, Prod.mk.injEq] at hr
    obtain ⟨rfl, rfl⟩ := hr
    exact call_ok0 hs (fun k => (([a1.av F] : List AV)[k]?).getD .top) [a1, .int .i64 v152] [.hslc (BR.root 0) v151, .int .i64 v152] (fun F' h0 hi hρ => ⟨by simp [DVs.av, DV.av, BR.av, hρ], laws_szFloat32S_len_fn v151 v152 F' (by rw [hi]; rfl) (st_nil hi) ⟨hslc_ok hi (by rw [h0, hρ]; exact lenV_ok hs (DVs.okAt ha 0 rfl) hv151), trivial, trivial⟩ hy⟩) rfl
  · cases hr
/-! laws.szMatrix -/
noncomputable def laws_szMatrix_len_LO (v147 : Int) (v148 : Int) (v149 : Nat) (v150 : Int) : LOr := fun id e L =>
  match id with
  | _ => .fail
noncomputable def laws_szMatrix_len_tab : List (FuncId × DFn × Bool) := [(42, laws_szFloat32S_len_F, true)]
theorem laws_szMatrix_len_hO : OrcOk Try.prog (tabD laws_szMatrix_len_tab) (tabM laws_szMatrix_len_tab) := tabD_cons laws_szFloat32S_len_Fok (tabD_nil _)
noncomputable def laws_szMatrix_len_T (v149 : Nat) (v150 : Int) : Tree (Int) :=
  (.br (decide ((laws_szFloat32S_len_v v149 v150) < (0 : Int))) (
   .leaf (-1 : Int)
  ) (
   .leaf (laws_szFloat32S_len_v v149 v150)
  ))

noncomputable def laws_szMatrix_len_g (v149 : Nat) (v150 : Int) : Option (Int) := (laws_szMatrix_len_T v149 v150).run
def laws_szMatrix_len_enc (v147 : Int) (v148 : Int) (v149 : Nat) (v150 : Int) (y : Int) : Rs := (.int .i64 y, [])
theorem laws_szMatrix_len_den (v147 : Int) (v148 : Int) (v149 : Nat) (v150 : Int) : (den TT (tabD laws_szMatrix_len_tab) (tabM laws_szMatrix_len_tab) (laws_szMatrix_len_LO v147 v148 v149 v150) (codeOf Try.f49) ([.agg [.int .i64 v147, .int .i64 v148, .hslc (BR.root 0) v149], .int .i64 v150] ++ List.replicate (Try.f49.ntmps - ([.agg [.int .i64 v147, .int .i64 v148, .hslc (BR.root 0) v149], .int .i64 v150] : List DV).length) .undef) []).bind (retD TT Try.f49.results.toList 0) = (laws_szMatrix_len_T v149 v150).bind fun y => .leaf (laws_szMatrix_len_enc v147 v148 v149 v150 y) := by kernel_rfl
theorem laws_szMatrix_len_fn (v147 : Int) (v148 : Int) (v149 : Nat) (v150 : Int) (F : Fr) (hm : F.ids.length = 0) (h0 : St F [] F.H0) (hA : DVs.Ok F [] [.agg [.int .i64 v147, .int .i64 v148, .hslc (BR.root 0) v149], .int .i64 v150]) {y : Int} (hy : laws_szMatrix_len_g v149 v150 = some y) : ∃ H', FnOk Try.prog 49 (DVs.av F [.agg [.int .i64 v147, .int .i64 v148, .hslc (BR.root 0) v149], .int .i64 v150]) F.H0 ((laws_szMatrix_len_enc v147 v148 v149 v150 y).1.av F) H' ∧ St F (laws_szMatrix_len_enc v147 v148 v149 v150 y).2 H' ∧ (laws_szMatrix_len_enc v147 v148 v149 v150 y).1.Ok F (laws_szMatrix_len_enc v147 v148 v149 v150 y).2 :=
  fn_fin tok laws_szMatrix_len_hO mixed Try.func49 Try.call49 (by kernel_rfl) (LoopsOk_eq (l := []) (by kernel_rfl) trivial) (laws_szMatrix_len_den v147 v148 v149 v150) hy hm h0 hA
def laws_szMatrix_len_v (v149 : Nat) (v150 : Int) : Int :=
  if (decide ((laws_szFloat32S_len_v v149 v150) < (0 : Int))) = true then (
   (-1 : Int)
  ) else (
   (laws_szFloat32S_len_v v149 v150)
  )
theorem laws_szMatrix_len_tot (v149 : Nat) (v150 : Int) : laws_szMatrix_len_g v149 v150 = some (laws_szMatrix_len_v v149 v150) := by
  unfold laws_szMatrix_len_g laws_szMatrix_len_T laws_szMatrix_len_v
  simp only [Tree.run]
  repeat' (first | rfl | split)
noncomputable def laws_szMatrix_len_F : DFn := fun args L =>
  match args with
  | [.agg [.int .i64 v147, .int .i64 v148, a1], .int .i64 v150] =>
    optT (lenV L a1) fun v149 =>
    .leaf (.int .i64 (laws_szMatrix_len_v v149 v150), L)
  | _ => .fail
theorem laws_szMatrix_len_Fok : COk Try.prog 49 laws_szMatrix_len_F true := by
  intro F L H args r L' hs ha hr
  unfold laws_szMatrix_len_F at hr
  split at hr
  · rename_i v147 v148 a1 v150
    obtain ⟨v149, hv149, hr⟩ := optT_run hr
    have hy := laws_szMatrix_len_tot v149 v150
    generalize laws_szMatrix_len_v v149 v150 = y at hy hr
    simp only [Tree.run, Option.some.injEq, Prod.mk.injEq] at hr
    obtain ⟨rfl, rfl⟩ := hr
    exact call_ok0 hs (fun k => (([a1.av F] : List AV)[k]?).getD .top) [.agg [.int .i64 v147, .int .i64 v148, a1], .int .i64 v150] [.agg [.int .i64 v147, .int .i64 v148, .hslc (BR.root 0) v149], .int .i64 v150] (fun F' h0 hi hρ => ⟨by simp [DVs.av, DV.av, BR.av, hρ], laws_szMatrix_len_fn v147 v148 v149 v150 F' (by rw [hi]; rfl) (st_nil hi) ⟨⟨trivial, trivial, hslc_ok hi (by rw [h0, hρ]; exact lenV_ok hs (DVs.okAt (DVs.okAt ha 0 rfl) 2 rfl) hv149), trivial⟩, trivial, trivial⟩ hy⟩) rfl
  · cases hr
/-! laws.szSheet -/
noncomputable def laws_szSheet_len_LO (v142 : ByteArray) (v143 : Int) (v144 : Int) (v145 : Nat) (v146 : Int) : LOr := fun id e L =>
  match id with
  | _ => .fail
noncomputable def laws_szSheet_len_tab : List (FuncId × DFn × Bool) := [(49, laws_szMatrix_len_F, true)]
theorem laws_szSheet_len_hO : OrcOk Try.prog (tabD laws_szSheet_len_tab) (tabM laws_szSheet_len_tab) := tabD_cons laws_szMatrix_len_Fok (tabD_nil _)
noncomputable def laws_szSheet_len_T (v142 : ByteArray) (v145 : Nat) (v146 : Int) : Tree (Int) :=
  (.br (decide (IntKind.i64.wrap (v146 - ((v142.size : Nat) : Int)) < (0 : Int))) (
   .leaf (-1 : Int)
  ) (
   (.br (decide ((laws_szMatrix_len_v v145 (IntKind.i64.wrap (v146 - ((v142.size : Nat) : Int)))) < (0 : Int))) (
    .leaf (-1 : Int)
   ) (
    .leaf (laws_szMatrix_len_v v145 (IntKind.i64.wrap (v146 - ((v142.size : Nat) : Int))))
   ))
  ))

noncomputable def laws_szSheet_len_g (v142 : ByteArray) (v145 : Nat) (v146 : Int) : Option (Int) := (laws_szSheet_len_T v142 v145 v146).run
def laws_szSheet_len_enc (v142 : ByteArray) (v143 : Int) (v144 : Int) (v145 : Nat) (v146 : Int) (y : Int) : Rs := (.int .i64 y, [])
theorem laws_szSheet_len_den (v142 : ByteArray) (v143 : Int) (v144 : Int) (v145 : Nat) (v146 : Int) : (den TT (tabD laws_szSheet_len_tab) (tabM laws_szSheet_len_tab) (laws_szSheet_len_LO v142 v143 v144 v145 v146) (codeOf Try.f23) ([.agg [.str v142, .int .i64 v143, .int .i64 v144, .hslc (BR.root 0) v145], .int .i64 v146] ++ List.replicate (Try.f23.ntmps - ([.agg [.str v142, .int .i64 v143, .int .i64 v144, .hslc (BR.root 0) v145], .int .i64 v146] : List DV).length) .undef) []).bind (retD TT Try.f23.results.toList 0) = (laws_szSheet_len_T v142 v145 v146).bind fun y => .leaf (laws_szSheet_len_enc v142 v143 v144 v145 v146 y) := by kernel_rfl
theorem laws_szSheet_len_fn (v142 : ByteArray) (v143 : Int) (v144 : Int) (v145 : Nat) (v146 : Int) (F : Fr) (hm : F.ids.length = 0) (h0 : St F [] F.H0) (hA : DVs.Ok F [] [.agg [.str v142, .int .i64 v143, .int .i64 v144, .hslc (BR.root 0) v145], .int .i64 v146]) {y : Int} (hy : laws_szSheet_len_g v142 v145 v146 = some y) : ∃ H', FnOk Try.prog 23 (DVs.av F [.agg [.str v142, .int .i64 v143, .int .i64 v144, .hslc (BR.root 0) v145], .int .i64 v146]) F.H0 ((laws_szSheet_len_enc v142 v143 v144 v145 v146 y).1.av F) H' ∧ St F (laws_szSheet_len_enc v142 v143 v144 v145 v146 y).2 H' ∧ (laws_szSheet_len_enc v142 v143 v144 v145 v146 y).1.Ok F (laws_szSheet_len_enc v142 v143 v144 v145 v146 y).2 :=
  fn_fin tok laws_szSheet_len_hO mixed Try.func23 Try.call23 (by kernel_rfl) (LoopsOk_eq (l := []) (by kernel_rfl) trivial) (laws_szSheet_len_den v142 v143 v144 v145 v146) hy hm h0 hA
def laws_szSheet_len_v (v142 : ByteArray) (v145 : Nat) (v146 : Int) : Int :=
  if (decide (IntKind.i64.wrap (v146 - ((v142.size : Nat) : Int)) < (0 : Int))) = true then (
   (-1 : Int)
  ) else (
   if (decide ((laws_szMatrix_len_v v145 (IntKind.i64.wrap (v146 - ((v142.size : Nat) : Int)))) < (0 : Int))) = true then (
    (-1 : Int)
   ) else (
    (laws_szMatrix_len_v v145 (IntKind.i64.wrap (v146 - ((v142.size : Nat) : Int))))
   )
  )
theorem laws_szSheet_len_tot (v142 : ByteArray) (v145 : Nat) (v146 : Int) : laws_szSheet_len_g v142 v145 v146 = some (laws_szSheet_len_v v142 v145 v146) := by
  unfold laws_szSheet_len_g laws_szSheet_len_T laws_szSheet_len_v
  simp only [Tree.run]
  repeat' (first | rfl | split)
noncomputable def laws_szSheet_len_F : DFn := fun args L =>
  match args with
  | [.agg [.str v142, .int .i64 v143, .int .i64 v144, a1], .int .i64 v146] =>
    optT (lenV L a1) fun v145 =>
    .leaf (.int .i64 (laws_szSheet_len_v v142 v145 v146), L)
  | _ => .fail
theorem laws_szSheet_len_Fok : COk Try.prog 23 laws_szSheet_len_F true := by
  intro F L H args r L' hs ha hr
  unfold laws_szSheet_len_F at hr
  split at hr
  · rename_i v142 v143 v144 a1 v146
    obtain ⟨v145, hv145, hr⟩ := optT_run hr
    have hy := laws_szSheet_len_tot v142 v145 v146
    generalize laws_szSheet_len_v v142 v145 v146 = y at hy hr
    simp only [Tree.run, Option.some.injEq, Prod.mk.injEq] at hr
    obtain ⟨rfl, rfl⟩ := hr
    exact call_ok0 hs (fun k => (([a1.av F] : List AV)[k]?).getD .top) [.agg [.str v142, .int .i64 v143, .int .i64 v144, a1], .int .i64 v146] [.agg [.str v142, .int .i64 v143, .int .i64 v144, .hslc (BR.root 0) v145], .int .i64 v146] (fun F' h0 hi hρ => ⟨by simp [DVs.av, DV.av, BR.av, hρ], laws_szSheet_len_fn v142 v143 v144 v145 v146 F' (by rw [hi]; rfl) (st_nil hi) ⟨⟨trivial, trivial, trivial, hslc_ok hi (by rw [h0, hρ]; exact lenV_ok hs (DVs.okAt (DVs.okAt ha 0 rfl) 3 rfl) hv145), trivial⟩, trivial, trivial⟩ hy⟩) rfl
  · cases hr
/-! laws.FnExactValidSheet -/
noncomputable def laws_FnExactValidSheet_len_LO (v138 : ByteArray) (v139 : Int) (v140 : Int) (v141 : Nat) : LOr := fun id e L =>
  match id with
  | _ => .fail
noncomputable def laws_FnExactValidSheet_len_tab : List (FuncId × DFn × Bool) := [(23, laws_szSheet_len_F, true)]
theorem laws_FnExactValidSheet_len_hO : OrcOk Try.prog (tabD laws_FnExactValidSheet_len_tab) (tabM laws_FnExactValidSheet_len_tab) := tabD_cons laws_szSheet_len_Fok (tabD_nil _)
noncomputable def laws_FnExactValidSheet_len_T (v138 : ByteArray) (v141 : Nat) : Tree (Bool) :=
  (.br (decide ((laws_szSheet_len_v v138 v141 (1048576 : Int)) < (0 : Int))) (
   .leaf true
  ) (
   .fail
  ))

noncomputable def laws_FnExactValidSheet_len_g (v138 : ByteArray) (v141 : Nat) : Option (Bool) := (laws_FnExactValidSheet_len_T v138 v141).run
def laws_FnExactValidSheet_len_enc (v138 : ByteArray) (v139 : Int) (v140 : Int) (v141 : Nat) (y : Bool) : Rs := (.bool y, [])
theorem laws_FnExactValidSheet_len_den (v138 : ByteArray) (v139 : Int) (v140 : Int) (v141 : Nat) : (den TT (tabD laws_FnExactValidSheet_len_tab) (tabM laws_FnExactValidSheet_len_tab) (laws_FnExactValidSheet_len_LO v138 v139 v140 v141) (codeOf Try.f6) ([.agg [.str v138, .int .i64 v139, .int .i64 v140, .hslc (BR.root 0) v141]] ++ List.replicate (Try.f6.ntmps - ([.agg [.str v138, .int .i64 v139, .int .i64 v140, .hslc (BR.root 0) v141]] : List DV).length) .undef) []).bind (retD TT Try.f6.results.toList 0) = (laws_FnExactValidSheet_len_T v138 v141).bind fun y => .leaf (laws_FnExactValidSheet_len_enc v138 v139 v140 v141 y) := by kernel_rfl
theorem laws_FnExactValidSheet_len_fn (v138 : ByteArray) (v139 : Int) (v140 : Int) (v141 : Nat) (F : Fr) (hm : F.ids.length = 0) (h0 : St F [] F.H0) (hA : DVs.Ok F [] [.agg [.str v138, .int .i64 v139, .int .i64 v140, .hslc (BR.root 0) v141]]) {y : Bool} (hy : laws_FnExactValidSheet_len_g v138 v141 = some y) : ∃ H', FnOk Try.prog 6 (DVs.av F [.agg [.str v138, .int .i64 v139, .int .i64 v140, .hslc (BR.root 0) v141]]) F.H0 ((laws_FnExactValidSheet_len_enc v138 v139 v140 v141 y).1.av F) H' ∧ St F (laws_FnExactValidSheet_len_enc v138 v139 v140 v141 y).2 H' ∧ (laws_FnExactValidSheet_len_enc v138 v139 v140 v141 y).1.Ok F (laws_FnExactValidSheet_len_enc v138 v139 v140 v141 y).2 :=
  fn_fin tok laws_FnExactValidSheet_len_hO mixed Try.func6 Try.call6 (by kernel_rfl) (LoopsOk_eq (l := []) (by kernel_rfl) trivial) (laws_FnExactValidSheet_len_den v138 v139 v140 v141) hy hm h0 hA
noncomputable def laws_FnExactValidSheet_len_F : DFn := fun args L =>
  match args with
  | [.agg [.str v138, .int .i64 v139, .int .i64 v140, a1]] =>
    optT (lenV L a1) fun v141 =>
    .call (laws_FnExactValidSheet_len_g v138 v141) fun y => .leaf (.bool y, L)
  | _ => .fail
theorem laws_FnExactValidSheet_len_Fok : COk Try.prog 6 laws_FnExactValidSheet_len_F true := by
  intro F L H args r L' hs ha hr
  unfold laws_FnExactValidSheet_len_F at hr
  split at hr
  · rename_i v138 v139 v140 a1
    obtain ⟨v141, hv141, hr⟩ := optT_run hr
    simp only [Tree.run] at hr
    obtain ⟨y, hy, hr⟩ := Option.bind_eq_some_iff.1 hr
    simp only [Tree.run, Option.some.injEq, Prod.mk.injEq] at hr
    obtain ⟨rfl, rfl⟩ := hr
    exact call_ok0 hs (fun k => (([a1.av F] : List AV)[k]?).getD .top) [.agg [.str v138, .int .i64 v139, .int .i64 v140, a1]] [.agg [.str v138, .int .i64 v139, .int .i64 v140, .hslc (BR.root 0) v141]] (fun F' h0 hi hρ => ⟨by simp [DVs.av, DV.av, BR.av, hρ], laws_FnExactValidSheet_len_fn v138 v139 v140 v141 F' (by rw [hi]; rfl) (st_nil hi) ⟨⟨trivial, trivial, trivial, hslc_ok hi (by rw [h0, hρ]; exact lenV_ok hs (DVs.okAt (DVs.okAt ha 0 rfl) 3 rfl) hv141), trivial⟩, trivial⟩ hy⟩) rfl
  · cases hr
end Go.Proofs.Ytbhmllcnfdndhaa.AM
