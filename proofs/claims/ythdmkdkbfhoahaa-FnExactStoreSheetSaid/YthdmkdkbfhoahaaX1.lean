/- Functions: what they come to. -/
import Derived.Test.YthdmkdkbfhoahaaBase
set_option maxRecDepth 100000
set_option maxHeartbeats 4000000
set_option linter.unusedSimpArgs false
set_option linter.unusedVariables false
namespace Go.Proofs.Ythdmkdkbfhoahaa.AM
open Go.Proofs
/-! laws.szFloat32S -/
noncomputable def laws_szFloat32S_LO (v14 : List Nat) (v15 : Int) : LOr := fun id e L =>
  match id with
  | _ => .fail
noncomputable def laws_szFloat32S_tab : List (FuncId × DFn × Bool) := []
theorem laws_szFloat32S_hO : OrcOk Try.prog (tabD laws_szFloat32S_tab) (tabM laws_szFloat32S_tab) := tabD_nil _
noncomputable def laws_szFloat32S_T (v14 : List Nat) (v15 : Int) : Tree (Int) :=
  (.br (decide (IntKind.i64.wrap (v15 - ((v14.length : Nat) : Int)) < (0 : Int))) (
   .leaf (-1 : Int)
  ) (
   .leaf (IntKind.i64.wrap (v15 - ((v14.length : Nat) : Int)))
  ))

noncomputable def laws_szFloat32S_g (v14 : List Nat) (v15 : Int) : Option (Int) := (laws_szFloat32S_T v14 v15).run
def laws_szFloat32S_enc (v14 : List Nat) (v15 : Int) (y : Int) : Rs := (.int .i64 y, [])
theorem laws_szFloat32S_den (v14 : List Nat) (v15 : Int) : (den TT (tabD laws_szFloat32S_tab) (tabM laws_szFloat32S_tab) (laws_szFloat32S_LO v14 v15) (codeOf Try.f59) ([.bslc (BR.root 0) (.f32 v14), .int .i64 v15] ++ List.replicate (Try.f59.ntmps - ([.bslc (BR.root 0) (.f32 v14), .int .i64 v15] : List DV).length) .undef) []).bind (retD TT Try.f59.results.toList 0) = (laws_szFloat32S_T v14 v15).bind fun y => .leaf (laws_szFloat32S_enc v14 v15 y) := by kernel_rfl
theorem laws_szFloat32S_fn (v14 : List Nat) (v15 : Int) (F : Fr) (hm : F.ids.length = 0) (h0 : St F [] F.H0) (hA : DVs.Ok F [] [.bslc (BR.root 0) (.f32 v14), .int .i64 v15]) {y : Int} (hy : laws_szFloat32S_g v14 v15 = some y) : ∃ H', FnOk Try.prog 59 (DVs.av F [.bslc (BR.root 0) (.f32 v14), .int .i64 v15]) F.H0 ((laws_szFloat32S_enc v14 v15 y).1.av F) H' ∧ St F (laws_szFloat32S_enc v14 v15 y).2 H' ∧ (laws_szFloat32S_enc v14 v15 y).1.Ok F (laws_szFloat32S_enc v14 v15 y).2 :=
  fn_fin tok laws_szFloat32S_hO mixed Try.func59 Try.call59 (by kernel_rfl) (LoopsOk_eq (l := []) (by kernel_rfl) trivial) (laws_szFloat32S_den v14 v15) hy hm h0 hA
def laws_szFloat32S_v (v14 : List Nat) (v15 : Int) : Int :=
  if (decide (IntKind.i64.wrap (v15 - ((v14.length : Nat) : Int)) < (0 : Int))) = true then (
   (-1 : Int)
  ) else (
   IntKind.i64.wrap (v15 - ((v14.length : Nat) : Int))
  )
theorem laws_szFloat32S_tot (v14 : List Nat) (v15 : Int) : laws_szFloat32S_g v14 v15 = some (laws_szFloat32S_v v14 v15) := by
  unfold laws_szFloat32S_g laws_szFloat32S_T laws_szFloat32S_v
  simp only [Tree.run]
  repeat' (first | rfl | split)
noncomputable def laws_szFloat32S_F : DFn := fun args L =>
  match args with
  | [a1, .int .i64 v15] =>
    optT (rowF32 L a1) fun v14 =>
    .leaf (.int .i64 (laws_szFloat32S_v v14 v15), L)
  | _ => .fail
theorem laws_szFloat32S_Fok : COk Try.prog 59 laws_szFloat32S_F true := by
  intro F L H args r L' hs ha hr
  unfold laws_szFloat32S_F at hr
  split at hr
  · rename_i a1 v15
    obtain ⟨v14, hv14, hr⟩ := optT_run hr
    have hy := laws_szFloat32S_tot v14 v15
    generalize laws_szFloat32S_v v14 v15 = y at hy hr
    simp only [Tree.run, Option.some.injEq, Prod.mk.injEq] at hr
    obtain ⟨rfl, rfl⟩ := hr
    exact call_ok0 hs (fun k => (([a1.av F] : List AV)[k]?).getD .top) [a1, .int .i64 v15] [.bslc (BR.root 0) (.f32 v14), .int .i64 v15] (fun F' h0 hi hρ => ⟨by simp [DVs.av, DV.av, BR.av, hρ], laws_szFloat32S_fn v14 v15 F' (by rw [hi]; rfl) (st_nil hi) ⟨bslc_ok hi (by rw [h0, hρ]; exact rowF32_ok hs (DVs.okAt ha 0 rfl) hv14), trivial, trivial⟩ hy⟩) rfl
  · cases hr
/-! laws.szMatrix -/
noncomputable def laws_szMatrix_LO (v10 : Int) (v11 : Int) (v12 : List Nat) (v13 : Int) : LOr := fun id e L =>
  match id with
  | _ => .fail
noncomputable def laws_szMatrix_tab : List (FuncId × DFn × Bool) := [(59, laws_szFloat32S_F, true)]
theorem laws_szMatrix_hO : OrcOk Try.prog (tabD laws_szMatrix_tab) (tabM laws_szMatrix_tab) := tabD_cons laws_szFloat32S_Fok (tabD_nil _)
noncomputable def laws_szMatrix_T (v12 : List Nat) (v13 : Int) : Tree (Int) :=
  (.br (decide ((laws_szFloat32S_v v12 v13) < (0 : Int))) (
   .leaf (-1 : Int)
  ) (
   .leaf (laws_szFloat32S_v v12 v13)
  ))

noncomputable def laws_szMatrix_g (v12 : List Nat) (v13 : Int) : Option (Int) := (laws_szMatrix_T v12 v13).run
def laws_szMatrix_enc (v10 : Int) (v11 : Int) (v12 : List Nat) (v13 : Int) (y : Int) : Rs := (.int .i64 y, [])
theorem laws_szMatrix_den (v10 : Int) (v11 : Int) (v12 : List Nat) (v13 : Int) : (den TT (tabD laws_szMatrix_tab) (tabM laws_szMatrix_tab) (laws_szMatrix_LO v10 v11 v12 v13) (codeOf Try.f33) ([.agg [.int .i64 v10, .int .i64 v11, .bslc (BR.root 0) (.f32 v12)], .int .i64 v13] ++ List.replicate (Try.f33.ntmps - ([.agg [.int .i64 v10, .int .i64 v11, .bslc (BR.root 0) (.f32 v12)], .int .i64 v13] : List DV).length) .undef) []).bind (retD TT Try.f33.results.toList 0) = (laws_szMatrix_T v12 v13).bind fun y => .leaf (laws_szMatrix_enc v10 v11 v12 v13 y) := by kernel_rfl
theorem laws_szMatrix_fn (v10 : Int) (v11 : Int) (v12 : List Nat) (v13 : Int) (F : Fr) (hm : F.ids.length = 0) (h0 : St F [] F.H0) (hA : DVs.Ok F [] [.agg [.int .i64 v10, .int .i64 v11, .bslc (BR.root 0) (.f32 v12)], .int .i64 v13]) {y : Int} (hy : laws_szMatrix_g v12 v13 = some y) : ∃ H', FnOk Try.prog 33 (DVs.av F [.agg [.int .i64 v10, .int .i64 v11, .bslc (BR.root 0) (.f32 v12)], .int .i64 v13]) F.H0 ((laws_szMatrix_enc v10 v11 v12 v13 y).1.av F) H' ∧ St F (laws_szMatrix_enc v10 v11 v12 v13 y).2 H' ∧ (laws_szMatrix_enc v10 v11 v12 v13 y).1.Ok F (laws_szMatrix_enc v10 v11 v12 v13 y).2 :=
  fn_fin tok laws_szMatrix_hO mixed Try.func33 Try.call33 (by kernel_rfl) (LoopsOk_eq (l := []) (by kernel_rfl) trivial) (laws_szMatrix_den v10 v11 v12 v13) hy hm h0 hA
def laws_szMatrix_v (v12 : List Nat) (v13 : Int) : Int :=
  if (decide ((laws_szFloat32S_v v12 v13) < (0 : Int))) = true then (
   (-1 : Int)
  ) else (
   (laws_szFloat32S_v v12 v13)
  )
theorem laws_szMatrix_tot (v12 : List Nat) (v13 : Int) : laws_szMatrix_g v12 v13 = some (laws_szMatrix_v v12 v13) := by
  unfold laws_szMatrix_g laws_szMatrix_T laws_szMatrix_v
  simp only [Tree.run]
  repeat' (first | rfl | split)
noncomputable def laws_szMatrix_F : DFn := fun args L =>
  match args with
  | [.agg [.int .i64 v10, .int .i64 v11, a1], .int .i64 v13] =>
    optT (rowF32 L a1) fun v12 =>
    .leaf (.int .i64 (laws_szMatrix_v v12 v13), L)
  | _ => .fail
theorem laws_szMatrix_Fok : COk Try.prog 33 laws_szMatrix_F true := by
  intro F L H args r L' hs ha hr
  unfold laws_szMatrix_F at hr
  split at hr
  · rename_i v10 v11 a1 v13
    obtain ⟨v12, hv12, hr⟩ := optT_run hr
    have hy := laws_szMatrix_tot v12 v13
    generalize laws_szMatrix_v v12 v13 = y at hy hr
    simp only [Tree.run, Option.some.injEq, Prod.mk.injEq] at hr
    obtain ⟨rfl, rfl⟩ := hr
    exact call_ok0 hs (fun k => (([a1.av F] : List AV)[k]?).getD .top) [.agg [.int .i64 v10, .int .i64 v11, a1], .int .i64 v13] [.agg [.int .i64 v10, .int .i64 v11, .bslc (BR.root 0) (.f32 v12)], .int .i64 v13] (fun F' h0 hi hρ => ⟨by simp [DVs.av, DV.av, BR.av, hρ], laws_szMatrix_fn v10 v11 v12 v13 F' (by rw [hi]; rfl) (st_nil hi) ⟨⟨trivial, trivial, bslc_ok hi (by rw [h0, hρ]; exact rowF32_ok hs (DVs.okAt (DVs.okAt ha 0 rfl) 2 rfl) hv12), trivial⟩, trivial, trivial⟩ hy⟩) rfl
  · cases hr
/-! laws.szSheet -/
noncomputable def laws_szSheet_LO (v5 : ByteArray) (v6 : Int) (v7 : Int) (v8 : List Nat) (v9 : Int) : LOr := fun id e L =>
  match id with
  | _ => .fail
noncomputable def laws_szSheet_tab : List (FuncId × DFn × Bool) := [(33, laws_szMatrix_F, true)]
theorem laws_szSheet_hO : OrcOk Try.prog (tabD laws_szSheet_tab) (tabM laws_szSheet_tab) := tabD_cons laws_szMatrix_Fok (tabD_nil _)
noncomputable def laws_szSheet_T (v5 : ByteArray) (v8 : List Nat) (v9 : Int) : Tree (Int) :=
  (.br (decide (IntKind.i64.wrap (v9 - ((v5.size : Nat) : Int)) < (0 : Int))) (
   .leaf (-1 : Int)
  ) (
   (.br (decide ((laws_szMatrix_v v8 (IntKind.i64.wrap (v9 - ((v5.size : Nat) : Int)))) < (0 : Int))) (
    .leaf (-1 : Int)
   ) (
    .leaf (laws_szMatrix_v v8 (IntKind.i64.wrap (v9 - ((v5.size : Nat) : Int))))
   ))
  ))

noncomputable def laws_szSheet_g (v5 : ByteArray) (v8 : List Nat) (v9 : Int) : Option (Int) := (laws_szSheet_T v5 v8 v9).run
def laws_szSheet_enc (v5 : ByteArray) (v6 : Int) (v7 : Int) (v8 : List Nat) (v9 : Int) (y : Int) : Rs := (.int .i64 y, [])
theorem laws_szSheet_den (v5 : ByteArray) (v6 : Int) (v7 : Int) (v8 : List Nat) (v9 : Int) : (den TT (tabD laws_szSheet_tab) (tabM laws_szSheet_tab) (laws_szSheet_LO v5 v6 v7 v8 v9) (codeOf Try.f9) ([.agg [.str v5, .int .i64 v6, .int .i64 v7, .bslc (BR.root 0) (.f32 v8)], .int .i64 v9] ++ List.replicate (Try.f9.ntmps - ([.agg [.str v5, .int .i64 v6, .int .i64 v7, .bslc (BR.root 0) (.f32 v8)], .int .i64 v9] : List DV).length) .undef) []).bind (retD TT Try.f9.results.toList 0) = (laws_szSheet_T v5 v8 v9).bind fun y => .leaf (laws_szSheet_enc v5 v6 v7 v8 v9 y) := by kernel_rfl
theorem laws_szSheet_fn (v5 : ByteArray) (v6 : Int) (v7 : Int) (v8 : List Nat) (v9 : Int) (F : Fr) (hm : F.ids.length = 0) (h0 : St F [] F.H0) (hA : DVs.Ok F [] [.agg [.str v5, .int .i64 v6, .int .i64 v7, .bslc (BR.root 0) (.f32 v8)], .int .i64 v9]) {y : Int} (hy : laws_szSheet_g v5 v8 v9 = some y) : ∃ H', FnOk Try.prog 9 (DVs.av F [.agg [.str v5, .int .i64 v6, .int .i64 v7, .bslc (BR.root 0) (.f32 v8)], .int .i64 v9]) F.H0 ((laws_szSheet_enc v5 v6 v7 v8 v9 y).1.av F) H' ∧ St F (laws_szSheet_enc v5 v6 v7 v8 v9 y).2 H' ∧ (laws_szSheet_enc v5 v6 v7 v8 v9 y).1.Ok F (laws_szSheet_enc v5 v6 v7 v8 v9 y).2 :=
  fn_fin tok laws_szSheet_hO mixed Try.func9 Try.call9 (by kernel_rfl) (LoopsOk_eq (l := []) (by kernel_rfl) trivial) (laws_szSheet_den v5 v6 v7 v8 v9) hy hm h0 hA
def laws_szSheet_v (v5 : ByteArray) (v8 : List Nat) (v9 : Int) : Int :=
  if (decide (IntKind.i64.wrap (v9 - ((v5.size : Nat) : Int)) < (0 : Int))) = true then (
   (-1 : Int)
  ) else (
   if (decide ((laws_szMatrix_v v8 (IntKind.i64.wrap (v9 - ((v5.size : Nat) : Int)))) < (0 : Int))) = true then (
    (-1 : Int)
   ) else (
    (laws_szMatrix_v v8 (IntKind.i64.wrap (v9 - ((v5.size : Nat) : Int))))
   )
  )
theorem laws_szSheet_tot (v5 : ByteArray) (v8 : List Nat) (v9 : Int) : laws_szSheet_g v5 v8 v9 = some (laws_szSheet_v v5 v8 v9) := by
  unfold laws_szSheet_g laws_szSheet_T laws_szSheet_v
  simp only [Tree.run]
  repeat' (first | rfl | split)
noncomputable def laws_szSheet_F : DFn := fun args L =>
  match args with
  | [.agg [.str v5, .int .i64 v6, .int .i64 v7, a1], .int .i64 v9] =>
    optT (rowF32 L a1) fun v8 =>
    .leaf (.int .i64 (laws_szSheet_v v5 v8 v9), L)
  | _ => .fail
theorem laws_szSheet_Fok : COk Try.prog 9 laws_szSheet_F true := by
  intro F L H args r L' hs ha hr
  unfold laws_szSheet_F at hr
  split at hr
  · rename_i v5 v6 v7 a1 v9
    obtain ⟨v8, hv8, hr⟩ := optT_run hr
    have hy := laws_szSheet_tot v5 v8 v9
    generalize laws_szSheet_v v5 v8 v9 = y at hy hr
    simp only [Tree.run, Option.some.injEq, Prod.mk.injEq] at hr
    obtain ⟨rfl, rfl⟩ := hr
    exact call_ok0 hs (fun k => (([a1.av F] : List AV)[k]?).getD .top) [.agg [.str v5, .int .i64 v6, .int .i64 v7, a1], .int .i64 v9] [.agg [.str v5, .int .i64 v6, .int .i64 v7, .bslc (BR.root 0) (.f32 v8)], .int .i64 v9] (fun F' h0 hi hρ => ⟨by simp [DVs.av, DV.av, BR.av, hρ], laws_szSheet_fn v5 v6 v7 v8 v9 F' (by rw [hi]; rfl) (st_nil hi) ⟨⟨trivial, trivial, trivial, bslc_ok hi (by rw [h0, hρ]; exact rowF32_ok hs (DVs.okAt (DVs.okAt ha 0 rfl) 3 rfl) hv8), trivial⟩, trivial, trivial⟩ hy⟩) rfl
  · cases hr
/-! laws.toFloat32S -/
noncomputable def laws_toFloat32S_l0_T (v23 : List Nat) (s : Int × (List Nat)) : Tree ((Int × (List Nat)) ⊕ ((List Nat))) :=
  (.br (decide (s.1 < ((v23.length : Nat) : Int))) (
   (.grd (inb s.1 v23.length) <|
   (.grd (inb s.1 ((s.2).length)) <|
   .leaf (.inl (IntKind.i64.wrap (s.1 + (1 : Int)), List.set s.2 (Int.toNat s.1) (nth v23 (Int.toNat s.1))))))
  ) (
   .leaf (.inr s.2)
  ))

noncomputable def laws_toFloat32S_l0_g (v23 : List Nat) (s0 : Int × (List Nat)) : Option ((List Nat)) := whileM (fun s => (laws_toFloat32S_l0_T v23 s).run) s0
def laws_toFloat32S_l0_E (v23 : List Nat) (s : Int × (List Nat)) : Sd := ([.bslc (BR.root 0) (.f32 v23), .top, .top, .own 0 0 ((s.2).length), .int .i64 s.1, .top, .top, .top, .top, .top, .top, .top, .top, .top, .top, .top, .top, .top, .top, .top, .top, .top], [.row (.f32 s.2) 0])
def laws_toFloat32S_l0_X (v23 : List Nat) (x : (List Nat)) : Out := (.normal, [.top, .top, .top, .own 0 0 ((x).length), .top, .top, .top, .top, .top, .top, .top, .top, .top, .top, .top, .top, .top, .top, .top, .top, .top, .top], [.row (.f32 x) 0])
def laws_toFloat32S_l0_kill : List Nat := [0, 1, 1, 0, 0, 1, 1, 1, 1, 1, 1, 1, 1, 1, 1, 1, 1, 1, 1, 1, 1, 1]
def laws_toFloat32S_l0_nx : Exit → List Nat
  | .exit 0 => [1, 1, 1, 0, 1, 1, 1, 1, 1, 1, 1, 1, 1, 1, 1, 1, 1, 1, 1, 1, 1, 1]
  | .ret => [1, 1, 0, 1, 1, 1, 1, 1, 1, 1, 1, 1, 1, 1, 1, 1, 1, 1, 1, 1, 1, 1]
  | _ => []
noncomputable def laws_toFloat32S_LO (v23 : List Nat) : LOr := fun id e L =>
  match id with
  | 0 => .need (normA 0 laws_toFloat32S_l0_kill e L = some (laws_toFloat32S_l0_E v23 ((gI (vAt e 4)), (gRF L (vAt e 3))))) (.call (laws_toFloat32S_l0_g v23 ((gI (vAt e 4)), (gRF L (vAt e 3)))) fun x => .leaf (laws_toFloat32S_l0_X v23 x))
  | _ => .fail
noncomputable def laws_toFloat32S_tab : List (FuncId × DFn × Bool) := []
theorem laws_toFloat32S_hO : OrcOk Try.prog (tabD laws_toFloat32S_tab) (tabM laws_toFloat32S_tab) := tabD_nil _
theorem laws_toFloat32S_l0_be (v23 : List Nat) (s : Int × (List Nat)) : bodyT TT (tabD laws_toFloat32S_tab) (tabM laws_toFloat32S_tab) (laws_toFloat32S_LO v23) 0 laws_toFloat32S_l0_kill laws_toFloat32S_l0_nx (bodyOf Try.f64 0) 0 (laws_toFloat32S_l0_E v23 s) = (laws_toFloat32S_l0_T v23 s).bind fun y => .leaf (outS (laws_toFloat32S_l0_E v23) (laws_toFloat32S_l0_X v23) y) := by kernel_rfl
theorem laws_toFloat32S_l0_ok (v23 : List Nat) : LSound Try.prog 0 (laws_toFloat32S_LO v23) 0 (bodyOf Try.f64 0) := by
  intro e L out h
  exact lo_ok (E := laws_toFloat32S_l0_E v23) (gT := laws_toFloat32S_l0_T v23) (X := laws_toFloat32S_l0_X v23) (s0 := ((gI (vAt e 4)), (gRF L (vAt e 3)))) tok laws_toFloat32S_hO mixed (LoopsOk_eq (l := []) (by kernel_rfl) trivial) (laws_toFloat32S_l0_be v23) rfl (by intro x; rfl) h
noncomputable def laws_toFloat32S_T (v23 : List Nat) : Tree ((List Nat)) :=
  (.need (((v23.length : Nat) : Int) = ((v23.length : Nat) : Int)) <|
  (.grd (inb ((v23.length : Nat) : Int) (maxN + 1)) <|
  (.need (some (laws_toFloat32S_l0_E v23 ((0 : Int), List.replicate (Int.toNat ((v23.length : Nat) : Int)) (0 : Nat))) = some (laws_toFloat32S_l0_E v23 ((0 : Int), List.replicate (Int.toNat ((v23.length : Nat) : Int)) (0 : Nat)))) <|
  (.call (laws_toFloat32S_l0_g v23 ((0 : Int), List.replicate (Int.toNat ((v23.length : Nat) : Int)) (0 : Nat))) fun v29 =>
  .leaf v29))))

noncomputable def laws_toFloat32S_g (v23 : List Nat) : Option ((List Nat)) := (laws_toFloat32S_T v23).run
def laws_toFloat32S_enc (v23 : List Nat) (y : (List Nat)) : Rs := (.own 0 0 ((y).length), [.row (.f32 y) 0])
theorem laws_toFloat32S_den (v23 : List Nat) : (den TT (tabD laws_toFloat32S_tab) (tabM laws_toFloat32S_tab) (laws_toFloat32S_LO v23) (codeOf Try.f64) ([.bslc (BR.root 0) (.f32 v23)] ++ List.replicate (Try.f64.ntmps - ([.bslc (BR.root 0) (.f32 v23)] : List DV).length) .undef) []).bind (retD TT Try.f64.results.toList 0) = (laws_toFloat32S_T v23).bind fun y => .leaf (laws_toFloat32S_enc v23 y) := by kernel_rfl
theorem laws_toFloat32S_fn (v23 : List Nat) (F : Fr) (hm : F.ids.length = 0) (h0 : St F [] F.H0) (hA : DVs.Ok F [] [.bslc (BR.root 0) (.f32 v23)]) {y : (List Nat)} (hy : laws_toFloat32S_g v23 = some y) : ∃ H', FnOk Try.prog 64 (DVs.av F [.bslc (BR.root 0) (.f32 v23)]) F.H0 ((laws_toFloat32S_enc v23 y).1.av F) H' ∧ St F (laws_toFloat32S_enc v23 y).2 H' ∧ (laws_toFloat32S_enc v23 y).1.Ok F (laws_toFloat32S_enc v23 y).2 :=
  fn_fin tok laws_toFloat32S_hO mixed Try.func64 Try.call64 (by kernel_rfl) (LoopsOk_eq (l := [(0, bodyOf Try.f64 0)]) (by kernel_rfl) ⟨laws_toFloat32S_l0_ok v23, trivial⟩) (laws_toFloat32S_den v23) hy hm h0 hA
noncomputable def laws_toFloat32S_F : DFn := fun args L =>
  match args with
  | [a1] =>
    optT (rowF32 L a1) fun v23 =>
    .call (laws_toFloat32S_g v23) fun y => .leaf (.own (L.length + 0) 0 ((y).length), L ++ [.row (.f32 y) 0])
  | _ => .fail
theorem laws_toFloat32S_Fok : COk Try.prog 64 laws_toFloat32S_F true := by
  intro F L H args r L' hs ha hr
  unfold laws_toFloat32S_F at hr
  split at hr
  · rename_i a1
    obtain ⟨v23, hv23, hr⟩ := optT_run hr
    simp only [Tree.run] at hr
    obtain ⟨y, hy, hr⟩ := Option.bind_eq_some_iff.1 hr
    simp only [Tree.run, Option.some.injEq, Prod.mk.injEq] at hr
    obtain ⟨rfl, rfl⟩ := hr
    exact call_ok1 hs (fun k => (([a1.av F] : List AV)[k]?).getD .top) [a1] [.bslc (BR.root 0) (.f32 v23)] (fun F' h0 hi hρ => ⟨by simp [DVs.av, DV.av, BR.av, hρ], laws_toFloat32S_fn v23 F' (by rw [hi]; rfl) (st_nil hi) ⟨bslc_ok hi (by rw [h0, hρ]; exact rowF32_ok hs (DVs.okAt ha 0 rfl) hv23), trivial⟩ hy⟩) rfl rfl
  · cases hr
/-! laws.toMatrix -/
noncomputable def laws_toMatrix_LO (v20 : Int) (v21 : Int) (v22 : List Nat) : LOr := fun id e L =>
  match id with
  | _ => .fail
noncomputable def laws_toMatrix_tab : List (FuncId × DFn × Bool) := [(64, laws_toFloat32S_F, true)]
theorem laws_toMatrix_hO : OrcOk Try.prog (tabD laws_toMatrix_tab) (tabM laws_toMatrix_tab) := tabD_cons laws_toFloat32S_Fok (tabD_nil _)
noncomputable def laws_toMatrix_T (v20 : Int) (v21 : Int) (v22 : List Nat) : Tree (Int × Int × (List Nat)) :=
  (.call (laws_toFloat32S_g v22) fun v30 =>
  .leaf (v20, v21, v30))

noncomputable def laws_toMatrix_g (v20 : Int) (v21 : Int) (v22 : List Nat) : Option (Int × Int × (List Nat)) := (laws_toMatrix_T v20 v21 v22).run
def laws_toMatrix_enc (v20 : Int) (v21 : Int) (v22 : List Nat) (y : Int × Int × (List Nat)) : Rs := (.agg [.int .i64 y.1, .int .i64 y.2.1, .own 0 0 ((y.2.2).length)], [.row (.f32 y.2.2) 0])
theorem laws_toMatrix_den (v20 : Int) (v21 : Int) (v22 : List Nat) : (den TT (tabD laws_toMatrix_tab) (tabM laws_toMatrix_tab) (laws_toMatrix_LO v20 v21 v22) (codeOf Try.f36) ([.agg [.int .i64 v20, .int .i64 v21, .bslc (BR.root 0) (.f32 v22)]] ++ List.replicate (Try.f36.ntmps - ([.agg [.int .i64 v20, .int .i64 v21, .bslc (BR.root 0) (.f32 v22)]] : List DV).length) .undef) []).bind (retD TT Try.f36.results.toList 0) = (laws_toMatrix_T v20 v21 v22).bind fun y => .leaf (laws_toMatrix_enc v20 v21 v22 y) := by kernel_rfl
theorem laws_toMatrix_fn (v20 : Int) (v21 : Int) (v22 : List Nat) (F : Fr) (hm : F.ids.length = 0) (h0 : St F [] F.H0) (hA : DVs.Ok F [] [.agg [.int .i64 v20, .int .i64 v21, .bslc (BR.root 0) (.f32 v22)]]) {y : Int × Int × (List Nat)} (hy : laws_toMatrix_g v20 v21 v22 = some y) : ∃ H', FnOk Try.prog 36 (DVs.av F [.agg [.int .i64 v20, .int .i64 v21, .bslc (BR.root 0) (.f32 v22)]]) F.H0 ((laws_toMatrix_enc v20 v21 v22 y).1.av F) H' ∧ St F (laws_toMatrix_enc v20 v21 v22 y).2 H' ∧ (laws_toMatrix_enc v20 v21 v22 y).1.Ok F (laws_toMatrix_enc v20 v21 v22 y).2 :=
  fn_fin tok laws_toMatrix_hO mixed Try.func36 Try.call36 (by kernel_rfl) (LoopsOk_eq (l := []) (by kernel_rfl) trivial) (laws_toMatrix_den v20 v21 v22) hy hm h0 hA
noncomputable def laws_toMatrix_F : DFn := fun args L =>
  match args with
  | [.agg [.int .i64 v20, .int .i64 v21, a1]] =>
    optT (rowF32 L a1) fun v22 =>
    .call (laws_toMatrix_g v20 v21 v22) fun y => .leaf (.agg [.int .i64 y.1, .int .i64 y.2.1, .own (L.length + 0) 0 ((y.2.2).length)], L ++ [.row (.f32 y.2.2) 0])
  | _ => .fail
theorem laws_toMatrix_Fok : COk Try.prog 36 laws_toMatrix_F true := by
  intro F L H args r L' hs ha hr
  unfold laws_toMatrix_F at hr
  split at hr
  · rename_i v20 v21 a1
    obtain ⟨v22, hv22, hr⟩ := optT_run hr
    simp only [Tree.run] at hr
    obtain ⟨y, hy, hr⟩ := Option.bind_eq_some_iff.1 hr
    simp only [Tree.run, Option.some.injEq, Prod.mk.injEq] at hr
    obtain ⟨rfl, rfl⟩ := hr
    exact call_ok1 hs (fun k => (([a1.av F] : List AV)[k]?).getD .top) [.agg [.int .i64 v20, .int .i64 v21, a1]] [.agg [.int .i64 v20, .int .i64 v21, .bslc (BR.root 0) (.f32 v22)]] (fun F' h0 hi hρ => ⟨by simp [DVs.av, DV.av, BR.av, hρ], laws_toMatrix_fn v20 v21 v22 F' (by rw [hi]; rfl) (st_nil hi) ⟨⟨trivial, trivial, bslc_ok hi (by rw [h0, hρ]; exact rowF32_ok hs (DVs.okAt (DVs.okAt ha 0 rfl) 2 rfl) hv22), trivial⟩, trivial⟩ hy⟩) rfl rfl
  · cases hr
/-! laws.toSheet -/
noncomputable def laws_toSheet_LO (v16 : ByteArray) (v17 : Int) (v18 : Int) (v19 : List Nat) : LOr := fun id e L =>
  match id with
  | _ => .fail
noncomputable def laws_toSheet_tab : List (FuncId × DFn × Bool) := [(36, laws_toMatrix_F, true)]
theorem laws_toSheet_hO : OrcOk Try.prog (tabD laws_toSheet_tab) (tabM laws_toSheet_tab) := tabD_cons laws_toMatrix_Fok (tabD_nil _)
noncomputable def laws_toSheet_T (v16 : ByteArray) (v17 : Int) (v18 : Int) (v19 : List Nat) : Tree (ByteArray × Int × Int × (List Nat)) :=
  (.call (laws_toMatrix_g v17 v18 v19) fun v31 =>
  .leaf (v16, v31.1, v31.2.1, v31.2.2))

noncomputable def laws_toSheet_g (v16 : ByteArray) (v17 : Int) (v18 : Int) (v19 : List Nat) : Option (ByteArray × Int × Int × (List Nat)) := (laws_toSheet_T v16 v17 v18 v19).run
def laws_toSheet_enc (v16 : ByteArray) (v17 : Int) (v18 : Int) (v19 : List Nat) (y : ByteArray × Int × Int × (List Nat)) : Rs := (.agg [.str y.1, .int .i64 y.2.1, .int .i64 y.2.2.1, .own 0 0 ((y.2.2.2).length)], [.row (.f32 y.2.2.2) 0])
theorem laws_toSheet_den (v16 : ByteArray) (v17 : Int) (v18 : Int) (v19 : List Nat) : (den TT (tabD laws_toSheet_tab) (tabM laws_toSheet_tab) (laws_toSheet_LO v16 v17 v18 v19) (codeOf Try.f11) ([.agg [.str v16, .int .i64 v17, .int .i64 v18, .bslc (BR.root 0) (.f32 v19)]] ++ List.replicate (Try.f11.ntmps - ([.agg [.str v16, .int .i64 v17, .int .i64 v18, .bslc (BR.root 0) (.f32 v19)]] : List DV).length) .undef) []).bind (retD TT Try.f11.results.toList 0) = (laws_toSheet_T v16 v17 v18 v19).bind fun y => .leaf (laws_toSheet_enc v16 v17 v18 v19 y) := by kernel_rfl
theorem laws_toSheet_fn (v16 : ByteArray) (v17 : Int) (v18 : Int) (v19 : List Nat) (F : Fr) (hm : F.ids.length = 0) (h0 : St F [] F.H0) (hA : DVs.Ok F [] [.agg [.str v16, .int .i64 v17, .int .i64 v18, .bslc (BR.root 0) (.f32 v19)]]) {y : ByteArray × Int × Int × (List Nat)} (hy : laws_toSheet_g v16 v17 v18 v19 = some y) : ∃ H', FnOk Try.prog 11 (DVs.av F [.agg [.str v16, .int .i64 v17, .int .i64 v18, .bslc (BR.root 0) (.f32 v19)]]) F.H0 ((laws_toSheet_enc v16 v17 v18 v19 y).1.av F) H' ∧ St F (laws_toSheet_enc v16 v17 v18 v19 y).2 H' ∧ (laws_toSheet_enc v16 v17 v18 v19 y).1.Ok F (laws_toSheet_enc v16 v17 v18 v19 y).2 :=
  fn_fin tok laws_toSheet_hO mixed Try.func11 Try.call11 (by kernel_rfl) (LoopsOk_eq (l := []) (by kernel_rfl) trivial) (laws_toSheet_den v16 v17 v18 v19) hy hm h0 hA
noncomputable def laws_toSheet_F : DFn := fun args L =>
  match args with
  | [.agg [.str v16, .int .i64 v17, .int .i64 v18, a1]] =>
    optT (rowF32 L a1) fun v19 =>
    .call (laws_toSheet_g v16 v17 v18 v19) fun y => .leaf (.agg [.str y.1, .int .i64 y.2.1, .int .i64 y.2.2.1, .own (L.length + 0) 0 ((y.2.2.2).length)], L ++ [.row (.f32 y.2.2.2) 0])
  | _ => .fail
theorem laws_toSheet_Fok : COk Try.prog 11 laws_toSheet_F true := by
  intro F L H args r L' hs ha hr
  unfold laws_toSheet_F at hr
  split at hr
  · rename_i v16 v17 v18 a1
    obtain ⟨v19, hv19, hr⟩ := optT_run hr
    simp only [Tree.run] at hr
    obtain ⟨y, hy, hr⟩ := Option.bind_eq_some_iff.1 hr
    simp only [Tree.run, Option.some.injEq, Prod.mk.injEq] at hr
    obtain ⟨rfl, rfl⟩ := hr
    exact call_ok1 hs (fun k => (([a1.av F] : List AV)[k]?).getD .top) [.agg [.str v16, .int .i64 v17, .int .i64 v18, a1]] [.agg [.str v16, .int .i64 v17, .int .i64 v18, .bslc (BR.root 0) (.f32 v19)]] (fun F' h0 hi hρ => ⟨by simp [DVs.av, DV.av, BR.av, hρ], laws_toSheet_fn v16 v17 v18 v19 F' (by rw [hi]; rfl) (st_nil hi) ⟨⟨trivial, trivial, trivial, bslc_ok hi (by rw [h0, hρ]; exact rowF32_ok hs (DVs.okAt (DVs.okAt ha 0 rfl) 3 rfl) hv19), trivial⟩, trivial⟩ hy⟩) rfl rfl
  · cases hr
/-! spec.l07Name -/
noncomputable def spec_l07Name_l0_T (v41 : ByteArray) (s : Int) : Tree ((Int) ⊕ ((Unit) ⊕ (Unit))) :=
  (.br (decide (s < ((v41.size : Nat) : Int))) (
   (.grd (inb s v41.size) <|
   (.br (decide (bt v41 s < (97 : Int))) (
    .leaf (.inr (.inl ()))
   ) (
    (.grd (inb s v41.size) <|
    (.br (decide ((122 : Int) < bt v41 s)) (
     .leaf (.inr (.inl ()))
    ) (
     .leaf (.inl (IntKind.i64.wrap (s + (1 : Int))))
    )))
   )))
  ) (
   .leaf (.inr (.inr ()))
  ))

noncomputable def spec_l07Name_l0_g (v41 : ByteArray) (s0 : Int) : Option ((Unit) ⊕ (Unit)) := whileM (fun s => (spec_l07Name_l0_T v41 s).run) s0
def spec_l07Name_l0_E (v41 : ByteArray) (s : Int) : Sd := ([.str v41, .top, .top, .int .i64 s, .top, .top, .top, .top, .top, .top, .top, .top, .top, .top, .top, .top, .top, .top, .top, .top, .top, .top, .top, .top, .top, .top, .top, .top], [])
def spec_l07Name_l0_X (v41 : ByteArray) (x : (Unit) ⊕ (Unit)) : Out := (match x with | .inl x => (.ret, [.top, .top, .lit false, .top, .top, .top, .top, .top, .top, .top, .top, .top, .top, .top, .top, .top, .top, .top, .top, .top, .top, .top, .top, .top, .top, .top, .top, .top], []) | .inr x => (.normal, [.str v41, .top, .top, .top, .top, .top, .top, .top, .top, .top, .top, .top, .top, .top, .top, .top, .top, .top, .top, .top, .top, .top, .top, .top, .top, .top, .top, .top], []))
def spec_l07Name_l0_kill : List Nat := [0, 1, 1, 0, 1, 1, 1, 1, 1, 1, 1, 1, 1, 1, 1, 1, 1, 1, 1, 1, 1, 1, 1, 1, 1, 1, 1, 1]
def spec_l07Name_l0_nx : Exit → List Nat
  | .exit 0 => [0, 1, 1, 1, 1, 1, 1, 1, 1, 1, 1, 1, 1, 1, 1, 1, 1, 1, 1, 1, 1, 1, 1, 1, 1, 1, 1, 1]
  | .ret => [1, 1, 0, 1, 1, 1, 1, 1, 1, 1, 1, 1, 1, 1, 1, 1, 1, 1, 1, 1, 1, 1, 1, 1, 1, 1, 1, 1]
  | _ => []
noncomputable def spec_l07Name_LO (v41 : ByteArray) : LOr := fun id e L =>
  match id with
  | 0 => .need (normA 0 spec_l07Name_l0_kill e L = some (spec_l07Name_l0_E v41 (gI (vAt e 3)))) (.call (spec_l07Name_l0_g v41 (gI (vAt e 3))) fun x => .sum x (fun b0 => .leaf (spec_l07Name_l0_X v41 (.inl b0))) (fun c0 => .leaf (spec_l07Name_l0_X v41 (.inr c0))))
  | _ => .fail
noncomputable def spec_l07Name_tab : List (FuncId × DFn × Bool) := []
theorem spec_l07Name_hO : OrcOk Try.prog (tabD spec_l07Name_tab) (tabM spec_l07Name_tab) := tabD_nil _
theorem spec_l07Name_l0_be (v41 : ByteArray) (s : Int) : bodyT TT (tabD spec_l07Name_tab) (tabM spec_l07Name_tab) (spec_l07Name_LO v41) 0 spec_l07Name_l0_kill spec_l07Name_l0_nx (bodyOf Try.f60 0) 0 (spec_l07Name_l0_E v41 s) = (spec_l07Name_l0_T v41 s).bind fun y => .leaf (outS (spec_l07Name_l0_E v41) (spec_l07Name_l0_X v41) y) := by kernel_rfl
theorem spec_l07Name_l0_ok (v41 : ByteArray) : LSound Try.prog 0 (spec_l07Name_LO v41) 0 (bodyOf Try.f60 0) := by
  intro e L out h
  exact lo_ok (E := spec_l07Name_l0_E v41) (gT := spec_l07Name_l0_T v41) (X := spec_l07Name_l0_X v41) (s0 := (gI (vAt e 3))) tok spec_l07Name_hO mixed (LoopsOk_eq (l := []) (by kernel_rfl) trivial) (spec_l07Name_l0_be v41) rfl (by intro x; (cases x with | inl b => rfl | inr x => exact rfl)) h
noncomputable def spec_l07Name_T (v41 : ByteArray) : Tree (Bool) :=
  (.need (some (spec_l07Name_l0_E v41 (0 : Int)) = some (spec_l07Name_l0_E v41 (0 : Int))) <|
  (.call (spec_l07Name_l0_g v41 (0 : Int)) fun v45 =>
  (.sum v45 (fun v46 =>
   .leaf false
  ) (fun v47 =>
   (.br (decide ((1 : Int) ≤ ((v41.size : Nat) : Int))) (
    .leaf (decide (((v41.size : Nat) : Int) ≤ (8 : Int)))
   ) (
    .leaf false
   ))
  ))))

noncomputable def spec_l07Name_g (v41 : ByteArray) : Option (Bool) := (spec_l07Name_T v41).run
def spec_l07Name_enc (v41 : ByteArray) (y : Bool) : Rs := (.bool y, [])
theorem spec_l07Name_den (v41 : ByteArray) : (den TT (tabD spec_l07Name_tab) (tabM spec_l07Name_tab) (spec_l07Name_LO v41) (codeOf Try.f60) ([.str v41] ++ List.replicate (Try.f60.ntmps - ([.str v41] : List DV).length) .undef) []).bind (retD TT Try.f60.results.toList 0) = (spec_l07Name_T v41).bind fun y => .leaf (spec_l07Name_enc v41 y) := by kernel_rfl
theorem spec_l07Name_fn (v41 : ByteArray) (F : Fr) (hm : F.ids.length = 0) (h0 : St F [] F.H0) (hA : DVs.Ok F [] [.str v41]) {y : Bool} (hy : spec_l07Name_g v41 = some y) : ∃ H', FnOk Try.prog 60 (DVs.av F [.str v41]) F.H0 ((spec_l07Name_enc v41 y).1.av F) H' ∧ St F (spec_l07Name_enc v41 y).2 H' ∧ (spec_l07Name_enc v41 y).1.Ok F (spec_l07Name_enc v41 y).2 :=
  fn_fin tok spec_l07Name_hO mixed Try.func60 Try.call60 (by kernel_rfl) (LoopsOk_eq (l := [(0, bodyOf Try.f60 0)]) (by kernel_rfl) ⟨spec_l07Name_l0_ok v41, trivial⟩) (spec_l07Name_den v41) hy hm h0 hA
noncomputable def spec_l07Name_F : DFn := fun args L =>
  match args with
  | [.str v41] =>
    .call (spec_l07Name_g v41) fun y => .leaf (.bool y, L)
  | _ => .fail
theorem spec_l07Name_Fok : COk Try.prog 60 spec_l07Name_F true := by
  intro F L H args r L' hs ha hr
  unfold spec_l07Name_F at hr
  split at hr
  · rename_i v41
    simp only [Tree.run] at hr
    obtain ⟨y, hy, hr⟩ := Option.bind_eq_some_iff.1 hr
    simp only [Tree.run, Option.some.injEq, Prod.mk.injEq] at hr
    obtain ⟨rfl, rfl⟩ := hr
    exact call_ok0 hs (fun k => (([] : List AV)[k]?).getD .top) [.str v41] [.str v41] (fun F' h0 hi hρ => ⟨by simp [DVs.av, DV.av, BR.av, hρ], spec_l07Name_fn v41 F' (by rw [hi]; rfl) (st_nil hi) ⟨trivial, trivial⟩ hy⟩) rfl
  · cases hr
/-! spec.l00In -/
noncomputable def spec_l00In_LO (v54 : Int) (v55 : Int) (v56 : Int) : LOr := fun id e L =>
  match id with
  | _ => .fail
noncomputable def spec_l00In_tab : List (FuncId × DFn × Bool) := []
theorem spec_l00In_hO : OrcOk Try.prog (tabD spec_l00In_tab) (tabM spec_l00In_tab) := tabD_nil _
noncomputable def spec_l00In_T (v54 : Int) (v55 : Int) (v56 : Int) : Tree (Bool) :=
  (.br (decide (v55 ≤ v54)) (
   .leaf (decide (v54 ≤ v56))
  ) (
   .leaf false
  ))

noncomputable def spec_l00In_g (v54 : Int) (v55 : Int) (v56 : Int) : Option (Bool) := (spec_l00In_T v54 v55 v56).run
def spec_l00In_enc (v54 : Int) (v55 : Int) (v56 : Int) (y : Bool) : Rs := (.bool y, [])
theorem spec_l00In_den (v54 : Int) (v55 : Int) (v56 : Int) : (den TT (tabD spec_l00In_tab) (tabM spec_l00In_tab) (spec_l00In_LO v54 v55 v56) (codeOf Try.f92) ([.int .i64 v54, .int .i64 v55, .int .i64 v56] ++ List.replicate (Try.f92.ntmps - ([.int .i64 v54, .int .i64 v55, .int .i64 v56] : List DV).length) .undef) []).bind (retD TT Try.f92.results.toList 0) = (spec_l00In_T v54 v55 v56).bind fun y => .leaf (spec_l00In_enc v54 v55 v56 y) := by kernel_rfl
theorem spec_l00In_fn (v54 : Int) (v55 : Int) (v56 : Int) (F : Fr) (hm : F.ids.length = 0) (h0 : St F [] F.H0) (hA : DVs.Ok F [] [.int .i64 v54, .int .i64 v55, .int .i64 v56]) {y : Bool} (hy : spec_l00In_g v54 v55 v56 = some y) : ∃ H', FnOk Try.prog 92 (DVs.av F [.int .i64 v54, .int .i64 v55, .int .i64 v56]) F.H0 ((spec_l00In_enc v54 v55 v56 y).1.av F) H' ∧ St F (spec_l00In_enc v54 v55 v56 y).2 H' ∧ (spec_l00In_enc v54 v55 v56 y).1.Ok F (spec_l00In_enc v54 v55 v56 y).2 :=
  fn_fin tok spec_l00In_hO mixed Try.func92 Try.call92 (by kernel_rfl) (LoopsOk_eq (l := []) (by kernel_rfl) trivial) (spec_l00In_den v54 v55 v56) hy hm h0 hA
def spec_l00In_v (v54 : Int) (v55 : Int) (v56 : Int) : Bool :=
  if (decide (v55 ≤ v54)) = true then (
   decide (v54 ≤ v56)
  ) else (
   false
  )
theorem spec_l00In_tot (v54 : Int) (v55 : Int) (v56 : Int) : spec_l00In_g v54 v55 v56 = some (spec_l00In_v v54 v55 v56) := by
  unfold spec_l00In_g spec_l00In_T spec_l00In_v
  simp only [Tree.run]
  repeat' (first | rfl | split)
noncomputable def spec_l00In_F : DFn := fun args L =>
  match args with
  | [.int .i64 v54, .int .i64 v55, .int .i64 v56] =>
    .leaf (.bool (spec_l00In_v v54 v55 v56), L)
  | _ => .fail
theorem spec_l00In_Fok : COk Try.prog 92 spec_l00In_F true := by
  intro F L H args r L' hs ha hr
  unfold spec_l00In_F at hr
  split at hr
  · rename_i v54 v55 v56
    have hy := spec_l00In_tot v54 v55 v56
    generalize spec_l00In_v v54 v55 v56 = y at hy hr
    simp only [Tree.run, Option.some.injEq, Prod.mk.injEq] at hr
    obtain ⟨rfl, rfl⟩ := hr
    exact call_ok0 hs (fun k => (([] : List AV)[k]?).getD .top) [.int .i64 v54, .int .i64 v55, .int .i64 v56] [.int .i64 v54, .int .i64 v55, .int .i64 v56] (fun F' h0 hi hρ => ⟨by simp [DVs.av, DV.av, BR.av, hρ], spec_l00In_fn v54 v55 v56 F' (by rw [hi]; rfl) (st_nil hi) ⟨trivial, trivial, trivial, trivial⟩ hy⟩) rfl
  · cases hr
/-! spec.l02Sides -/
noncomputable def spec_l02Sides_LO (v52 : Int) (v53 : Int) : LOr := fun id e L =>
  match id with
  | _ => .fail
noncomputable def spec_l02Sides_tab : List (FuncId × DFn × Bool) := [(92, spec_l00In_F, true)]
theorem spec_l02Sides_hO : OrcOk Try.prog (tabD spec_l02Sides_tab) (tabM spec_l02Sides_tab) := tabD_cons spec_l00In_Fok (tabD_nil _)
noncomputable def spec_l02Sides_T (v52 : Int) (v53 : Int) : Tree (Bool) :=
  (.br (spec_l00In_v v52 (1 : Int) (12 : Int)) (
   .leaf (spec_l00In_v v53 (1 : Int) (12 : Int))
  ) (
   .leaf false
  ))

noncomputable def spec_l02Sides_g (v52 : Int) (v53 : Int) : Option (Bool) := (spec_l02Sides_T v52 v53).run
def spec_l02Sides_enc (v52 : Int) (v53 : Int) (y : Bool) : Rs := (.bool y, [])
theorem spec_l02Sides_den (v52 : Int) (v53 : Int) : (den TT (tabD spec_l02Sides_tab) (tabM spec_l02Sides_tab) (spec_l02Sides_LO v52 v53) (codeOf Try.f82) ([.int .i64 v52, .int .i64 v53] ++ List.replicate (Try.f82.ntmps - ([.int .i64 v52, .int .i64 v53] : List DV).length) .undef) []).bind (retD TT Try.f82.results.toList 0) = (spec_l02Sides_T v52 v53).bind fun y => .leaf (spec_l02Sides_enc v52 v53 y) := by kernel_rfl
theorem spec_l02Sides_fn (v52 : Int) (v53 : Int) (F : Fr) (hm : F.ids.length = 0) (h0 : St F [] F.H0) (hA : DVs.Ok F [] [.int .i64 v52, .int .i64 v53]) {y : Bool} (hy : spec_l02Sides_g v52 v53 = some y) : ∃ H', FnOk Try.prog 82 (DVs.av F [.int .i64 v52, .int .i64 v53]) F.H0 ((spec_l02Sides_enc v52 v53 y).1.av F) H' ∧ St F (spec_l02Sides_enc v52 v53 y).2 H' ∧ (spec_l02Sides_enc v52 v53 y).1.Ok F (spec_l02Sides_enc v52 v53 y).2 :=
  fn_fin tok spec_l02Sides_hO mixed Try.func82 Try.call82 (by kernel_rfl) (LoopsOk_eq (l := []) (by kernel_rfl) trivial) (spec_l02Sides_den v52 v53) hy hm h0 hA
def spec_l02Sides_v (v52 : Int) (v53 : Int) : Bool :=
  if (spec_l00In_v v52 (1 : Int) (12 : Int)) = true then (
   (spec_l00In_v v53 (1 : Int) (12 : Int))
  ) else (
   false
  )
theorem spec_l02Sides_tot (v52 : Int) (v53 : Int) : spec_l02Sides_g v52 v53 = some (spec_l02Sides_v v52 v53) := by
  unfold spec_l02Sides_g spec_l02Sides_T spec_l02Sides_v
  simp only [Tree.run]
  repeat' (first | rfl | split)
noncomputable def spec_l02Sides_F : DFn := fun args L =>
  match args with
  | [.int .i64 v52, .int .i64 v53] =>
    .leaf (.bool (spec_l02Sides_v v52 v53), L)
  | _ => .fail
theorem spec_l02Sides_Fok : COk Try.prog 82 spec_l02Sides_F true := by
  intro F L H args r L' hs ha hr
  unfold spec_l02Sides_F at hr
  split at hr
  · rename_i v52 v53
    have hy := spec_l02Sides_tot v52 v53
    generalize spec_l02Sides_v v52 v53 = y at hy hr
    simp only [Tree.run, Option.some.injEq, Prod.mk.injEq] at hr
    obtain ⟨rfl, rfl⟩ := hr
    exact call_ok0 hs (fun k => (([] : List AV)[k]?).getD .top) [.int .i64 v52, .int .i64 v53] [.int .i64 v52, .int .i64 v53] (fun F' h0 hi hρ => ⟨by simp [DVs.av, DV.av, BR.av, hρ], spec_l02Sides_fn v52 v53 F' (by rw [hi]; rfl) (st_nil hi) ⟨trivial, trivial, trivial⟩ hy⟩) rfl
  · cases hr
/-! spec.l01Finite -/
noncomputable def spec_l01Finite_LO (v59 : Nat) : LOr := fun id e L =>
  match id with
  | _ => .fail
noncomputable def spec_l01Finite_tab : List (FuncId × DFn × Bool) := []
theorem spec_l01Finite_hO : OrcOk Try.prog (tabD spec_l01Finite_tab) (tabM spec_l01Finite_tab) := tabD_nil _
noncomputable def spec_l01Finite_T (v59 : Nat) : Tree (Bool) :=
  .leaf (feq .f32 (fsub .f32 v59 v59) (0 : Nat))

noncomputable def spec_l01Finite_g (v59 : Nat) : Option (Bool) := (spec_l01Finite_T v59).run
def spec_l01Finite_enc (v59 : Nat) (y : Bool) : Rs := (.bool y, [])
theorem spec_l01Finite_den (v59 : Nat) : (den TT (tabD spec_l01Finite_tab) (tabM spec_l01Finite_tab) (spec_l01Finite_LO v59) (codeOf Try.f93) ([.flt .f32 v59] ++ List.replicate (Try.f93.ntmps - ([.flt .f32 v59] : List DV).length) .undef) []).bind (retD TT Try.f93.results.toList 0) = (spec_l01Finite_T v59).bind fun y => .leaf (spec_l01Finite_enc v59 y) := by kernel_rfl
theorem spec_l01Finite_fn (v59 : Nat) (F : Fr) (hm : F.ids.length = 0) (h0 : St F [] F.H0) (hA : DVs.Ok F [] [.flt .f32 v59]) {y : Bool} (hy : spec_l01Finite_g v59 = some y) : ∃ H', FnOk Try.prog 93 (DVs.av F [.flt .f32 v59]) F.H0 ((spec_l01Finite_enc v59 y).1.av F) H' ∧ St F (spec_l01Finite_enc v59 y).2 H' ∧ (spec_l01Finite_enc v59 y).1.Ok F (spec_l01Finite_enc v59 y).2 :=
  fn_fin tok spec_l01Finite_hO mixed Try.func93 Try.call93 (by kernel_rfl) (LoopsOk_eq (l := []) (by kernel_rfl) trivial) (spec_l01Finite_den v59) hy hm h0 hA
def spec_l01Finite_v (v59 : Nat) : Bool :=
  feq .f32 (fsub .f32 v59 v59) (0 : Nat)
theorem spec_l01Finite_tot (v59 : Nat) : spec_l01Finite_g v59 = some (spec_l01Finite_v v59) := by
  unfold spec_l01Finite_g spec_l01Finite_T spec_l01Finite_v
  simp only [Tree.run]
  repeat' (first | rfl | split)
noncomputable def spec_l01Finite_F : DFn := fun args L =>
  match args with
  | [.flt .f32 v59] =>
    .leaf (.bool (spec_l01Finite_v v59), L)
  | _ => .fail
theorem spec_l01Finite_Fok : COk Try.prog 93 spec_l01Finite_F true := by
  intro F L H args r L' hs ha hr
  unfold spec_l01Finite_F at hr
  split at hr
  · rename_i v59
    have hy := spec_l01Finite_tot v59
    generalize spec_l01Finite_v v59 = y at hy hr
    simp only [Tree.run, Option.some.injEq, Prod.mk.injEq] at hr
    obtain ⟨rfl, rfl⟩ := hr
    exact call_ok0 hs (fun k => (([] : List AV)[k]?).getD .top) [.flt .f32 v59] [.flt .f32 v59] (fun F' h0 hi hρ => ⟨by simp [DVs.av, DV.av, BR.av, hρ], spec_l01Finite_fn v59 F' (by rw [hi]; rfl) (st_nil hi) ⟨trivial, trivial⟩ hy⟩) rfl
  · cases hr
/-! spec.l02Finite -/
noncomputable def spec_l02Finite_l0_T (v57 : List Nat) (s : Int) : Tree ((Int) ⊕ ((Unit) ⊕ (Unit))) :=
  (.br (decide (s < ((v57.length : Nat) : Int))) (
   (.grd (inb s v57.length) <|
   (.br (!(spec_l01Finite_v (nth v57 (Int.toNat s)))) (
    .leaf (.inr (.inl ()))
   ) (
    .leaf (.inl (IntKind.i64.wrap (s + (1 : Int))))
   )))
  ) (
   .leaf (.inr (.inr ()))
  ))

noncomputable def spec_l02Finite_l0_g (v57 : List Nat) (s0 : Int) : Option ((Unit) ⊕ (Unit)) := whileM (fun s => (spec_l02Finite_l0_T v57 s).run) s0
def spec_l02Finite_l0_E (v57 : List Nat) (s : Int) : Sd := ([.bslc (BR.root 0) (.f32 v57), .top, .top, .int .i64 s, .top, .top, .top, .top, .top, .top, .top, .top, .top, .top, .top, .top], [])
def spec_l02Finite_l0_X (v57 : List Nat) (x : (Unit) ⊕ (Unit)) : Out := (match x with | .inl x => (.ret, [.top, .top, .lit false, .top, .top, .top, .top, .top, .top, .top, .top, .top, .top, .top, .top, .top], []) | .inr x => (.normal, [.top, .top, .top, .top, .top, .top, .top, .top, .top, .top, .top, .top, .top, .top, .top, .top], []))
def spec_l02Finite_l0_kill : List Nat := [0, 1, 1, 0, 1, 1, 1, 1, 1, 1, 1, 1, 1, 1, 1, 1]
def spec_l02Finite_l0_nx : Exit → List Nat
  | .exit 0 => [1, 1, 1, 1, 1, 1, 1, 1, 1, 1, 1, 1, 1, 1, 1, 1]
  | .ret => [1, 1, 0, 1, 1, 1, 1, 1, 1, 1, 1, 1, 1, 1, 1, 1]
  | _ => []
noncomputable def spec_l02Finite_LO (v57 : List Nat) : LOr := fun id e L =>
  match id with
  | 0 => .need (normA 0 spec_l02Finite_l0_kill e L = some (spec_l02Finite_l0_E v57 (gI (vAt e 3)))) (.call (spec_l02Finite_l0_g v57 (gI (vAt e 3))) fun x => .sum x (fun b0 => .leaf (spec_l02Finite_l0_X v57 (.inl b0))) (fun c0 => .leaf (spec_l02Finite_l0_X v57 (.inr c0))))
  | _ => .fail
noncomputable def spec_l02Finite_tab : List (FuncId × DFn × Bool) := [(93, spec_l01Finite_F, true)]
theorem spec_l02Finite_hO : OrcOk Try.prog (tabD spec_l02Finite_tab) (tabM spec_l02Finite_tab) := tabD_cons spec_l01Finite_Fok (tabD_nil _)
theorem spec_l02Finite_l0_be (v57 : List Nat) (s : Int) : bodyT TT (tabD spec_l02Finite_tab) (tabM spec_l02Finite_tab) (spec_l02Finite_LO v57) 0 spec_l02Finite_l0_kill spec_l02Finite_l0_nx (bodyOf Try.f83 0) 0 (spec_l02Finite_l0_E v57 s) = (spec_l02Finite_l0_T v57 s).bind fun y => .leaf (outS (spec_l02Finite_l0_E v57) (spec_l02Finite_l0_X v57) y) := by kernel_rfl
theorem spec_l02Finite_l0_ok (v57 : List Nat) : LSound Try.prog 0 (spec_l02Finite_LO v57) 0 (bodyOf Try.f83 0) := by
  intro e L out h
  exact lo_ok (E := spec_l02Finite_l0_E v57) (gT := spec_l02Finite_l0_T v57) (X := spec_l02Finite_l0_X v57) (s0 := (gI (vAt e 3))) tok spec_l02Finite_hO mixed (LoopsOk_eq (l := []) (by kernel_rfl) trivial) (spec_l02Finite_l0_be v57) rfl (by intro x; (cases x with | inl b => rfl | inr x => exact rfl)) h
noncomputable def spec_l02Finite_T (v57 : List Nat) : Tree (Bool) :=
  (.need (some (spec_l02Finite_l0_E v57 (0 : Int)) = some (spec_l02Finite_l0_E v57 (0 : Int))) <|
  (.call (spec_l02Finite_l0_g v57 (0 : Int)) fun v62 =>
  (.sum v62 (fun v63 =>
   .leaf false
  ) (fun v64 =>
   .leaf true
  ))))

noncomputable def spec_l02Finite_g (v57 : List Nat) : Option (Bool) := (spec_l02Finite_T v57).run
def spec_l02Finite_enc (v57 : List Nat) (y : Bool) : Rs := (.bool y, [])
theorem spec_l02Finite_den (v57 : List Nat) : (den TT (tabD spec_l02Finite_tab) (tabM spec_l02Finite_tab) (spec_l02Finite_LO v57) (codeOf Try.f83) ([.bslc (BR.root 0) (.f32 v57)] ++ List.replicate (Try.f83.ntmps - ([.bslc (BR.root 0) (.f32 v57)] : List DV).length) .undef) []).bind (retD TT Try.f83.results.toList 0) = (spec_l02Finite_T v57).bind fun y => .leaf (spec_l02Finite_enc v57 y) := by kernel_rfl
theorem spec_l02Finite_fn (v57 : List Nat) (F : Fr) (hm : F.ids.length = 0) (h0 : St F [] F.H0) (hA : DVs.Ok F [] [.bslc (BR.root 0) (.f32 v57)]) {y : Bool} (hy : spec_l02Finite_g v57 = some y) : ∃ H', FnOk Try.prog 83 (DVs.av F [.bslc (BR.root 0) (.f32 v57)]) F.H0 ((spec_l02Finite_enc v57 y).1.av F) H' ∧ St F (spec_l02Finite_enc v57 y).2 H' ∧ (spec_l02Finite_enc v57 y).1.Ok F (spec_l02Finite_enc v57 y).2 :=
  fn_fin tok spec_l02Finite_hO mixed Try.func83 Try.call83 (by kernel_rfl) (LoopsOk_eq (l := [(0, bodyOf Try.f83 0)]) (by kernel_rfl) ⟨spec_l02Finite_l0_ok v57, trivial⟩) (spec_l02Finite_den v57) hy hm h0 hA
noncomputable def spec_l02Finite_F : DFn := fun args L =>
  match args with
  | [a1] =>
    optT (rowF32 L a1) fun v57 =>
    .call (spec_l02Finite_g v57) fun y => .leaf (.bool y, L)
  | _ => .fail
theorem spec_l02Finite_Fok : COk Try.prog 83 spec_l02Finite_F true := by
  intro F L H args r L' hs ha hr
  unfold spec_l02Finite_F at hr
  split at hr
  · rename_i a1
    obtain ⟨v57, hv57, hr⟩ := optT_run hr
    simp only [Tree.run] at hr
    obtain ⟨y, hy, hr⟩ := Option.bind_eq_some_iff.1 hr
    simp only [Tree.run, Option.some.injEq, Prod.mk.injEq] at hr
    obtain ⟨rfl, rfl⟩ := hr
    exact call_ok0 hs (fun k => (([a1.av F] : List AV)[k]?).getD .top) [a1] [.bslc (BR.root 0) (.f32 v57)] (fun F' h0 hi hρ => ⟨by simp [DVs.av, DV.av, BR.av, hρ], spec_l02Finite_fn v57 F' (by rw [hi]; rfl) (st_nil hi) ⟨bslc_ok hi (by rw [h0, hρ]; exact rowF32_ok hs (DVs.okAt ha 0 rfl) hv57), trivial⟩ hy⟩) rfl
  · cases hr
/-! spec.l02Is -/
noncomputable def spec_l02Is_LO (v49 : Int) (v50 : Int) (v51 : List Nat) : LOr := fun id e L =>
  match id with
  | _ => .fail
noncomputable def spec_l02Is_tab : List (FuncId × DFn × Bool) := [(82, spec_l02Sides_F, true), (83, spec_l02Finite_F, true)]
theorem spec_l02Is_hO : OrcOk Try.prog (tabD spec_l02Is_tab) (tabM spec_l02Is_tab) := tabD_cons spec_l02Sides_Fok (tabD_cons spec_l02Finite_Fok (tabD_nil _))
noncomputable def spec_l02Is_T (v49 : Int) (v50 : Int) (v51 : List Nat) : Tree (Bool) :=
  (.br (spec_l02Sides_v v49 v50) (
   (.br (decide (((v51.length : Nat) : Int) = IntKind.i64.wrap (v49 * v50))) (
    (.call (spec_l02Finite_g v51) fun v65 =>
    .leaf v65)
   ) (
    .leaf false
   ))
  ) (
   .leaf false
  ))

noncomputable def spec_l02Is_g (v49 : Int) (v50 : Int) (v51 : List Nat) : Option (Bool) := (spec_l02Is_T v49 v50 v51).run
def spec_l02Is_enc (v49 : Int) (v50 : Int) (v51 : List Nat) (y : Bool) : Rs := (.bool y, [])
theorem spec_l02Is_den (v49 : Int) (v50 : Int) (v51 : List Nat) : (den TT (tabD spec_l02Is_tab) (tabM spec_l02Is_tab) (spec_l02Is_LO v49 v50 v51) (codeOf Try.f61) ([.bptr (BR.root 0) [.int .i64 v49, .int .i64 v50, .bslc (BR.root 1) (.f32 v51)]] ++ List.replicate (Try.f61.ntmps - ([.bptr (BR.root 0) [.int .i64 v49, .int .i64 v50, .bslc (BR.root 1) (.f32 v51)]] : List DV).length) .undef) []).bind (retD TT Try.f61.results.toList 0) = (spec_l02Is_T v49 v50 v51).bind fun y => .leaf (spec_l02Is_enc v49 v50 v51 y) := by kernel_rfl
theorem spec_l02Is_fn (v49 : Int) (v50 : Int) (v51 : List Nat) (F : Fr) (hm : F.ids.length = 0) (h0 : St F [] F.H0) (hA : DVs.Ok F [] [.bptr (BR.root 0) [.int .i64 v49, .int .i64 v50, .bslc (BR.root 1) (.f32 v51)]]) {y : Bool} (hy : spec_l02Is_g v49 v50 v51 = some y) : ∃ H', FnOk Try.prog 61 (DVs.av F [.bptr (BR.root 0) [.int .i64 v49, .int .i64 v50, .bslc (BR.root 1) (.f32 v51)]]) F.H0 ((spec_l02Is_enc v49 v50 v51 y).1.av F) H' ∧ St F (spec_l02Is_enc v49 v50 v51 y).2 H' ∧ (spec_l02Is_enc v49 v50 v51 y).1.Ok F (spec_l02Is_enc v49 v50 v51 y).2 :=
  fn_fin tok spec_l02Is_hO mixed Try.func61 Try.call61 (by kernel_rfl) (LoopsOk_eq (l := []) (by kernel_rfl) trivial) (spec_l02Is_den v49 v50 v51) hy hm h0 hA
noncomputable def spec_l02Is_F : DFn := fun args L =>
  match args with
  | [a1] =>
    optT (cellsOf L 3 a1) fun cs0 =>
    (match cs0 with
    | [.int .i64 v49, .int .i64 v50, a2] =>
    optT (rowF32 L a2) fun v51 =>
    .call (spec_l02Is_g v49 v50 v51) fun y => .leaf (.bool y, L)
    | _ => .fail)
  | _ => .fail
theorem spec_l02Is_Fok : COk Try.prog 61 spec_l02Is_F true := by
  intro F L H args r L' hs ha hr
  unfold spec_l02Is_F at hr
  split at hr
  · rename_i a1
    obtain ⟨cs0, hcp0, hr⟩ := optT_run hr
    split at hr
    · rename_i v49 v50 a2
      obtain ⟨v51, hv51, hr⟩ := optT_run hr
      simp only [Tree.run] at hr
      obtain ⟨y, hy, hr⟩ := Option.bind_eq_some_iff.1 hr
      simp only [Tree.run, Option.some.injEq, Prod.mk.injEq] at hr
      obtain ⟨rfl, rfl⟩ := hr
      exact call_ok0 hs (fun k => (([a1.av F, a2.av F] : List AV)[k]?).getD .top) [a1] [.bptr (BR.root 0) [.int .i64 v49, .int .i64 v50, .bslc (BR.root 1) (.f32 v51)]] (fun F' h0 hi hρ => ⟨by simp [DVs.av, DV.av, BR.av, hρ], spec_l02Is_fn v49 v50 v51 F' (by rw [hi]; rfl) (st_nil hi) ⟨bptr_ok hi (by rw [h0]; simpa [DVs.av, DV.av, BR.av, hρ] using (cellsOf_ok hs (DVs.okAt ha 0 rfl) hcp0).1) ⟨trivial, trivial, bslc_ok hi (by rw [h0, hρ]; exact rowF32_ok hs (DVs.okAt (cellsOf_ok hs (DVs.okAt ha 0 rfl) hcp0).2 2 rfl) hv51), trivial⟩, trivial⟩ hy⟩) rfl
    · cases hr
  · cases hr
/-! spec.l07Sheet -/
noncomputable def spec_l07Sheet_LO (v37 : ByteArray) (v38 : Int) (v39 : Int) (v40 : List Nat) : LOr := fun id e L =>
  match id with
  | _ => .fail
noncomputable def spec_l07Sheet_tab : List (FuncId × DFn × Bool) := [(60, spec_l07Name_F, true), (61, spec_l02Is_F, true)]
theorem spec_l07Sheet_hO : OrcOk Try.prog (tabD spec_l07Sheet_tab) (tabM spec_l07Sheet_tab) := tabD_cons spec_l07Name_Fok (tabD_cons spec_l02Is_Fok (tabD_nil _))
noncomputable def spec_l07Sheet_T (v37 : ByteArray) (v38 : Int) (v39 : Int) (v40 : List Nat) : Tree (Bool) :=
  (.call (spec_l07Name_g v37) fun v48 =>
  (.br v48 (
   (.call (spec_l02Is_g v38 v39 v40) fun v66 =>
   .leaf v66)
  ) (
   .leaf false
  )))

noncomputable def spec_l07Sheet_g (v37 : ByteArray) (v38 : Int) (v39 : Int) (v40 : List Nat) : Option (Bool) := (spec_l07Sheet_T v37 v38 v39 v40).run
def spec_l07Sheet_enc (v37 : ByteArray) (v38 : Int) (v39 : Int) (v40 : List Nat) (y : Bool) : Rs := (.bool y, [])
theorem spec_l07Sheet_den (v37 : ByteArray) (v38 : Int) (v39 : Int) (v40 : List Nat) : (den TT (tabD spec_l07Sheet_tab) (tabM spec_l07Sheet_tab) (spec_l07Sheet_LO v37 v38 v39 v40) (codeOf Try.f34) ([.bptr (BR.root 0) [.str v37, .int .i64 v38, .int .i64 v39, .bslc (BR.root 1) (.f32 v40)]] ++ List.replicate (Try.f34.ntmps - ([.bptr (BR.root 0) [.str v37, .int .i64 v38, .int .i64 v39, .bslc (BR.root 1) (.f32 v40)]] : List DV).length) .undef) []).bind (retD TT Try.f34.results.toList 0) = (spec_l07Sheet_T v37 v38 v39 v40).bind fun y => .leaf (spec_l07Sheet_enc v37 v38 v39 v40 y) := by kernel_rfl
theorem spec_l07Sheet_fn (v37 : ByteArray) (v38 : Int) (v39 : Int) (v40 : List Nat) (F : Fr) (hm : F.ids.length = 0) (h0 : St F [] F.H0) (hA : DVs.Ok F [] [.bptr (BR.root 0) [.str v37, .int .i64 v38, .int .i64 v39, .bslc (BR.root 1) (.f32 v40)]]) {y : Bool} (hy : spec_l07Sheet_g v37 v38 v39 v40 = some y) : ∃ H', FnOk Try.prog 34 (DVs.av F [.bptr (BR.root 0) [.str v37, .int .i64 v38, .int .i64 v39, .bslc (BR.root 1) (.f32 v40)]]) F.H0 ((spec_l07Sheet_enc v37 v38 v39 v40 y).1.av F) H' ∧ St F (spec_l07Sheet_enc v37 v38 v39 v40 y).2 H' ∧ (spec_l07Sheet_enc v37 v38 v39 v40 y).1.Ok F (spec_l07Sheet_enc v37 v38 v39 v40 y).2 :=
  fn_fin tok spec_l07Sheet_hO mixed Try.func34 Try.call34 (by kernel_rfl) (LoopsOk_eq (l := []) (by kernel_rfl) trivial) (spec_l07Sheet_den v37 v38 v39 v40) hy hm h0 hA
noncomputable def spec_l07Sheet_F : DFn := fun args L =>
  match args with
  | [a1] =>
    optT (cellsOf L 4 a1) fun cs0 =>
    (match cs0 with
    | [.str v37, .int .i64 v38, .int .i64 v39, a2] =>
    optT (rowF32 L a2) fun v40 =>
    .call (spec_l07Sheet_g v37 v38 v39 v40) fun y => .leaf (.bool y, L)
    | _ => .fail)
  | _ => .fail
theorem spec_l07Sheet_Fok : COk Try.prog 34 spec_l07Sheet_F true := by
  intro F L H args r L' hs ha hr
  unfold spec_l07Sheet_F at hr
  split at hr
  · rename_i a1
    obtain ⟨cs0, hcp0, hr⟩ := optT_run hr
    split at hr
    · rename_i v37 v38 v39 a2
      obtain ⟨v40, hv40, hr⟩ := optT_run hr
      simp only [Tree.run] at hr
      obtain ⟨y, hy, hr⟩ := Option.bind_eq_some_iff.1 hr
      simp only [Tree.run, Option.some.injEq, Prod.mk.injEq] at hr
      obtain ⟨rfl, rfl⟩ := hr
      exact call_ok0 hs (fun k => (([a1.av F, a2.av F] : List AV)[k]?).getD .top) [a1] [.bptr (BR.root 0) [.str v37, .int .i64 v38, .int .i64 v39, .bslc (BR.root 1) (.f32 v40)]] (fun F' h0 hi hρ => ⟨by simp [DVs.av, DV.av, BR.av, hρ], spec_l07Sheet_fn v37 v38 v39 v40 F' (by rw [hi]; rfl) (st_nil hi) ⟨bptr_ok hi (by rw [h0]; simpa [DVs.av, DV.av, BR.av, hρ] using (cellsOf_ok hs (DVs.okAt ha 0 rfl) hcp0).1) ⟨trivial, trivial, trivial, bslc_ok hi (by rw [h0, hρ]; exact rowF32_ok hs (DVs.okAt (cellsOf_ok hs (DVs.okAt ha 0 rfl) hcp0).2 3 rfl) hv40), trivial⟩, trivial⟩ hy⟩) rfl
    · cases hr
  · cases hr
/-! spec.l01Bits -/
noncomputable def spec_l01Bits_LO (v73 : Nat) : LOr := fun id e L =>
  match id with
  | _ => .fail
noncomputable def spec_l01Bits_tab : List (FuncId × DFn × Bool) := [(84, Bits32_F, true)]
theorem spec_l01Bits_hO : OrcOk Try.prog (tabD spec_l01Bits_tab) (tabM spec_l01Bits_tab) := tabD_cons Bits32_Fok (tabD_nil _)
noncomputable def spec_l01Bits_T (v73 : Nat) : Tree (Int) :=
  (.br (!feq .f32 v73 v73) (
   .leaf (2143289344 : Int)
  ) (
   (.grd (!isNan .f32 v73) <|
   .leaf (IntKind.i64.wrap (((v73 : Nat) : Int))))
  ))

noncomputable def spec_l01Bits_g (v73 : Nat) : Option (Int) := (spec_l01Bits_T v73).run
def spec_l01Bits_enc (v73 : Nat) (y : Int) : Rs := (.int .i64 y, [])
theorem spec_l01Bits_den (v73 : Nat) : (den TT (tabD spec_l01Bits_tab) (tabM spec_l01Bits_tab) (spec_l01Bits_LO v73) (codeOf Try.f62) ([.flt .f32 v73] ++ List.replicate (Try.f62.ntmps - ([.flt .f32 v73] : List DV).length) .undef) []).bind (retD TT Try.f62.results.toList 0) = (spec_l01Bits_T v73).bind fun y => .leaf (spec_l01Bits_enc v73 y) := by kernel_rfl
theorem spec_l01Bits_fn (v73 : Nat) (F : Fr) (hm : F.ids.length = 0) (h0 : St F [] F.H0) (hA : DVs.Ok F [] [.flt .f32 v73]) {y : Int} (hy : spec_l01Bits_g v73 = some y) : ∃ H', FnOk Try.prog 62 (DVs.av F [.flt .f32 v73]) F.H0 ((spec_l01Bits_enc v73 y).1.av F) H' ∧ St F (spec_l01Bits_enc v73 y).2 H' ∧ (spec_l01Bits_enc v73 y).1.Ok F (spec_l01Bits_enc v73 y).2 :=
  fn_fin tok spec_l01Bits_hO mixed Try.func62 Try.call62 (by kernel_rfl) (LoopsOk_eq (l := []) (by kernel_rfl) trivial) (spec_l01Bits_den v73) hy hm h0 hA
noncomputable def spec_l01Bits_F : DFn := fun args L =>
  match args with
  | [.flt .f32 v73] =>
    .call (spec_l01Bits_g v73) fun y => .leaf (.int .i64 y, L)
  | _ => .fail
theorem spec_l01Bits_Fok : COk Try.prog 62 spec_l01Bits_F true := by
  intro F L H args r L' hs ha hr
  unfold spec_l01Bits_F at hr
  split at hr
  · rename_i v73
    simp only [Tree.run] at hr
    obtain ⟨y, hy, hr⟩ := Option.bind_eq_some_iff.1 hr
    simp only [Tree.run, Option.some.injEq, Prod.mk.injEq] at hr
    obtain ⟨rfl, rfl⟩ := hr
    exact call_ok0 hs (fun k => (([] : List AV)[k]?).getD .top) [.flt .f32 v73] [.flt .f32 v73] (fun F' h0 hi hρ => ⟨by simp [DVs.av, DV.av, BR.av, hρ], spec_l01Bits_fn v73 F' (by rw [hi]; rfl) (st_nil hi) ⟨trivial, trivial⟩ hy⟩) rfl
  · cases hr
/-! spec.l01Check -/
noncomputable def spec_l01Check_l0_T (v83 : ByteArray) (s : Int × Int) : Tree ((Int × Int) ⊕ (Int)) :=
  (.br (decide (s.2 < ((v83.size : Nat) : Int))) (
   (.grd (inb s.2 v83.size) <|
   (.grd (!decide ((65003 : Int) = 0)) <|
   .leaf (.inl (Int.tmod (IntKind.i64.wrap ((IntKind.i64.wrap ((IntKind.i64.wrap ((863 : Int) * s.1)) + (IntKind.i64.wrap (bt v83 s.2)))) + (157 : Int))) (65003 : Int), IntKind.i64.wrap (s.2 + (1 : Int))))))
  ) (
   .leaf (.inr s.1)
  ))

noncomputable def spec_l01Check_l0_g (v83 : ByteArray) (s0 : Int × Int) : Option (Int) := whileM (fun s => (spec_l01Check_l0_T v83 s).run) s0
def spec_l01Check_l0_E (v82 : Int) (v83 : ByteArray) (s : Int × Int) : Sd := ([.int .i64 s.1, .str v83, .top, .top, .top, .int .i64 s.2, .top, .top, .top, .top, .top, .top, .top, .top, .top, .top, .top, .top, .top, .top, .top, .top], [])
def spec_l01Check_l0_X (v82 : Int) (v83 : ByteArray) (x : Int) : Out := (.normal, [.int .i64 x, .top, .top, .top, .top, .top, .top, .top, .top, .top, .top, .top, .top, .top, .top, .top, .top, .top, .top, .top, .top, .top], [])
def spec_l01Check_l0_kill : List Nat := [0, 0, 1, 1, 1, 0, 1, 1, 1, 1, 1, 1, 1, 1, 1, 1, 1, 1, 1, 1, 1, 1]
def spec_l01Check_l0_nx : Exit → List Nat
  | .exit 0 => [0, 1, 1, 1, 1, 1, 1, 1, 1, 1, 1, 1, 1, 1, 1, 1, 1, 1, 1, 1, 1, 1]
  | .ret => [1, 1, 1, 1, 0, 1, 1, 1, 1, 1, 1, 1, 1, 1, 1, 1, 1, 1, 1, 1, 1, 1]
  | _ => []
noncomputable def spec_l01Check_LO (v82 : Int) (v83 : ByteArray) : LOr := fun id e L =>
  match id with
  | 0 => .need (normA 0 spec_l01Check_l0_kill e L = some (spec_l01Check_l0_E v82 v83 ((gI (vAt e 0)), (gI (vAt e 5))))) (.call (spec_l01Check_l0_g v83 ((gI (vAt e 0)), (gI (vAt e 5)))) fun x => .leaf (spec_l01Check_l0_X v82 v83 x))
  | _ => .fail
noncomputable def spec_l01Check_tab : List (FuncId × DFn × Bool) := []
theorem spec_l01Check_hO : OrcOk Try.prog (tabD spec_l01Check_tab) (tabM spec_l01Check_tab) := tabD_nil _
theorem spec_l01Check_l0_be (v82 : Int) (v83 : ByteArray) (s : Int × Int) : bodyT TT (tabD spec_l01Check_tab) (tabM spec_l01Check_tab) (spec_l01Check_LO v82 v83) 0 spec_l01Check_l0_kill spec_l01Check_l0_nx (bodyOf Try.f63 0) 0 (spec_l01Check_l0_E v82 v83 s) = (spec_l01Check_l0_T v83 s).bind fun y => .leaf (outS (spec_l01Check_l0_E v82 v83) (spec_l01Check_l0_X v82 v83) y) := by kernel_rfl
theorem spec_l01Check_l0_ok (v82 : Int) (v83 : ByteArray) : LSound Try.prog 0 (spec_l01Check_LO v82 v83) 0 (bodyOf Try.f63 0) := by
  intro e L out h
  exact lo_ok (E := spec_l01Check_l0_E v82 v83) (gT := spec_l01Check_l0_T v83) (X := spec_l01Check_l0_X v82 v83) (s0 := ((gI (vAt e 0)), (gI (vAt e 5)))) tok spec_l01Check_hO mixed (LoopsOk_eq (l := []) (by kernel_rfl) trivial) (spec_l01Check_l0_be v82 v83) rfl (by intro x; rfl) h
noncomputable def spec_l01Check_T (v82 : Int) (v83 : ByteArray) : Tree (Int) :=
  (.need (some (spec_l01Check_l0_E v82 v83 (v82, (0 : Int))) = some (spec_l01Check_l0_E v82 v83 (v82, (0 : Int)))) <|
  (.call (spec_l01Check_l0_g v83 (v82, (0 : Int))) fun v90 =>
  .leaf v90))

noncomputable def spec_l01Check_g (v82 : Int) (v83 : ByteArray) : Option (Int) := (spec_l01Check_T v82 v83).run
def spec_l01Check_enc (v82 : Int) (v83 : ByteArray) (y : Int) : Rs := (.int .i64 y, [])
theorem spec_l01Check_den (v82 : Int) (v83 : ByteArray) : (den TT (tabD spec_l01Check_tab) (tabM spec_l01Check_tab) (spec_l01Check_LO v82 v83) (codeOf Try.f63) ([.int .i64 v82, .str v83] ++ List.replicate (Try.f63.ntmps - ([.int .i64 v82, .str v83] : List DV).length) .undef) []).bind (retD TT Try.f63.results.toList 0) = (spec_l01Check_T v82 v83).bind fun y => .leaf (spec_l01Check_enc v82 v83 y) := by kernel_rfl
theorem spec_l01Check_fn (v82 : Int) (v83 : ByteArray) (F : Fr) (hm : F.ids.length = 0) (h0 : St F [] F.H0) (hA : DVs.Ok F [] [.int .i64 v82, .str v83]) {y : Int} (hy : spec_l01Check_g v82 v83 = some y) : ∃ H', FnOk Try.prog 63 (DVs.av F [.int .i64 v82, .str v83]) F.H0 ((spec_l01Check_enc v82 v83 y).1.av F) H' ∧ St F (spec_l01Check_enc v82 v83 y).2 H' ∧ (spec_l01Check_enc v82 v83 y).1.Ok F (spec_l01Check_enc v82 v83 y).2 :=
  fn_fin tok spec_l01Check_hO mixed Try.func63 Try.call63 (by kernel_rfl) (LoopsOk_eq (l := [(0, bodyOf Try.f63 0)]) (by kernel_rfl) ⟨spec_l01Check_l0_ok v82 v83, trivial⟩) (spec_l01Check_den v82 v83) hy hm h0 hA
noncomputable def spec_l01Check_F : DFn := fun args L =>
  match args with
  | [.int .i64 v82, .str v83] =>
    .call (spec_l01Check_g v82 v83) fun y => .leaf (.int .i64 y, L)
  | _ => .fail
theorem spec_l01Check_Fok : COk Try.prog 63 spec_l01Check_F true := by
  intro F L H args r L' hs ha hr
  unfold spec_l01Check_F at hr
  split at hr
  · rename_i v82 v83
    simp only [Tree.run] at hr
    obtain ⟨y, hy, hr⟩ := Option.bind_eq_some_iff.1 hr
    simp only [Tree.run, Option.some.injEq, Prod.mk.injEq] at hr
    obtain ⟨rfl, rfl⟩ := hr
    exact call_ok0 hs (fun k => (([] : List AV)[k]?).getD .top) [.int .i64 v82, .str v83] [.int .i64 v82, .str v83] (fun F' h0 hi hρ => ⟨by simp [DVs.av, DV.av, BR.av, hρ], spec_l01Check_fn v82 v83 F' (by rw [hi]; rfl) (st_nil hi) ⟨trivial, trivial, trivial⟩ hy⟩) rfl
  · cases hr
/-! spec.l07Store -/
noncomputable def spec_l07Store_l0_T (v71 : List Nat) (s : Int × (List Int)) : Tree ((Int × (List Int)) ⊕ ((List Int))) :=
  (.br (decide (s.1 < ((v71.length : Nat) : Int))) (
   (.grd (inb s.1 v71.length) <|
   (.call (spec_l01Bits_g (nth v71 (Int.toNat s.1))) fun v80 =>
   (.grd (!decide ((256 : Int) = 0)) <|
   (.grd (!decide ((256 : Int) = 0)) <|
   (.grd (!decide ((256 : Int) = 0)) <|
   (.grd (!decide ((65536 : Int) = 0)) <|
   (.grd (!decide ((256 : Int) = 0)) <|
   (.grd (!decide ((16777216 : Int) = 0)) <|
   (.grd (fits (s.2 ++ ([IntKind.u8.wrap (Int.tmod v80 (256 : Int)), IntKind.u8.wrap (Int.tmod (IntKind.i64.wrap (Int.tdiv v80 (256 : Int))) (256 : Int)), IntKind.u8.wrap (Int.tmod (IntKind.i64.wrap (Int.tdiv v80 (65536 : Int))) (256 : Int)), IntKind.u8.wrap (IntKind.i64.wrap (Int.tdiv v80 (16777216 : Int)))] : List Int)).length) <|
   .leaf (.inl (IntKind.i64.wrap (s.1 + (1 : Int)), s.2 ++ ([IntKind.u8.wrap (Int.tmod v80 (256 : Int)), IntKind.u8.wrap (Int.tmod (IntKind.i64.wrap (Int.tdiv v80 (256 : Int))) (256 : Int)), IntKind.u8.wrap (Int.tmod (IntKind.i64.wrap (Int.tdiv v80 (65536 : Int))) (256 : Int)), IntKind.u8.wrap (IntKind.i64.wrap (Int.tdiv v80 (16777216 : Int)))] : List Int))))))))))))
  ) (
   .leaf (.inr s.2)
  ))

noncomputable def spec_l07Store_l0_g (v71 : List Nat) (s0 : Int × (List Int)) : Option ((List Int)) := whileM (fun s => (spec_l07Store_l0_T v71 s).run) s0
def spec_l07Store_l0_E (v68 : ByteArray) (v69 : Int) (v70 : Int) (v71 : List Nat) (s : Int × (List Int)) : Sd := ([.bptr (BR.root 0) [.str v68, .int .i64 v69, .int .i64 v70, .bslc (BR.root 1) (.f32 v71)], .top, .top, .own 0 0 ((s.2).length), .top, .top, .top, .top, .top, .top, .top, .top, .top, .top, .top, .top, .top, .top, .top, .top, .top, .top, .top, .top, .top, .top, .top, .top, .top, .top, .top, .top, .top, .top, .top, .top, .top, .top, .top, .top, .top, .top, .top, .top, .int .i64 ((v71.length : Nat) : Int), .int .i64 s.1, .top, .top, .top, .top, .top, .top, .top, .top, .top, .top, .top, .top, .top, .top, .top, .top, .top, .top, .top, .top, .top, .top, .top, .top, .top, .top, .top, .top, .top, .top, .top, .top, .top, .top, .top, .top, .top, .top, .top, .top, .top, .top], [.row (.u8 s.2) 0])
def spec_l07Store_l0_X (v68 : ByteArray) (v69 : Int) (v70 : Int) (v71 : List Nat) (x : (List Int)) : Out := (.normal, [.top, .top, .top, .own 0 0 ((x).length), .top, .top, .top, .top, .top, .top, .top, .top, .top, .top, .top, .top, .top, .top, .top, .top, .top, .top, .top, .top, .top, .top, .top, .top, .top, .top, .top, .top, .top, .top, .top, .top, .top, .top, .top, .top, .top, .top, .top, .top, .top, .top, .top, .top, .top, .top, .top, .top, .top, .top, .top, .top, .top, .top, .top, .top, .top, .top, .top, .top, .top, .top, .top, .top, .top, .top, .top, .top, .top, .top, .top, .top, .top, .top, .top, .top, .top, .top, .top, .top, .top, .top, .top, .top], [.row (.u8 x) 0])
def spec_l07Store_l0_kill : List Nat := [0, 1, 1, 0, 1, 1, 1, 1, 1, 1, 1, 1, 1, 1, 1, 1, 1, 1, 1, 1, 1, 1, 1, 1, 1, 1, 1, 1, 1, 1, 1, 1, 1, 1, 1, 1, 1, 1, 1, 1, 1, 1, 1, 1, 0, 0, 1, 1, 1, 1, 1, 1, 1, 1, 1, 1, 1, 1, 1, 1, 1, 1, 1, 1, 1, 1, 1, 1, 1, 1, 1, 1, 1, 1, 1, 1, 1, 1, 1, 1, 1, 1, 1, 1, 1, 1, 1, 1]
def spec_l07Store_l0_nx : Exit → List Nat
  | .exit 0 => [1, 1, 1, 0, 1, 1, 1, 1, 1, 1, 1, 1, 1, 1, 1, 1, 1, 1, 1, 1, 1, 1, 1, 1, 1, 1, 1, 1, 1, 1, 1, 1, 1, 1, 1, 1, 1, 1, 1, 1, 1, 1, 1, 1, 1, 1, 1, 1, 1, 1, 1, 1, 1, 1, 1, 1, 1, 1, 1, 1, 1, 1, 1, 1, 1, 1, 1, 1, 1, 1, 1, 1, 1, 1, 1, 1, 1, 1, 1, 1, 1, 1, 1, 1, 1, 1, 1, 1]
  | .ret => [1, 1, 0, 1, 1, 1, 1, 1, 1, 1, 1, 1, 1, 1, 1, 1, 1, 1, 1, 1, 1, 1, 1, 1, 1, 1, 1, 1, 1, 1, 1, 1, 1, 1, 1, 1, 1, 1, 1, 1, 1, 1, 1, 1, 1, 1, 1, 1, 1, 1, 1, 1, 1, 1, 1, 1, 1, 1, 1, 1, 1, 1, 1, 1, 1, 1, 1, 1, 1, 1, 1, 1, 1, 1, 1, 1, 1, 1, 1, 1, 1, 1, 1, 1, 1, 1, 1, 1]
  | _ => []
noncomputable def spec_l07Store_LO (v68 : ByteArray) (v69 : Int) (v70 : Int) (v71 : List Nat) : LOr := fun id e L =>
  match id with
  | 0 => .need (normA 0 spec_l07Store_l0_kill e L = some (spec_l07Store_l0_E v68 v69 v70 v71 ((gI (vAt e 45)), (gRI L (vAt e 3))))) (.call (spec_l07Store_l0_g v71 ((gI (vAt e 45)), (gRI L (vAt e 3)))) fun x => .leaf (spec_l07Store_l0_X v68 v69 v70 v71 x))
  | _ => .fail
noncomputable def spec_l07Store_tab : List (FuncId × DFn × Bool) := [(62, spec_l01Bits_F, true), (63, spec_l01Check_F, true)]
theorem spec_l07Store_hO : OrcOk Try.prog (tabD spec_l07Store_tab) (tabM spec_l07Store_tab) := tabD_cons spec_l01Bits_Fok (tabD_cons spec_l01Check_Fok (tabD_nil _))
theorem spec_l07Store_l0_be (v68 : ByteArray) (v69 : Int) (v70 : Int) (v71 : List Nat) (s : Int × (List Int)) : bodyT TT (tabD spec_l07Store_tab) (tabM spec_l07Store_tab) (spec_l07Store_LO v68 v69 v70 v71) 0 spec_l07Store_l0_kill spec_l07Store_l0_nx (bodyOf Try.f35 0) 0 (spec_l07Store_l0_E v68 v69 v70 v71 s) = (spec_l07Store_l0_T v71 s).bind fun y => .leaf (outS (spec_l07Store_l0_E v68 v69 v70 v71) (spec_l07Store_l0_X v68 v69 v70 v71) y) := by kernel_rfl
theorem spec_l07Store_l0_ok (v68 : ByteArray) (v69 : Int) (v70 : Int) (v71 : List Nat) : LSound Try.prog 0 (spec_l07Store_LO v68 v69 v70 v71) 0 (bodyOf Try.f35 0) := by
  intro e L out h
  exact lo_ok (E := spec_l07Store_l0_E v68 v69 v70 v71) (gT := spec_l07Store_l0_T v71) (X := spec_l07Store_l0_X v68 v69 v70 v71) (s0 := ((gI (vAt e 45)), (gRI L (vAt e 3)))) tok spec_l07Store_hO mixed (LoopsOk_eq (l := []) (by kernel_rfl) trivial) (spec_l07Store_l0_be v68 v69 v70 v71) rfl (by intro x; rfl) h
noncomputable def spec_l07Store_T (v68 : ByteArray) (v69 : Int) (v70 : Int) (v71 : List Nat) : Tree (ByteArray) :=
  (.grd (decide (0 < (([(77 : Int), (65 : Int), (84 : Int), (49 : Int)] : List Int).length))) <|
  (.grd (fits (([(77 : Int), (65 : Int), (84 : Int), (49 : Int)] : List Int) ++ ([IntKind.u8.wrap (((v68.size : Nat) : Int))] : List Int)).length) <|
  (.grd (fits v68.size) <|
  (.grd (fits ((([(77 : Int), (65 : Int), (84 : Int), (49 : Int)] : List Int) ++ ([IntKind.u8.wrap (((v68.size : Nat) : Int))] : List Int)) ++ (numsS v68)).length) <|
  (.grd (fits (((([(77 : Int), (65 : Int), (84 : Int), (49 : Int)] : List Int) ++ ([IntKind.u8.wrap (((v68.size : Nat) : Int))] : List Int)) ++ (numsS v68)) ++ ([IntKind.u8.wrap (v69), IntKind.u8.wrap (v70)] : List Int)).length) <|
  (.need (some (spec_l07Store_l0_E v68 v69 v70 v71 ((0 : Int), ((([(77 : Int), (65 : Int), (84 : Int), (49 : Int)] : List Int) ++ ([IntKind.u8.wrap (((v68.size : Nat) : Int))] : List Int)) ++ (numsS v68)) ++ ([IntKind.u8.wrap (v69), IntKind.u8.wrap (v70)] : List Int))) = some (spec_l07Store_l0_E v68 v69 v70 v71 ((0 : Int), ((([(77 : Int), (65 : Int), (84 : Int), (49 : Int)] : List Int) ++ ([IntKind.u8.wrap (((v68.size : Nat) : Int))] : List Int)) ++ (numsS v68)) ++ ([IntKind.u8.wrap (v69), IntKind.u8.wrap (v70)] : List Int)))) <|
  (.call (spec_l07Store_l0_g v71 ((0 : Int), ((([(77 : Int), (65 : Int), (84 : Int), (49 : Int)] : List Int) ++ ([IntKind.u8.wrap (((v68.size : Nat) : Int))] : List Int)) ++ (numsS v68)) ++ ([IntKind.u8.wrap (v69), IntKind.u8.wrap (v70)] : List Int))) fun v81 =>
  (.call (spec_l01Check_g (0 : Int) (strOfNums v81)) fun v91 =>
  (.grd (!decide ((256 : Int) = 0)) <|
  (.grd (!decide ((256 : Int) = 0)) <|
  (.grd (fits (v81 ++ ([IntKind.u8.wrap (Int.tmod v91 (256 : Int)), IntKind.u8.wrap (IntKind.i64.wrap (Int.tdiv v91 (256 : Int)))] : List Int)).length) <|
  .leaf (strOfNums (v81 ++ ([IntKind.u8.wrap (Int.tmod v91 (256 : Int)), IntKind.u8.wrap (IntKind.i64.wrap (Int.tdiv v91 (256 : Int)))] : List Int))))))))))))))

noncomputable def spec_l07Store_g (v68 : ByteArray) (v69 : Int) (v70 : Int) (v71 : List Nat) : Option (ByteArray) := (spec_l07Store_T v68 v69 v70 v71).run
def spec_l07Store_enc (v68 : ByteArray) (v69 : Int) (v70 : Int) (v71 : List Nat) (y : ByteArray) : Rs := (.str y, [])
theorem spec_l07Store_den (v68 : ByteArray) (v69 : Int) (v70 : Int) (v71 : List Nat) : (den TT (tabD spec_l07Store_tab) (tabM spec_l07Store_tab) (spec_l07Store_LO v68 v69 v70 v71) (codeOf Try.f35) ([.bptr (BR.root 0) [.str v68, .int .i64 v69, .int .i64 v70, .bslc (BR.root 1) (.f32 v71)]] ++ List.replicate (Try.f35.ntmps - ([.bptr (BR.root 0) [.str v68, .int .i64 v69, .int .i64 v70, .bslc (BR.root 1) (.f32 v71)]] : List DV).length) .undef) []).bind (retD TT Try.f35.results.toList 0) = (spec_l07Store_T v68 v69 v70 v71).bind fun y => .leaf (spec_l07Store_enc v68 v69 v70 v71 y) := by kernel_rfl
theorem spec_l07Store_fn (v68 : ByteArray) (v69 : Int) (v70 : Int) (v71 : List Nat) (F : Fr) (hm : F.ids.length = 0) (h0 : St F [] F.H0) (hA : DVs.Ok F [] [.bptr (BR.root 0) [.str v68, .int .i64 v69, .int .i64 v70, .bslc (BR.root 1) (.f32 v71)]]) {y : ByteArray} (hy : spec_l07Store_g v68 v69 v70 v71 = some y) : ∃ H', FnOk Try.prog 35 (DVs.av F [.bptr (BR.root 0) [.str v68, .int .i64 v69, .int .i64 v70, .bslc (BR.root 1) (.f32 v71)]]) F.H0 ((spec_l07Store_enc v68 v69 v70 v71 y).1.av F) H' ∧ St F (spec_l07Store_enc v68 v69 v70 v71 y).2 H' ∧ (spec_l07Store_enc v68 v69 v70 v71 y).1.Ok F (spec_l07Store_enc v68 v69 v70 v71 y).2 :=
  fn_fin tok spec_l07Store_hO mixed Try.func35 Try.call35 (by kernel_rfl) (LoopsOk_eq (l := [(0, bodyOf Try.f35 0)]) (by kernel_rfl) ⟨spec_l07Store_l0_ok v68 v69 v70 v71, trivial⟩) (spec_l07Store_den v68 v69 v70 v71) hy hm h0 hA
noncomputable def spec_l07Store_F : DFn := fun args L =>
  match args with
  | [a1] =>
    optT (cellsOf L 4 a1) fun cs0 =>
    (match cs0 with
    | [.str v68, .int .i64 v69, .int .i64 v70, a2] =>
    optT (rowF32 L a2) fun v71 =>
    .call (spec_l07Store_g v68 v69 v70 v71) fun y => .leaf (.str y, L)
    | _ => .fail)
  | _ => .fail
theorem spec_l07Store_Fok : COk Try.prog 35 spec_l07Store_F true := by
  intro F L H args r L' hs ha hr
  unfold spec_l07Store_F at hr
  split at hr
  · rename_i a1
    obtain ⟨cs0, hcp0, hr⟩ := optT_run hr
    split at hr
    · rename_i v68 v69 v70 a2
      obtain ⟨v71, hv71, hr⟩ := optT_run hr
      simp only [Tree.run] at hr
      obtain ⟨y, hy, hr⟩ := Option.bind_eq_some_iff.1 hr
      simp only [Tree.run, Option.some.injEq, Prod.mk.injEq] at hr
      obtain ⟨rfl, rfl⟩ := hr
      exact call_ok0 hs (fun k => (([a1.av F, a2.av F] : List AV)[k]?).getD .top) [a1] [.bptr (BR.root 0) [.str v68, .int .i64 v69, .int .i64 v70, .bslc (BR.root 1) (.f32 v71)]] (fun F' h0 hi hρ => ⟨by simp [DVs.av, DV.av, BR.av, hρ], spec_l07Store_fn v68 v69 v70 v71 F' (by rw [hi]; rfl) (st_nil hi) ⟨bptr_ok hi (by rw [h0]; simpa [DVs.av, DV.av, BR.av, hρ] using (cellsOf_ok hs (DVs.okAt ha 0 rfl) hcp0).1) ⟨trivial, trivial, trivial, bslc_ok hi (by rw [h0, hρ]; exact rowF32_ok hs (DVs.okAt (cellsOf_ok hs (DVs.okAt ha 0 rfl) hcp0).2 3 rfl) hv71), trivial⟩, trivial⟩ hy⟩) rfl
    · cases hr
  · cases hr
/-! spec.StoreSheet -/
noncomputable def spec_StoreSheet_LO (v33 : ByteArray) (v34 : Int) (v35 : Int) (v36 : List Nat) : LOr := fun id e L =>
  match id with
  | _ => .fail
noncomputable def spec_StoreSheet_tab : List (FuncId × DFn × Bool) := [(34, spec_l07Sheet_F, true), (35, spec_l07Store_F, true)]
theorem spec_StoreSheet_hO : OrcOk Try.prog (tabD spec_StoreSheet_tab) (tabM spec_StoreSheet_tab) := tabD_cons spec_l07Sheet_Fok (tabD_cons spec_l07Store_Fok (tabD_nil _))
noncomputable def spec_StoreSheet_T (v33 : ByteArray) (v34 : Int) (v35 : Int) (v36 : List Nat) : Tree ((ByteArray) ⊕ (ByteArray)) :=
  (.call (spec_l07Sheet_g v33 v34 v35 v36) fun v67 =>
  (.br (!v67) (
   .leaf (.inl (ByteArray.mk #[]))
  ) (
   (.call (spec_l07Store_g v33 v34 v35 v36) fun v92 =>
   .leaf (.inr v92))
  )))

noncomputable def spec_StoreSheet_g (v33 : ByteArray) (v34 : Int) (v35 : Int) (v36 : List Nat) : Option ((ByteArray) ⊕ (ByteArray)) := (spec_StoreSheet_T v33 v34 v35 v36).run
def spec_StoreSheet_enc (v33 : ByteArray) (v34 : Int) (v35 : Int) (v36 : List Nat) (y : (ByteArray) ⊕ (ByteArray)) : Rs := (match y with | .inl y => (.tup [.str y, .lit false], []) | .inr y => (.tup [.str y, .lit true], []))
theorem spec_StoreSheet_den (v33 : ByteArray) (v34 : Int) (v35 : Int) (v36 : List Nat) : (den TT (tabD spec_StoreSheet_tab) (tabM spec_StoreSheet_tab) (spec_StoreSheet_LO v33 v34 v35 v36) (codeOf Try.f10) ([.agg [.str v33, .int .i64 v34, .int .i64 v35, .bslc (BR.root 0) (.f32 v36)]] ++ List.replicate (Try.f10.ntmps - ([.agg [.str v33, .int .i64 v34, .int .i64 v35, .bslc (BR.root 0) (.f32 v36)]] : List DV).length) .undef) []).bind (retD TT Try.f10.results.toList 0) = (spec_StoreSheet_T v33 v34 v35 v36).bind fun y => .leaf (spec_StoreSheet_enc v33 v34 v35 v36 y) := by kernel_rfl
theorem spec_StoreSheet_fn (v33 : ByteArray) (v34 : Int) (v35 : Int) (v36 : List Nat) (F : Fr) (hm : F.ids.length = 0) (h0 : St F [] F.H0) (hA : DVs.Ok F [] [.agg [.str v33, .int .i64 v34, .int .i64 v35, .bslc (BR.root 0) (.f32 v36)]]) {y : (ByteArray) ⊕ (ByteArray)} (hy : spec_StoreSheet_g v33 v34 v35 v36 = some y) : ∃ H', FnOk Try.prog 10 (DVs.av F [.agg [.str v33, .int .i64 v34, .int .i64 v35, .bslc (BR.root 0) (.f32 v36)]]) F.H0 ((spec_StoreSheet_enc v33 v34 v35 v36 y).1.av F) H' ∧ St F (spec_StoreSheet_enc v33 v34 v35 v36 y).2 H' ∧ (spec_StoreSheet_enc v33 v34 v35 v36 y).1.Ok F (spec_StoreSheet_enc v33 v34 v35 v36 y).2 :=
  fn_fin tok spec_StoreSheet_hO mixed Try.func10 Try.call10 (by kernel_rfl) (LoopsOk_eq (l := []) (by kernel_rfl) trivial) (spec_StoreSheet_den v33 v34 v35 v36) hy hm h0 hA
noncomputable def spec_StoreSheet_F : DFn := fun args L =>
  match args with
  | [.agg [.str v33, .int .i64 v34, .int .i64 v35, a1]] =>
    optT (rowF32 L a1) fun v36 =>
    .call (spec_StoreSheet_g v33 v34 v35 v36) fun y => .sum y (fun y0 => .leaf (.tup [.str y0, .lit false], L)) (fun z0 => .leaf (.tup [.str z0, .lit true], L))
  | _ => .fail
theorem spec_StoreSheet_Fok : COk Try.prog 10 spec_StoreSheet_F true := by
  intro F L H args r L' hs ha hr
  unfold spec_StoreSheet_F at hr
  split at hr
  · rename_i v33 v34 v35 a1
    obtain ⟨v36, hv36, hr⟩ := optT_run hr
    simp only [Tree.run] at hr
    obtain ⟨y, hy, hr⟩ := Option.bind_eq_some_iff.1 hr
    cases y with
    | inl y =>
      simp only [Tree.run, Option.some.injEq, Prod.mk.injEq] at hr
      obtain ⟨rfl, rfl⟩ := hr
      exact call_ok0 hs (fun k => (([a1.av F] : List AV)[k]?).getD .top) [.agg [.str v33, .int .i64 v34, .int .i64 v35, a1]] [.agg [.str v33, .int .i64 v34, .int .i64 v35, .bslc (BR.root 0) (.f32 v36)]] (fun F' h0 hi hρ => ⟨by simp [DVs.av, DV.av, BR.av, hρ], spec_StoreSheet_fn v33 v34 v35 v36 F' (by rw [hi]; rfl) (st_nil hi) ⟨⟨trivial, trivial, trivial, bslc_ok hi (by rw [h0, hρ]; exact rowF32_ok hs (DVs.okAt (DVs.okAt ha 0 rfl) 3 rfl) hv36), trivial⟩, trivial⟩ hy⟩) rfl
    | inr y =>
      simp only [Tree.run, Option.some.injEq, Prod.mk.injEq] at hr
      obtain ⟨rfl, rfl⟩ := hr
      exact call_ok0 hs (fun k => (([a1.av F] : List AV)[k]?).getD .top) [.agg [.str v33, .int .i64 v34, .int .i64 v35, a1]] [.agg [.str v33, .int .i64 v34, .int .i64 v35, .bslc (BR.root 0) (.f32 v36)]] (fun F' h0 hi hρ => ⟨by simp [DVs.av, DV.av, BR.av, hρ], spec_StoreSheet_fn v33 v34 v35 v36 F' (by rw [hi]; rfl) (st_nil hi) ⟨⟨trivial, trivial, trivial, bslc_ok hi (by rw [h0, hρ]; exact rowF32_ok hs (DVs.okAt (DVs.okAt ha 0 rfl) 3 rfl) hv36), trivial⟩, trivial⟩ hy⟩) rfl
  · cases hr
/-! impl.inRange -/
noncomputable def impl_inRange_LO (v112 : Int) (v113 : Int) (v114 : Int) : LOr := fun id e L =>
  match id with
  | _ => .fail
noncomputable def impl_inRange_tab : List (FuncId × DFn × Bool) := []
theorem impl_inRange_hO : OrcOk Try.prog (tabD impl_inRange_tab) (tabM impl_inRange_tab) := tabD_nil _
noncomputable def impl_inRange_T (v112 : Int) (v113 : Int) (v114 : Int) : Tree (Bool) :=
  (.br (decide (v113 ≤ v112)) (
   .leaf (decide (v112 ≤ v114))
  ) (
   .leaf false
  ))

noncomputable def impl_inRange_g (v112 : Int) (v113 : Int) (v114 : Int) : Option (Bool) := (impl_inRange_T v112 v113 v114).run
def impl_inRange_enc (v112 : Int) (v113 : Int) (v114 : Int) (y : Bool) : Rs := (.bool y, [])
theorem impl_inRange_den (v112 : Int) (v113 : Int) (v114 : Int) : (den TT (tabD impl_inRange_tab) (tabM impl_inRange_tab) (impl_inRange_LO v112 v113 v114) (codeOf Try.f78) ([.int .i64 v112, .int .i64 v113, .int .i64 v114] ++ List.replicate (Try.f78.ntmps - ([.int .i64 v112, .int .i64 v113, .int .i64 v114] : List DV).length) .undef) []).bind (retD TT Try.f78.results.toList 0) = (impl_inRange_T v112 v113 v114).bind fun y => .leaf (impl_inRange_enc v112 v113 v114 y) := by kernel_rfl
theorem impl_inRange_fn (v112 : Int) (v113 : Int) (v114 : Int) (F : Fr) (hm : F.ids.length = 0) (h0 : St F [] F.H0) (hA : DVs.Ok F [] [.int .i64 v112, .int .i64 v113, .int .i64 v114]) {y : Bool} (hy : impl_inRange_g v112 v113 v114 = some y) : ∃ H', FnOk Try.prog 78 (DVs.av F [.int .i64 v112, .int .i64 v113, .int .i64 v114]) F.H0 ((impl_inRange_enc v112 v113 v114 y).1.av F) H' ∧ St F (impl_inRange_enc v112 v113 v114 y).2 H' ∧ (impl_inRange_enc v112 v113 v114 y).1.Ok F (impl_inRange_enc v112 v113 v114 y).2 :=
  fn_fin tok impl_inRange_hO mixed Try.func78 Try.call78 (by kernel_rfl) (LoopsOk_eq (l := []) (by kernel_rfl) trivial) (impl_inRange_den v112 v113 v114) hy hm h0 hA
def impl_inRange_v (v112 : Int) (v113 : Int) (v114 : Int) : Bool :=
  if (decide (v113 ≤ v112)) = true then (
   decide (v112 ≤ v114)
  ) else (
   false
  )
theorem impl_inRange_tot (v112 : Int) (v113 : Int) (v114 : Int) : impl_inRange_g v112 v113 v114 = some (impl_inRange_v v112 v113 v114) := by
  unfold impl_inRange_g impl_inRange_T impl_inRange_v
  simp only [Tree.run]
  repeat' (first | rfl | split)
noncomputable def impl_inRange_F : DFn := fun args L =>
  match args with
  | [.int .i64 v112, .int .i64 v113, .int .i64 v114] =>
    .leaf (.bool (impl_inRange_v v112 v113 v114), L)
  | _ => .fail
theorem impl_inRange_Fok : COk Try.prog 78 impl_inRange_F true := by
  intro F L H args r L' hs ha hr
  unfold impl_inRange_F at hr
  split at hr
  · rename_i v112 v113 v114
    have hy := impl_inRange_tot v112 v113 v114
    generalize impl_inRange_v v112 v113 v114 = y at hy hr
    simp only [Tree.run, Option.some.injEq, Prod.mk.injEq] at hr
    obtain ⟨rfl, rfl⟩ := hr
    exact call_ok0 hs (fun k => (([] : List AV)[k]?).getD .top) [.int .i64 v112, .int .i64 v113, .int .i64 v114] [.int .i64 v112, .int .i64 v113, .int .i64 v114] (fun F' h0 hi hρ => ⟨by simp [DVs.av, DV.av, BR.av, hρ], impl_inRange_fn v112 v113 v114 F' (by rw [hi]; rfl) (st_nil hi) ⟨trivial, trivial, trivial, trivial⟩ hy⟩) rfl
  · cases hr
/-! impl.IsName -/
noncomputable def impl_IsName_l0_T (v105 : ByteArray) (s : Int) : Tree ((Int) ⊕ ((Unit) ⊕ (Unit))) :=
  (.br (decide (s < ((v105.size : Nat) : Int))) (
   (.grd (inb s v105.size) <|
   (.br (decide (bt v105 s < (97 : Int))) (
    .leaf (.inr (.inl ()))
   ) (
    (.grd (inb s v105.size) <|
    (.br (decide ((122 : Int) < bt v105 s)) (
     .leaf (.inr (.inl ()))
    ) (
     .leaf (.inl (IntKind.i64.wrap (s + (1 : Int))))
    )))
   )))
  ) (
   .leaf (.inr (.inr ()))
  ))

noncomputable def impl_IsName_l0_g (v105 : ByteArray) (s0 : Int) : Option ((Unit) ⊕ (Unit)) := whileM (fun s => (impl_IsName_l0_T v105 s).run) s0
def impl_IsName_l0_E (v105 : ByteArray) (s : Int) : Sd := ([.str v105, .top, .top, .top, .top, .int .i64 ((v105.size : Nat) : Int), .int .i64 s, .top, .top, .top, .top, .top, .top, .top, .top, .top, .top, .top, .top, .top, .top, .top, .top], [])
def impl_IsName_l0_X (v105 : ByteArray) (x : (Unit) ⊕ (Unit)) : Out := (match x with | .inl x => (.ret, [.top, .top, .lit false, .top, .top, .top, .top, .top, .top, .top, .top, .top, .top, .top, .top, .top, .top, .top, .top, .top, .top, .top, .top], []) | .inr x => (.normal, [.str v105, .top, .top, .top, .top, .top, .top, .top, .top, .top, .top, .top, .top, .top, .top, .top, .top, .top, .top, .top, .top, .top, .top], []))
def impl_IsName_l0_kill : List Nat := [0, 1, 1, 1, 1, 0, 0, 1, 1, 1, 1, 1, 1, 1, 1, 1, 1, 1, 1, 1, 1, 1, 1]
def impl_IsName_l0_nx : Exit → List Nat
  | .exit 0 => [0, 1, 1, 1, 1, 1, 1, 1, 1, 1, 1, 1, 1, 1, 1, 1, 1, 1, 1, 1, 1, 1, 1]
  | .ret => [1, 1, 0, 1, 1, 1, 1, 1, 1, 1, 1, 1, 1, 1, 1, 1, 1, 1, 1, 1, 1, 1, 1]
  | _ => []
noncomputable def impl_IsName_LO (v105 : ByteArray) : LOr := fun id e L =>
  match id with
  | 0 => .need (normA 0 impl_IsName_l0_kill e L = some (impl_IsName_l0_E v105 (gI (vAt e 6)))) (.call (impl_IsName_l0_g v105 (gI (vAt e 6))) fun x => .sum x (fun b0 => .leaf (impl_IsName_l0_X v105 (.inl b0))) (fun c0 => .leaf (impl_IsName_l0_X v105 (.inr c0))))
  | _ => .fail
noncomputable def impl_IsName_tab : List (FuncId × DFn × Bool) := [(78, impl_inRange_F, true)]
theorem impl_IsName_hO : OrcOk Try.prog (tabD impl_IsName_tab) (tabM impl_IsName_tab) := tabD_cons impl_inRange_Fok (tabD_nil _)
theorem impl_IsName_l0_be (v105 : ByteArray) (s : Int) : bodyT TT (tabD impl_IsName_tab) (tabM impl_IsName_tab) (impl_IsName_LO v105) 0 impl_IsName_l0_kill impl_IsName_l0_nx (bodyOf Try.f57 0) 0 (impl_IsName_l0_E v105 s) = (impl_IsName_l0_T v105 s).bind fun y => .leaf (outS (impl_IsName_l0_E v105) (impl_IsName_l0_X v105) y) := by kernel_rfl
theorem impl_IsName_l0_ok (v105 : ByteArray) : LSound Try.prog 0 (impl_IsName_LO v105) 0 (bodyOf Try.f57 0) := by
  intro e L out h
  exact lo_ok (E := impl_IsName_l0_E v105) (gT := impl_IsName_l0_T v105) (X := impl_IsName_l0_X v105) (s0 := (gI (vAt e 6))) tok impl_IsName_hO mixed (LoopsOk_eq (l := []) (by kernel_rfl) trivial) (impl_IsName_l0_be v105) rfl (by intro x; (cases x with | inl b => rfl | inr x => exact rfl)) h
noncomputable def impl_IsName_T (v105 : ByteArray) : Tree (Bool) :=
  (.need (some (impl_IsName_l0_E v105 (0 : Int)) = some (impl_IsName_l0_E v105 (0 : Int))) <|
  (.call (impl_IsName_l0_g v105 (0 : Int)) fun v109 =>
  (.sum v109 (fun v110 =>
   .leaf false
  ) (fun v111 =>
   .leaf (impl_inRange_v ((v105.size : Nat) : Int) (1 : Int) (8 : Int))
  ))))

noncomputable def impl_IsName_g (v105 : ByteArray) : Option (Bool) := (impl_IsName_T v105).run
def impl_IsName_enc (v105 : ByteArray) (y : Bool) : Rs := (.bool y, [])
theorem impl_IsName_den (v105 : ByteArray) : (den TT (tabD impl_IsName_tab) (tabM impl_IsName_tab) (impl_IsName_LO v105) (codeOf Try.f57) ([.str v105] ++ List.replicate (Try.f57.ntmps - ([.str v105] : List DV).length) .undef) []).bind (retD TT Try.f57.results.toList 0) = (impl_IsName_T v105).bind fun y => .leaf (impl_IsName_enc v105 y) := by kernel_rfl
theorem impl_IsName_fn (v105 : ByteArray) (F : Fr) (hm : F.ids.length = 0) (h0 : St F [] F.H0) (hA : DVs.Ok F [] [.str v105]) {y : Bool} (hy : impl_IsName_g v105 = some y) : ∃ H', FnOk Try.prog 57 (DVs.av F [.str v105]) F.H0 ((impl_IsName_enc v105 y).1.av F) H' ∧ St F (impl_IsName_enc v105 y).2 H' ∧ (impl_IsName_enc v105 y).1.Ok F (impl_IsName_enc v105 y).2 :=
  fn_fin tok impl_IsName_hO mixed Try.func57 Try.call57 (by kernel_rfl) (LoopsOk_eq (l := [(0, bodyOf Try.f57 0)]) (by kernel_rfl) ⟨impl_IsName_l0_ok v105, trivial⟩) (impl_IsName_den v105) hy hm h0 hA
noncomputable def impl_IsName_F : DFn := fun args L =>
  match args with
  | [.str v105] =>
    .call (impl_IsName_g v105) fun y => .leaf (.bool y, L)
  | _ => .fail
theorem impl_IsName_Fok : COk Try.prog 57 impl_IsName_F true := by
  intro F L H args r L' hs ha hr
  unfold impl_IsName_F at hr
  split at hr
  · rename_i v105
    simp only [Tree.run] at hr
    obtain ⟨y, hy, hr⟩ := Option.bind_eq_some_iff.1 hr
    simp only [Tree.run, Option.some.injEq, Prod.mk.injEq] at hr
    obtain ⟨rfl, rfl⟩ := hr
    exact call_ok0 hs (fun k => (([] : List AV)[k]?).getD .top) [.str v105] [.str v105] (fun F' h0 hi hρ => ⟨by simp [DVs.av, DV.av, BR.av, hρ], impl_IsName_fn v105 F' (by rw [hi]; rfl) (st_nil hi) ⟨trivial, trivial⟩ hy⟩) rfl
  · cases hr
/-! impl.isSide -/
noncomputable def impl_isSide_LO (v119 : Int) : LOr := fun id e L =>
  match id with
  | _ => .fail
noncomputable def impl_isSide_tab : List (FuncId × DFn × Bool) := [(78, impl_inRange_F, true)]
theorem impl_isSide_hO : OrcOk Try.prog (tabD impl_isSide_tab) (tabM impl_isSide_tab) := tabD_cons impl_inRange_Fok (tabD_nil _)
noncomputable def impl_isSide_T (v119 : Int) : Tree (Bool) :=
  .leaf (impl_inRange_v v119 (1 : Int) (12 : Int))

noncomputable def impl_isSide_g (v119 : Int) : Option (Bool) := (impl_isSide_T v119).run
def impl_isSide_enc (v119 : Int) (y : Bool) : Rs := (.bool y, [])
theorem impl_isSide_den (v119 : Int) : (den TT (tabD impl_isSide_tab) (tabM impl_isSide_tab) (impl_isSide_LO v119) (codeOf Try.f79) ([.int .i64 v119] ++ List.replicate (Try.f79.ntmps - ([.int .i64 v119] : List DV).length) .undef) []).bind (retD TT Try.f79.results.toList 0) = (impl_isSide_T v119).bind fun y => .leaf (impl_isSide_enc v119 y) := by kernel_rfl
theorem impl_isSide_fn (v119 : Int) (F : Fr) (hm : F.ids.length = 0) (h0 : St F [] F.H0) (hA : DVs.Ok F [] [.int .i64 v119]) {y : Bool} (hy : impl_isSide_g v119 = some y) : ∃ H', FnOk Try.prog 79 (DVs.av F [.int .i64 v119]) F.H0 ((impl_isSide_enc v119 y).1.av F) H' ∧ St F (impl_isSide_enc v119 y).2 H' ∧ (impl_isSide_enc v119 y).1.Ok F (impl_isSide_enc v119 y).2 :=
  fn_fin tok impl_isSide_hO mixed Try.func79 Try.call79 (by kernel_rfl) (LoopsOk_eq (l := []) (by kernel_rfl) trivial) (impl_isSide_den v119) hy hm h0 hA
def impl_isSide_v (v119 : Int) : Bool :=
  (impl_inRange_v v119 (1 : Int) (12 : Int))
theorem impl_isSide_tot (v119 : Int) : impl_isSide_g v119 = some (impl_isSide_v v119) := by
  unfold impl_isSide_g impl_isSide_T impl_isSide_v
  simp only [Tree.run]
  repeat' (first | rfl | split)
noncomputable def impl_isSide_F : DFn := fun args L =>
  match args with
  | [.int .i64 v119] =>
    .leaf (.bool (impl_isSide_v v119), L)
  | _ => .fail
theorem impl_isSide_Fok : COk Try.prog 79 impl_isSide_F true := by
  intro F L H args r L' hs ha hr
  unfold impl_isSide_F at hr
  split at hr
  · rename_i v119
    have hy := impl_isSide_tot v119
    generalize impl_isSide_v v119 = y at hy hr
    simp only [Tree.run, Option.some.injEq, Prod.mk.injEq] at hr
    obtain ⟨rfl, rfl⟩ := hr
    exact call_ok0 hs (fun k => (([] : List AV)[k]?).getD .top) [.int .i64 v119] [.int .i64 v119] (fun F' h0 hi hρ => ⟨by simp [DVs.av, DV.av, BR.av, hρ], impl_isSide_fn v119 F' (by rw [hi]; rfl) (st_nil hi) ⟨trivial, trivial⟩ hy⟩) rfl
  · cases hr
/-! impl.length[float32] -/
noncomputable def impl_lengthF_LO (v120 : List Nat) : LOr := fun id e L =>
  match id with
  | _ => .fail
noncomputable def impl_lengthF_tab : List (FuncId × DFn × Bool) := []
theorem impl_lengthF_hO : OrcOk Try.prog (tabD impl_lengthF_tab) (tabM impl_lengthF_tab) := tabD_nil _
noncomputable def impl_lengthF_T (v120 : List Nat) : Tree (Int) :=
  .leaf ((v120.length : Nat) : Int)

noncomputable def impl_lengthF_g (v120 : List Nat) : Option (Int) := (impl_lengthF_T v120).run
def impl_lengthF_enc (v120 : List Nat) (y : Int) : Rs := (.int .i64 y, [])
theorem impl_lengthF_den (v120 : List Nat) : (den TT (tabD impl_lengthF_tab) (tabM impl_lengthF_tab) (impl_lengthF_LO v120) (codeOf Try.f80) ([.bslc (BR.root 0) (.f32 v120)] ++ List.replicate (Try.f80.ntmps - ([.bslc (BR.root 0) (.f32 v120)] : List DV).length) .undef) []).bind (retD TT Try.f80.results.toList 0) = (impl_lengthF_T v120).bind fun y => .leaf (impl_lengthF_enc v120 y) := by kernel_rfl
theorem impl_lengthF_fn (v120 : List Nat) (F : Fr) (hm : F.ids.length = 0) (h0 : St F [] F.H0) (hA : DVs.Ok F [] [.bslc (BR.root 0) (.f32 v120)]) {y : Int} (hy : impl_lengthF_g v120 = some y) : ∃ H', FnOk Try.prog 80 (DVs.av F [.bslc (BR.root 0) (.f32 v120)]) F.H0 ((impl_lengthF_enc v120 y).1.av F) H' ∧ St F (impl_lengthF_enc v120 y).2 H' ∧ (impl_lengthF_enc v120 y).1.Ok F (impl_lengthF_enc v120 y).2 :=
  fn_fin tok impl_lengthF_hO mixed Try.func80 Try.call80 (by kernel_rfl) (LoopsOk_eq (l := []) (by kernel_rfl) trivial) (impl_lengthF_den v120) hy hm h0 hA
def impl_lengthF_v (v120 : List Nat) : Int :=
  ((v120.length : Nat) : Int)
theorem impl_lengthF_tot (v120 : List Nat) : impl_lengthF_g v120 = some (impl_lengthF_v v120) := by
  unfold impl_lengthF_g impl_lengthF_T impl_lengthF_v
  simp only [Tree.run]
  repeat' (first | rfl | split)
noncomputable def impl_lengthF_F : DFn := fun args L =>
  match args with
  | [a1] =>
    optT (rowF32 L a1) fun v120 =>
    .leaf (.int .i64 (impl_lengthF_v v120), L)
  | _ => .fail
theorem impl_lengthF_Fok : COk Try.prog 80 impl_lengthF_F true := by
  intro F L H args r L' hs ha hr
  unfold impl_lengthF_F at hr
  split at hr
  · rename_i a1
    obtain ⟨v120, hv120, hr⟩ := optT_run hr
    have hy := impl_lengthF_tot v120
    generalize impl_lengthF_v v120 = y at hy hr
    simp only [Tree.run, Option.some.injEq, Prod.mk.injEq] at hr
    obtain ⟨rfl, rfl⟩ := hr
    exact call_ok0 hs (fun k => (([a1.av F] : List AV)[k]?).getD .top) [a1] [.bslc (BR.root 0) (.f32 v120)] (fun F' h0 hi hρ => ⟨by simp [DVs.av, DV.av, BR.av, hρ], impl_lengthF_fn v120 F' (by rw [hi]; rfl) (st_nil hi) ⟨bslc_ok hi (by rw [h0, hρ]; exact rowF32_ok hs (DVs.okAt ha 0 rfl) hv120), trivial⟩ hy⟩) rfl
  · cases hr
/-! math.IsNaN -/
noncomputable def math_IsNaN_LO (v128 : Nat) : LOr := fun id e L =>
  match id with
  | _ => .fail
noncomputable def math_IsNaN_tab : List (FuncId × DFn × Bool) := []
theorem math_IsNaN_hO : OrcOk Try.prog (tabD math_IsNaN_tab) (tabM math_IsNaN_tab) := tabD_nil _
noncomputable def math_IsNaN_T (v128 : Nat) : Tree (Bool) :=
  .leaf (!feq .f64 v128 v128)

noncomputable def math_IsNaN_g (v128 : Nat) : Option (Bool) := (math_IsNaN_T v128).run
def math_IsNaN_enc (v128 : Nat) (y : Bool) : Rs := (.bool y, [])
theorem math_IsNaN_den (v128 : Nat) : (den TT (tabD math_IsNaN_tab) (tabM math_IsNaN_tab) (math_IsNaN_LO v128) (codeOf Try.f98) ([.flt .f64 v128] ++ List.replicate (Try.f98.ntmps - ([.flt .f64 v128] : List DV).length) .undef) []).bind (retD TT Try.f98.results.toList 0) = (math_IsNaN_T v128).bind fun y => .leaf (math_IsNaN_enc v128 y) := by kernel_rfl
theorem math_IsNaN_fn (v128 : Nat) (F : Fr) (hm : F.ids.length = 0) (h0 : St F [] F.H0) (hA : DVs.Ok F [] [.flt .f64 v128]) {y : Bool} (hy : math_IsNaN_g v128 = some y) : ∃ H', FnOk Try.prog 98 (DVs.av F [.flt .f64 v128]) F.H0 ((math_IsNaN_enc v128 y).1.av F) H' ∧ St F (math_IsNaN_enc v128 y).2 H' ∧ (math_IsNaN_enc v128 y).1.Ok F (math_IsNaN_enc v128 y).2 :=
  fn_fin tok math_IsNaN_hO mixed Try.func98 Try.call98 (by kernel_rfl) (LoopsOk_eq (l := []) (by kernel_rfl) trivial) (math_IsNaN_den v128) hy hm h0 hA
def math_IsNaN_v (v128 : Nat) : Bool :=
  !feq .f64 v128 v128
theorem math_IsNaN_tot (v128 : Nat) : math_IsNaN_g v128 = some (math_IsNaN_v v128) := by
  unfold math_IsNaN_g math_IsNaN_T math_IsNaN_v
  simp only [Tree.run]
  repeat' (first | rfl | split)
noncomputable def math_IsNaN_F : DFn := fun args L =>
  match args with
  | [.flt .f64 v128] =>
    .leaf (.bool (math_IsNaN_v v128), L)
  | _ => .fail
theorem math_IsNaN_Fok : COk Try.prog 98 math_IsNaN_F true := by
  intro F L H args r L' hs ha hr
  unfold math_IsNaN_F at hr
  split at hr
  · rename_i v128
    have hy := math_IsNaN_tot v128
    generalize math_IsNaN_v v128 = y at hy hr
    simp only [Tree.run, Option.some.injEq, Prod.mk.injEq] at hr
    obtain ⟨rfl, rfl⟩ := hr
    exact call_ok0 hs (fun k => (([] : List AV)[k]?).getD .top) [.flt .f64 v128] [.flt .f64 v128] (fun F' h0 hi hρ => ⟨by simp [DVs.av, DV.av, BR.av, hρ], math_IsNaN_fn v128 F' (by rw [hi]; rfl) (st_nil hi) ⟨trivial, trivial⟩ hy⟩) rfl
  · cases hr
/-! math.IsInf -/
noncomputable def math_IsInf_LO (v129 : Nat) (v130 : Int) : LOr := fun id e L =>
  match id with
  | _ => .fail
noncomputable def math_IsInf_tab : List (FuncId × DFn × Bool) := [(100, Abs_F, true)]
theorem math_IsInf_hO : OrcOk Try.prog (tabD math_IsInf_tab) (tabM math_IsInf_tab) := tabD_cons Abs_Fok (tabD_nil _)
noncomputable def math_IsInf_T (v129 : Nat) (v130 : Int) : Tree (Bool) :=
  (.br (decide (v130 = (0 : Int))) (
   .leaf (fgrt .f64 (fabs v129) (9218868437227405311 : Nat))
  ) (
   (.br (decide (v130 < (0 : Int))) (
    .leaf (fgrt .f64 (fneg .f64 v129) (9218868437227405311 : Nat))
   ) (
    .leaf (fgrt .f64 v129 (9218868437227405311 : Nat))
   ))
  ))

noncomputable def math_IsInf_g (v129 : Nat) (v130 : Int) : Option (Bool) := (math_IsInf_T v129 v130).run
def math_IsInf_enc (v129 : Nat) (v130 : Int) (y : Bool) : Rs := (.bool y, [])
theorem math_IsInf_den (v129 : Nat) (v130 : Int) : (den TT (tabD math_IsInf_tab) (tabM math_IsInf_tab) (math_IsInf_LO v129 v130) (codeOf Try.f99) ([.flt .f64 v129, .int .i64 v130] ++ List.replicate (Try.f99.ntmps - ([.flt .f64 v129, .int .i64 v130] : List DV).length) .undef) []).bind (retD TT Try.f99.results.toList 0) = (math_IsInf_T v129 v130).bind fun y => .leaf (math_IsInf_enc v129 v130 y) := by kernel_rfl
theorem math_IsInf_fn (v129 : Nat) (v130 : Int) (F : Fr) (hm : F.ids.length = 0) (h0 : St F [] F.H0) (hA : DVs.Ok F [] [.flt .f64 v129, .int .i64 v130]) {y : Bool} (hy : math_IsInf_g v129 v130 = some y) : ∃ H', FnOk Try.prog 99 (DVs.av F [.flt .f64 v129, .int .i64 v130]) F.H0 ((math_IsInf_enc v129 v130 y).1.av F) H' ∧ St F (math_IsInf_enc v129 v130 y).2 H' ∧ (math_IsInf_enc v129 v130 y).1.Ok F (math_IsInf_enc v129 v130 y).2 :=
  fn_fin tok math_IsInf_hO mixed Try.func99 Try.call99 (by kernel_rfl) (LoopsOk_eq (l := []) (by kernel_rfl) trivial) (math_IsInf_den v129 v130) hy hm h0 hA
def math_IsInf_v (v129 : Nat) (v130 : Int) : Bool :=
  if (decide (v130 = (0 : Int))) = true then (
   fgrt .f64 (fabs v129) (9218868437227405311 : Nat)
  ) else (
   if (decide (v130 < (0 : Int))) = true then (
    fgrt .f64 (fneg .f64 v129) (9218868437227405311 : Nat)
   ) else (
    fgrt .f64 v129 (9218868437227405311 : Nat)
   )
  )
theorem math_IsInf_tot (v129 : Nat) (v130 : Int) : math_IsInf_g v129 v130 = some (math_IsInf_v v129 v130) := by
  unfold math_IsInf_g math_IsInf_T math_IsInf_v
  simp only [Tree.run]
  repeat' (first | rfl | split)
noncomputable def math_IsInf_F : DFn := fun args L =>
  match args with
  | [.flt .f64 v129, .int .i64 v130] =>
    .leaf (.bool (math_IsInf_v v129 v130), L)
  | _ => .fail
theorem math_IsInf_Fok : COk Try.prog 99 math_IsInf_F true := by
  intro F L H args r L' hs ha hr
  unfold math_IsInf_F at hr
  split at hr
  · rename_i v129 v130
    have hy := math_IsInf_tot v129 v130
    generalize math_IsInf_v v129 v130 = y at hy hr
    simp only [Tree.run, Option.some.injEq, Prod.mk.injEq] at hr
    obtain ⟨rfl, rfl⟩ := hr
    exact call_ok0 hs (fun k => (([] : List AV)[k]?).getD .top) [.flt .f64 v129, .int .i64 v130] [.flt .f64 v129, .int .i64 v130] (fun F' h0 hi hρ => ⟨by simp [DVs.av, DV.av, BR.av, hρ], math_IsInf_fn v129 v130 F' (by rw [hi]; rfl) (st_nil hi) ⟨trivial, trivial, trivial⟩ hy⟩) rfl
  · cases hr
/-! impl.isFinite64 -/
noncomputable def impl_isFinite64_LO (v127 : Nat) : LOr := fun id e L =>
  match id with
  | _ => .fail
noncomputable def impl_isFinite64_tab : List (FuncId × DFn × Bool) := [(98, math_IsNaN_F, true), (99, math_IsInf_F, true)]
theorem impl_isFinite64_hO : OrcOk Try.prog (tabD impl_isFinite64_tab) (tabM impl_isFinite64_tab) := tabD_cons math_IsNaN_Fok (tabD_cons math_IsInf_Fok (tabD_nil _))
noncomputable def impl_isFinite64_T (v127 : Nat) : Tree (Bool) :=
  (.br (!(math_IsNaN_v v127)) (
   .leaf (!(math_IsInf_v v127 (0 : Int)))
  ) (
   .leaf false
  ))

noncomputable def impl_isFinite64_g (v127 : Nat) : Option (Bool) := (impl_isFinite64_T v127).run
def impl_isFinite64_enc (v127 : Nat) (y : Bool) : Rs := (.bool y, [])
theorem impl_isFinite64_den (v127 : Nat) : (den TT (tabD impl_isFinite64_tab) (tabM impl_isFinite64_tab) (impl_isFinite64_LO v127) (codeOf Try.f96) ([.flt .f64 v127] ++ List.replicate (Try.f96.ntmps - ([.flt .f64 v127] : List DV).length) .undef) []).bind (retD TT Try.f96.results.toList 0) = (impl_isFinite64_T v127).bind fun y => .leaf (impl_isFinite64_enc v127 y) := by kernel_rfl
theorem impl_isFinite64_fn (v127 : Nat) (F : Fr) (hm : F.ids.length = 0) (h0 : St F [] F.H0) (hA : DVs.Ok F [] [.flt .f64 v127]) {y : Bool} (hy : impl_isFinite64_g v127 = some y) : ∃ H', FnOk Try.prog 96 (DVs.av F [.flt .f64 v127]) F.H0 ((impl_isFinite64_enc v127 y).1.av F) H' ∧ St F (impl_isFinite64_enc v127 y).2 H' ∧ (impl_isFinite64_enc v127 y).1.Ok F (impl_isFinite64_enc v127 y).2 :=
  fn_fin tok impl_isFinite64_hO mixed Try.func96 Try.call96 (by kernel_rfl) (LoopsOk_eq (l := []) (by kernel_rfl) trivial) (impl_isFinite64_den v127) hy hm h0 hA
def impl_isFinite64_v (v127 : Nat) : Bool :=
  if (!(math_IsNaN_v v127)) = true then (
   !(math_IsInf_v v127 (0 : Int))
  ) else (
   false
  )
theorem impl_isFinite64_tot (v127 : Nat) : impl_isFinite64_g v127 = some (impl_isFinite64_v v127) := by
  unfold impl_isFinite64_g impl_isFinite64_T impl_isFinite64_v
  simp only [Tree.run]
  repeat' (first | rfl | split)
noncomputable def impl_isFinite64_F : DFn := fun args L =>
  match args with
  | [.flt .f64 v127] =>
    .leaf (.bool (impl_isFinite64_v v127), L)
  | _ => .fail
theorem impl_isFinite64_Fok : COk Try.prog 96 impl_isFinite64_F true := by
  intro F L H args r L' hs ha hr
  unfold impl_isFinite64_F at hr
  split at hr
  · rename_i v127
    have hy := impl_isFinite64_tot v127
    generalize impl_isFinite64_v v127 = y at hy hr
    simp only [Tree.run, Option.some.injEq, Prod.mk.injEq] at hr
    obtain ⟨rfl, rfl⟩ := hr
    exact call_ok0 hs (fun k => (([] : List AV)[k]?).getD .top) [.flt .f64 v127] [.flt .f64 v127] (fun F' h0 hi hρ => ⟨by simp [DVs.av, DV.av, BR.av, hρ], impl_isFinite64_fn v127 F' (by rw [hi]; rfl) (st_nil hi) ⟨trivial, trivial⟩ hy⟩) rfl
  · cases hr
/-! impl.IsFinite -/
noncomputable def impl_IsFinite_LO (v126 : Nat) : LOr := fun id e L =>
  match id with
  | _ => .fail
noncomputable def impl_IsFinite_tab : List (FuncId × DFn × Bool) := [(96, impl_isFinite64_F, true)]
theorem impl_IsFinite_hO : OrcOk Try.prog (tabD impl_IsFinite_tab) (tabM impl_IsFinite_tab) := tabD_cons impl_isFinite64_Fok (tabD_nil _)
noncomputable def impl_IsFinite_T (v126 : Nat) : Tree (Bool) :=
  .leaf (impl_isFinite64_v (wid v126))

noncomputable def impl_IsFinite_g (v126 : Nat) : Option (Bool) := (impl_IsFinite_T v126).run
def impl_IsFinite_enc (v126 : Nat) (y : Bool) : Rs := (.bool y, [])
theorem impl_IsFinite_den (v126 : Nat) : (den TT (tabD impl_IsFinite_tab) (tabM impl_IsFinite_tab) (impl_IsFinite_LO v126) (codeOf Try.f91) ([.flt .f32 v126] ++ List.replicate (Try.f91.ntmps - ([.flt .f32 v126] : List DV).length) .undef) []).bind (retD TT Try.f91.results.toList 0) = (impl_IsFinite_T v126).bind fun y => .leaf (impl_IsFinite_enc v126 y) := by kernel_rfl
theorem impl_IsFinite_fn (v126 : Nat) (F : Fr) (hm : F.ids.length = 0) (h0 : St F [] F.H0) (hA : DVs.Ok F [] [.flt .f32 v126]) {y : Bool} (hy : impl_IsFinite_g v126 = some y) : ∃ H', FnOk Try.prog 91 (DVs.av F [.flt .f32 v126]) F.H0 ((impl_IsFinite_enc v126 y).1.av F) H' ∧ St F (impl_IsFinite_enc v126 y).2 H' ∧ (impl_IsFinite_enc v126 y).1.Ok F (impl_IsFinite_enc v126 y).2 :=
  fn_fin tok impl_IsFinite_hO mixed Try.func91 Try.call91 (by kernel_rfl) (LoopsOk_eq (l := []) (by kernel_rfl) trivial) (impl_IsFinite_den v126) hy hm h0 hA
def impl_IsFinite_v (v126 : Nat) : Bool :=
  (impl_isFinite64_v (wid v126))
theorem impl_IsFinite_tot (v126 : Nat) : impl_IsFinite_g v126 = some (impl_IsFinite_v v126) := by
  unfold impl_IsFinite_g impl_IsFinite_T impl_IsFinite_v
  simp only [Tree.run]
  repeat' (first | rfl | split)
noncomputable def impl_IsFinite_F : DFn := fun args L =>
  match args with
  | [.flt .f32 v126] =>
    .leaf (.bool (impl_IsFinite_v v126), L)
  | _ => .fail
theorem impl_IsFinite_Fok : COk Try.prog 91 impl_IsFinite_F true := by
  intro F L H args r L' hs ha hr
  unfold impl_IsFinite_F at hr
  split at hr
  · rename_i v126
    have hy := impl_IsFinite_tot v126
    generalize impl_IsFinite_v v126 = y at hy hr
    simp only [Tree.run, Option.some.injEq, Prod.mk.injEq] at hr
    obtain ⟨rfl, rfl⟩ := hr
    exact call_ok0 hs (fun k => (([] : List AV)[k]?).getD .top) [.flt .f32 v126] [.flt .f32 v126] (fun F' h0 hi hρ => ⟨by simp [DVs.av, DV.av, BR.av, hρ], impl_IsFinite_fn v126 F' (by rw [hi]; rfl) (st_nil hi) ⟨trivial, trivial⟩ hy⟩) rfl
  · cases hr
/-! impl.areFinite$1 -/
noncomputable def impl_areFinite_1_LO (v125 : Nat) : LOr := fun id e L =>
  match id with
  | _ => .fail
noncomputable def impl_areFinite_1_tab : List (FuncId × DFn × Bool) := [(91, impl_IsFinite_F, true)]
theorem impl_areFinite_1_hO : OrcOk Try.prog (tabD impl_areFinite_1_tab) (tabM impl_areFinite_1_tab) := tabD_cons impl_IsFinite_Fok (tabD_nil _)
noncomputable def impl_areFinite_1_T (v125 : Nat) : Tree (Bool) :=
  .leaf (!(impl_IsFinite_v v125))

noncomputable def impl_areFinite_1_g (v125 : Nat) : Option (Bool) := (impl_areFinite_1_T v125).run
def impl_areFinite_1_enc (v125 : Nat) (y : Bool) : Rs := (.bool y, [])
theorem impl_areFinite_1_den (v125 : Nat) : (den TT (tabD impl_areFinite_1_tab) (tabM impl_areFinite_1_tab) (impl_areFinite_1_LO v125) (codeOf Try.f90) ([.flt .f32 v125] ++ List.replicate (Try.f90.ntmps - ([.flt .f32 v125] : List DV).length) .undef) []).bind (retD TT Try.f90.results.toList 0) = (impl_areFinite_1_T v125).bind fun y => .leaf (impl_areFinite_1_enc v125 y) := by kernel_rfl
theorem impl_areFinite_1_fn (v125 : Nat) (F : Fr) (hm : F.ids.length = 0) (h0 : St F [] F.H0) (hA : DVs.Ok F [] [.flt .f32 v125]) {y : Bool} (hy : impl_areFinite_1_g v125 = some y) : ∃ H', FnOk Try.prog 90 (DVs.av F [.flt .f32 v125]) F.H0 ((impl_areFinite_1_enc v125 y).1.av F) H' ∧ St F (impl_areFinite_1_enc v125 y).2 H' ∧ (impl_areFinite_1_enc v125 y).1.Ok F (impl_areFinite_1_enc v125 y).2 :=
  fn_fin tok impl_areFinite_1_hO mixed Try.func90 Try.call90 (by kernel_rfl) (LoopsOk_eq (l := []) (by kernel_rfl) trivial) (impl_areFinite_1_den v125) hy hm h0 hA
def impl_areFinite_1_v (v125 : Nat) : Bool :=
  !(impl_IsFinite_v v125)
theorem impl_areFinite_1_tot (v125 : Nat) : impl_areFinite_1_g v125 = some (impl_areFinite_1_v v125) := by
  unfold impl_areFinite_1_g impl_areFinite_1_T impl_areFinite_1_v
  simp only [Tree.run]
  repeat' (first | rfl | split)
noncomputable def impl_areFinite_1_F : DFn := fun args L =>
  match args with
  | [.flt .f32 v125] =>
    .leaf (.bool (impl_areFinite_1_v v125), L)
  | _ => .fail
theorem impl_areFinite_1_Fok : COk Try.prog 90 impl_areFinite_1_F true := by
  intro F L H args r L' hs ha hr
  unfold impl_areFinite_1_F at hr
  split at hr
  · rename_i v125
    have hy := impl_areFinite_1_tot v125
    generalize impl_areFinite_1_v v125 = y at hy hr
    simp only [Tree.run, Option.some.injEq, Prod.mk.injEq] at hr
    obtain ⟨rfl, rfl⟩ := hr
    exact call_ok0 hs (fun k => (([] : List AV)[k]?).getD .top) [.flt .f32 v125] [.flt .f32 v125] (fun F' h0 hi hρ => ⟨by simp [DVs.av, DV.av, BR.av, hρ], impl_areFinite_1_fn v125 F' (by rw [hi]; rfl) (st_nil hi) ⟨trivial, trivial⟩ hy⟩) rfl
  · cases hr
/-! slices.IndexFunc[list of float32,float32] -/
noncomputable def slices_IndexFuncF_l0_T (v123 : List Nat) (s : Int) : Tree ((Int) ⊕ ((Int) ⊕ (Unit))) :=
  (.br (decide (s < ((v123.length : Nat) : Int))) (
   (.grd (inb s v123.length) <|
   (.br (impl_areFinite_1_v (nth v123 (Int.toNat s))) (
    .leaf (.inr (.inl s))
   ) (
    .leaf (.inl (IntKind.i64.wrap (s + (1 : Int))))
   )))
  ) (
   .leaf (.inr (.inr ()))
  ))

noncomputable def slices_IndexFuncF_l0_g (v123 : List Nat) (s0 : Int) : Option ((Int) ⊕ (Unit)) := whileM (fun s => (slices_IndexFuncF_l0_T v123 s).run) s0
def slices_IndexFuncF_l0_E (v123 : List Nat) (s : Int) : Sd := ([.bslc (BR.root 0) (.f32 v123), .fn 90 [], .top, .top, .top, .top, .top, .int .i64 ((v123.length : Nat) : Int), .int .i64 s, .top, .top, .top, .top, .top, .top, .top, .top, .top, .top], [])
def slices_IndexFuncF_l0_X (v123 : List Nat) (x : (Int) ⊕ (Unit)) : Out := (match x with | .inl x => (.ret, [.top, .top, .top, .top, .int .i64 x, .top, .top, .top, .top, .top, .top, .top, .top, .top, .top, .top, .top, .top, .top], []) | .inr x => (.normal, [.top, .top, .top, .top, .top, .top, .top, .top, .top, .top, .top, .top, .top, .top, .top, .top, .top, .top, .top], []))
def slices_IndexFuncF_l0_kill : List Nat := [0, 0, 1, 1, 1, 1, 1, 0, 0, 1, 1, 1, 1, 1, 1, 1, 1, 1, 1]
def slices_IndexFuncF_l0_nx : Exit → List Nat
  | .exit 0 => [1, 1, 1, 1, 1, 1, 1, 1, 1, 1, 1, 1, 1, 1, 1, 1, 1, 1, 1]
  | .ret => [1, 1, 1, 1, 0, 1, 1, 1, 1, 1, 1, 1, 1, 1, 1, 1, 1, 1, 1]
  | _ => []
noncomputable def slices_IndexFuncF_LO (v123 : List Nat) : LOr := fun id e L =>
  match id with
  | 0 => .need (normA 0 slices_IndexFuncF_l0_kill e L = some (slices_IndexFuncF_l0_E v123 (gI (vAt e 8)))) (.call (slices_IndexFuncF_l0_g v123 (gI (vAt e 8))) fun x => .sum x (fun b0 => .leaf (slices_IndexFuncF_l0_X v123 (.inl b0))) (fun c0 => .leaf (slices_IndexFuncF_l0_X v123 (.inr c0))))
  | _ => .fail
noncomputable def slices_IndexFuncF_tab : List (FuncId × DFn × Bool) := [(90, impl_areFinite_1_F, true)]
theorem slices_IndexFuncF_hO : OrcOk Try.prog (tabD slices_IndexFuncF_tab) (tabM slices_IndexFuncF_tab) := tabD_cons impl_areFinite_1_Fok (tabD_nil _)
theorem slices_IndexFuncF_l0_be (v123 : List Nat) (s : Int) : bodyT TT (tabD slices_IndexFuncF_tab) (tabM slices_IndexFuncF_tab) (slices_IndexFuncF_LO v123) 0 slices_IndexFuncF_l0_kill slices_IndexFuncF_l0_nx (bodyOf Try.f95 0) 0 (slices_IndexFuncF_l0_E v123 s) = (slices_IndexFuncF_l0_T v123 s).bind fun y => .leaf (outS (slices_IndexFuncF_l0_E v123) (slices_IndexFuncF_l0_X v123) y) := by kernel_rfl
theorem slices_IndexFuncF_l0_ok (v123 : List Nat) : LSound Try.prog 0 (slices_IndexFuncF_LO v123) 0 (bodyOf Try.f95 0) := by
  intro e L out h
  exact lo_ok (E := slices_IndexFuncF_l0_E v123) (gT := slices_IndexFuncF_l0_T v123) (X := slices_IndexFuncF_l0_X v123) (s0 := (gI (vAt e 8))) tok slices_IndexFuncF_hO mixed (LoopsOk_eq (l := []) (by kernel_rfl) trivial) (slices_IndexFuncF_l0_be v123) rfl (by intro x; (cases x with | inl b => rfl | inr x => exact rfl)) h
noncomputable def slices_IndexFuncF_T (v123 : List Nat) : Tree (Int) :=
  (.need (some (slices_IndexFuncF_l0_E v123 (0 : Int)) = some (slices_IndexFuncF_l0_E v123 (0 : Int))) <|
  (.call (slices_IndexFuncF_l0_g v123 (0 : Int)) fun v133 =>
  (.sum v133 (fun v134 =>
   .leaf v134
  ) (fun v135 =>
   .leaf (-1 : Int)
  ))))

noncomputable def slices_IndexFuncF_g (v123 : List Nat) : Option (Int) := (slices_IndexFuncF_T v123).run
def slices_IndexFuncF_enc (v123 : List Nat) (y : Int) : Rs := (.int .i64 y, [])
theorem slices_IndexFuncF_den (v123 : List Nat) : (den TT (tabD slices_IndexFuncF_tab) (tabM slices_IndexFuncF_tab) (slices_IndexFuncF_LO v123) (codeOf Try.f95) ([.bslc (BR.root 0) (.f32 v123), .fn 90 []] ++ List.replicate (Try.f95.ntmps - ([.bslc (BR.root 0) (.f32 v123), .fn 90 []] : List DV).length) .undef) []).bind (retD TT Try.f95.results.toList 0) = (slices_IndexFuncF_T v123).bind fun y => .leaf (slices_IndexFuncF_enc v123 y) := by kernel_rfl
theorem slices_IndexFuncF_fn (v123 : List Nat) (F : Fr) (hm : F.ids.length = 0) (h0 : St F [] F.H0) (hA : DVs.Ok F [] [.bslc (BR.root 0) (.f32 v123), .fn 90 []]) {y : Int} (hy : slices_IndexFuncF_g v123 = some y) : ∃ H', FnOk Try.prog 95 (DVs.av F [.bslc (BR.root 0) (.f32 v123), .fn 90 []]) F.H0 ((slices_IndexFuncF_enc v123 y).1.av F) H' ∧ St F (slices_IndexFuncF_enc v123 y).2 H' ∧ (slices_IndexFuncF_enc v123 y).1.Ok F (slices_IndexFuncF_enc v123 y).2 :=
  fn_fin tok slices_IndexFuncF_hO mixed Try.func95 Try.call95 (by kernel_rfl) (LoopsOk_eq (l := [(0, bodyOf Try.f95 0)]) (by kernel_rfl) ⟨slices_IndexFuncF_l0_ok v123, trivial⟩) (slices_IndexFuncF_den v123) hy hm h0 hA
noncomputable def slices_IndexFuncF_F : DFn := fun args L =>
  match args with
  | [a1, .fn 90 []] =>
    optT (rowF32 L a1) fun v123 =>
    .call (slices_IndexFuncF_g v123) fun y => .leaf (.int .i64 y, L)
  | _ => .fail
theorem slices_IndexFuncF_Fok : COk Try.prog 95 slices_IndexFuncF_F true := by
  intro F L H args r L' hs ha hr
  unfold slices_IndexFuncF_F at hr
  split at hr
  · rename_i a1
    obtain ⟨v123, hv123, hr⟩ := optT_run hr
    simp only [Tree.run] at hr
    obtain ⟨y, hy, hr⟩ := Option.bind_eq_some_iff.1 hr
    simp only [Tree.run, Option.some.injEq, Prod.mk.injEq] at hr
    obtain ⟨rfl, rfl⟩ := hr
    exact call_ok0 hs (fun k => (([a1.av F] : List AV)[k]?).getD .top) [a1, .fn 90 []] [.bslc (BR.root 0) (.f32 v123), .fn 90 []] (fun F' h0 hi hρ => ⟨by simp [DVs.av, DV.av, BR.av, hρ], slices_IndexFuncF_fn v123 F' (by rw [hi]; rfl) (st_nil hi) ⟨bslc_ok hi (by rw [h0, hρ]; exact rowF32_ok hs (DVs.okAt ha 0 rfl) hv123), trivial, trivial⟩ hy⟩) rfl
  · cases hr
/-! slices.ContainsFunc[list of float32,float32] -/
noncomputable def slices_ContainsFuncF_LO (v122 : List Nat) : LOr := fun id e L =>
  match id with
  | _ => .fail
noncomputable def slices_ContainsFuncF_tab : List (FuncId × DFn × Bool) := [(95, slices_IndexFuncF_F, true)]
theorem slices_ContainsFuncF_hO : OrcOk Try.prog (tabD slices_ContainsFuncF_tab) (tabM slices_ContainsFuncF_tab) := tabD_cons slices_IndexFuncF_Fok (tabD_nil _)
noncomputable def slices_ContainsFuncF_T (v122 : List Nat) : Tree (Bool) :=
  (.call (slices_IndexFuncF_g v122) fun v136 =>
  .leaf (decide ((0 : Int) ≤ v136)))

noncomputable def slices_ContainsFuncF_g (v122 : List Nat) : Option (Bool) := (slices_ContainsFuncF_T v122).run
def slices_ContainsFuncF_enc (v122 : List Nat) (y : Bool) : Rs := (.bool y, [])
theorem slices_ContainsFuncF_den (v122 : List Nat) : (den TT (tabD slices_ContainsFuncF_tab) (tabM slices_ContainsFuncF_tab) (slices_ContainsFuncF_LO v122) (codeOf Try.f89) ([.bslc (BR.root 0) (.f32 v122), .fn 90 []] ++ List.replicate (Try.f89.ntmps - ([.bslc (BR.root 0) (.f32 v122), .fn 90 []] : List DV).length) .undef) []).bind (retD TT Try.f89.results.toList 0) = (slices_ContainsFuncF_T v122).bind fun y => .leaf (slices_ContainsFuncF_enc v122 y) := by kernel_rfl
theorem slices_ContainsFuncF_fn (v122 : List Nat) (F : Fr) (hm : F.ids.length = 0) (h0 : St F [] F.H0) (hA : DVs.Ok F [] [.bslc (BR.root 0) (.f32 v122), .fn 90 []]) {y : Bool} (hy : slices_ContainsFuncF_g v122 = some y) : ∃ H', FnOk Try.prog 89 (DVs.av F [.bslc (BR.root 0) (.f32 v122), .fn 90 []]) F.H0 ((slices_ContainsFuncF_enc v122 y).1.av F) H' ∧ St F (slices_ContainsFuncF_enc v122 y).2 H' ∧ (slices_ContainsFuncF_enc v122 y).1.Ok F (slices_ContainsFuncF_enc v122 y).2 :=
  fn_fin tok slices_ContainsFuncF_hO mixed Try.func89 Try.call89 (by kernel_rfl) (LoopsOk_eq (l := []) (by kernel_rfl) trivial) (slices_ContainsFuncF_den v122) hy hm h0 hA
noncomputable def slices_ContainsFuncF_F : DFn := fun args L =>
  match args with
  | [a1, .fn 90 []] =>
    optT (rowF32 L a1) fun v122 =>
    .call (slices_ContainsFuncF_g v122) fun y => .leaf (.bool y, L)
  | _ => .fail
theorem slices_ContainsFuncF_Fok : COk Try.prog 89 slices_ContainsFuncF_F true := by
  intro F L H args r L' hs ha hr
  unfold slices_ContainsFuncF_F at hr
  split at hr
  · rename_i a1
    obtain ⟨v122, hv122, hr⟩ := optT_run hr
    simp only [Tree.run] at hr
    obtain ⟨y, hy, hr⟩ := Option.bind_eq_some_iff.1 hr
    simp only [Tree.run, Option.some.injEq, Prod.mk.injEq] at hr
    obtain ⟨rfl, rfl⟩ := hr
    exact call_ok0 hs (fun k => (([a1.av F] : List AV)[k]?).getD .top) [a1, .fn 90 []] [.bslc (BR.root 0) (.f32 v122), .fn 90 []] (fun F' h0 hi hρ => ⟨by simp [DVs.av, DV.av, BR.av, hρ], slices_ContainsFuncF_fn v122 F' (by rw [hi]; rfl) (st_nil hi) ⟨bslc_ok hi (by rw [h0, hρ]; exact rowF32_ok hs (DVs.okAt ha 0 rfl) hv122), trivial, trivial⟩ hy⟩) rfl
  · cases hr
/-! impl.areFinite -/
noncomputable def impl_areFinite_LO (v121 : List Nat) : LOr := fun id e L =>
  match id with
  | _ => .fail
noncomputable def impl_areFinite_tab : List (FuncId × DFn × Bool) := [(89, slices_ContainsFuncF_F, true)]
theorem impl_areFinite_hO : OrcOk Try.prog (tabD impl_areFinite_tab) (tabM impl_areFinite_tab) := tabD_cons slices_ContainsFuncF_Fok (tabD_nil _)
noncomputable def impl_areFinite_T (v121 : List Nat) : Tree (Bool) :=
  (.call (slices_ContainsFuncF_g v121) fun v137 =>
  .leaf (!v137))

noncomputable def impl_areFinite_g (v121 : List Nat) : Option (Bool) := (impl_areFinite_T v121).run
def impl_areFinite_enc (v121 : List Nat) (y : Bool) : Rs := (.bool y, [])
theorem impl_areFinite_den (v121 : List Nat) : (den TT (tabD impl_areFinite_tab) (tabM impl_areFinite_tab) (impl_areFinite_LO v121) (codeOf Try.f81) ([.bslc (BR.root 0) (.f32 v121)] ++ List.replicate (Try.f81.ntmps - ([.bslc (BR.root 0) (.f32 v121)] : List DV).length) .undef) []).bind (retD TT Try.f81.results.toList 0) = (impl_areFinite_T v121).bind fun y => .leaf (impl_areFinite_enc v121 y) := by kernel_rfl
theorem impl_areFinite_fn (v121 : List Nat) (F : Fr) (hm : F.ids.length = 0) (h0 : St F [] F.H0) (hA : DVs.Ok F [] [.bslc (BR.root 0) (.f32 v121)]) {y : Bool} (hy : impl_areFinite_g v121 = some y) : ∃ H', FnOk Try.prog 81 (DVs.av F [.bslc (BR.root 0) (.f32 v121)]) F.H0 ((impl_areFinite_enc v121 y).1.av F) H' ∧ St F (impl_areFinite_enc v121 y).2 H' ∧ (impl_areFinite_enc v121 y).1.Ok F (impl_areFinite_enc v121 y).2 :=
  fn_fin tok impl_areFinite_hO mixed Try.func81 Try.call81 (by kernel_rfl) (LoopsOk_eq (l := []) (by kernel_rfl) trivial) (impl_areFinite_den v121) hy hm h0 hA
noncomputable def impl_areFinite_F : DFn := fun args L =>
  match args with
  | [a1] =>
    optT (rowF32 L a1) fun v121 =>
    .call (impl_areFinite_g v121) fun y => .leaf (.bool y, L)
  | _ => .fail
theorem impl_areFinite_Fok : COk Try.prog 81 impl_areFinite_F true := by
  intro F L H args r L' hs ha hr
  unfold impl_areFinite_F at hr
  split at hr
  · rename_i a1
    obtain ⟨v121, hv121, hr⟩ := optT_run hr
    simp only [Tree.run] at hr
    obtain ⟨y, hy, hr⟩ := Option.bind_eq_some_iff.1 hr
    simp only [Tree.run, Option.some.injEq, Prod.mk.injEq] at hr
    obtain ⟨rfl, rfl⟩ := hr
    exact call_ok0 hs (fun k => (([a1.av F] : List AV)[k]?).getD .top) [a1] [.bslc (BR.root 0) (.f32 v121)] (fun F' h0 hi hρ => ⟨by simp [DVs.av, DV.av, BR.av, hρ], impl_areFinite_fn v121 F' (by rw [hi]; rfl) (st_nil hi) ⟨bslc_ok hi (by rw [h0, hρ]; exact rowF32_ok hs (DVs.okAt ha 0 rfl) hv121), trivial⟩ hy⟩) rfl
  · cases hr
/-! impl.ValidMatrix -/
noncomputable def impl_ValidMatrix_LO (v116 : Int) (v117 : Int) (v118 : List Nat) : LOr := fun id e L =>
  match id with
  | _ => .fail
noncomputable def impl_ValidMatrix_tab : List (FuncId × DFn × Bool) := [(79, impl_isSide_F, true), (80, impl_lengthF_F, true), (81, impl_areFinite_F, true)]
theorem impl_ValidMatrix_hO : OrcOk Try.prog (tabD impl_ValidMatrix_tab) (tabM impl_ValidMatrix_tab) := tabD_cons impl_isSide_Fok (tabD_cons impl_lengthF_Fok (tabD_cons impl_areFinite_Fok (tabD_nil _)))
noncomputable def impl_ValidMatrix_T (v116 : Int) (v117 : Int) (v118 : List Nat) : Tree (Bool) :=
  (.br (impl_isSide_v v116) (
   (.br (impl_isSide_v v117) (
    (.br (decide ((impl_lengthF_v v118) = IntKind.i64.wrap (v116 * v117))) (
     (.call (impl_areFinite_g v118) fun v138 =>
     .leaf v138)
    ) (
     .leaf false
    ))
   ) (
    .leaf false
   ))
  ) (
   .leaf false
  ))

noncomputable def impl_ValidMatrix_g (v116 : Int) (v117 : Int) (v118 : List Nat) : Option (Bool) := (impl_ValidMatrix_T v116 v117 v118).run
def impl_ValidMatrix_enc (v116 : Int) (v117 : Int) (v118 : List Nat) (y : Bool) : Rs := (.bool y, [])
theorem impl_ValidMatrix_den (v116 : Int) (v117 : Int) (v118 : List Nat) : (den TT (tabD impl_ValidMatrix_tab) (tabM impl_ValidMatrix_tab) (impl_ValidMatrix_LO v116 v117 v118) (codeOf Try.f58) ([.agg [.int .i64 v116, .int .i64 v117, .bslc (BR.root 0) (.f32 v118)]] ++ List.replicate (Try.f58.ntmps - ([.agg [.int .i64 v116, .int .i64 v117, .bslc (BR.root 0) (.f32 v118)]] : List DV).length) .undef) []).bind (retD TT Try.f58.results.toList 0) = (impl_ValidMatrix_T v116 v117 v118).bind fun y => .leaf (impl_ValidMatrix_enc v116 v117 v118 y) := by kernel_rfl
theorem impl_ValidMatrix_fn (v116 : Int) (v117 : Int) (v118 : List Nat) (F : Fr) (hm : F.ids.length = 0) (h0 : St F [] F.H0) (hA : DVs.Ok F [] [.agg [.int .i64 v116, .int .i64 v117, .bslc (BR.root 0) (.f32 v118)]]) {y : Bool} (hy : impl_ValidMatrix_g v116 v117 v118 = some y) : ∃ H', FnOk Try.prog 58 (DVs.av F [.agg [.int .i64 v116, .int .i64 v117, .bslc (BR.root 0) (.f32 v118)]]) F.H0 ((impl_ValidMatrix_enc v116 v117 v118 y).1.av F) H' ∧ St F (impl_ValidMatrix_enc v116 v117 v118 y).2 H' ∧ (impl_ValidMatrix_enc v116 v117 v118 y).1.Ok F (impl_ValidMatrix_enc v116 v117 v118 y).2 :=
  fn_fin tok impl_ValidMatrix_hO mixed Try.func58 Try.call58 (by kernel_rfl) (LoopsOk_eq (l := []) (by kernel_rfl) trivial) (impl_ValidMatrix_den v116 v117 v118) hy hm h0 hA
noncomputable def impl_ValidMatrix_F : DFn := fun args L =>
  match args with
  | [.agg [.int .i64 v116, .int .i64 v117, a1]] =>
    optT (rowF32 L a1) fun v118 =>
    .call (impl_ValidMatrix_g v116 v117 v118) fun y => .leaf (.bool y, L)
  | _ => .fail
theorem impl_ValidMatrix_Fok : COk Try.prog 58 impl_ValidMatrix_F true := by
  intro F L H args r L' hs ha hr
  unfold impl_ValidMatrix_F at hr
  split at hr
  · rename_i v116 v117 a1
    obtain ⟨v118, hv118, hr⟩ := optT_run hr
    simp only [Tree.run] at hr
    obtain ⟨y, hy, hr⟩ := Option.bind_eq_some_iff.1 hr
    simp only [Tree.run, Option.some.injEq, Prod.mk.injEq] at hr
    obtain ⟨rfl, rfl⟩ := hr
    exact call_ok0 hs (fun k => (([a1.av F] : List AV)[k]?).getD .top) [.agg [.int .i64 v116, .int .i64 v117, a1]] [.agg [.int .i64 v116, .int .i64 v117, .bslc (BR.root 0) (.f32 v118)]] (fun F' h0 hi hρ => ⟨by simp [DVs.av, DV.av, BR.av, hρ], impl_ValidMatrix_fn v116 v117 v118 F' (by rw [hi]; rfl) (st_nil hi) ⟨⟨trivial, trivial, bslc_ok hi (by rw [h0, hρ]; exact rowF32_ok hs (DVs.okAt (DVs.okAt ha 0 rfl) 2 rfl) hv118), trivial⟩, trivial⟩ hy⟩) rfl
  · cases hr
/-! impl.ValidSheet -/
noncomputable def impl_ValidSheet_LO (v101 : ByteArray) (v102 : Int) (v103 : Int) (v104 : List Nat) : LOr := fun id e L =>
  match id with
  | _ => .fail
noncomputable def impl_ValidSheet_tab : List (FuncId × DFn × Bool) := [(57, impl_IsName_F, true), (58, impl_ValidMatrix_F, true)]
theorem impl_ValidSheet_hO : OrcOk Try.prog (tabD impl_ValidSheet_tab) (tabM impl_ValidSheet_tab) := tabD_cons impl_IsName_Fok (tabD_cons impl_ValidMatrix_Fok (tabD_nil _))
noncomputable def impl_ValidSheet_T (v101 : ByteArray) (v102 : Int) (v103 : Int) (v104 : List Nat) : Tree (Bool) :=
  (.call (impl_IsName_g v101) fun v115 =>
  (.br v115 (
   (.call (impl_ValidMatrix_g v102 v103 v104) fun v139 =>
   .leaf v139)
  ) (
   .leaf false
  )))

noncomputable def impl_ValidSheet_g (v101 : ByteArray) (v102 : Int) (v103 : Int) (v104 : List Nat) : Option (Bool) := (impl_ValidSheet_T v101 v102 v103 v104).run
def impl_ValidSheet_enc (v101 : ByteArray) (v102 : Int) (v103 : Int) (v104 : List Nat) (y : Bool) : Rs := (.bool y, [])
theorem impl_ValidSheet_den (v101 : ByteArray) (v102 : Int) (v103 : Int) (v104 : List Nat) : (den TT (tabD impl_ValidSheet_tab) (tabM impl_ValidSheet_tab) (impl_ValidSheet_LO v101 v102 v103 v104) (codeOf Try.f31) ([.agg [.str v101, .int .i64 v102, .int .i64 v103, .bslc (BR.root 0) (.f32 v104)]] ++ List.replicate (Try.f31.ntmps - ([.agg [.str v101, .int .i64 v102, .int .i64 v103, .bslc (BR.root 0) (.f32 v104)]] : List DV).length) .undef) []).bind (retD TT Try.f31.results.toList 0) = (impl_ValidSheet_T v101 v102 v103 v104).bind fun y => .leaf (impl_ValidSheet_enc v101 v102 v103 v104 y) := by kernel_rfl
theorem impl_ValidSheet_fn (v101 : ByteArray) (v102 : Int) (v103 : Int) (v104 : List Nat) (F : Fr) (hm : F.ids.length = 0) (h0 : St F [] F.H0) (hA : DVs.Ok F [] [.agg [.str v101, .int .i64 v102, .int .i64 v103, .bslc (BR.root 0) (.f32 v104)]]) {y : Bool} (hy : impl_ValidSheet_g v101 v102 v103 v104 = some y) : ∃ H', FnOk Try.prog 31 (DVs.av F [.agg [.str v101, .int .i64 v102, .int .i64 v103, .bslc (BR.root 0) (.f32 v104)]]) F.H0 ((impl_ValidSheet_enc v101 v102 v103 v104 y).1.av F) H' ∧ St F (impl_ValidSheet_enc v101 v102 v103 v104 y).2 H' ∧ (impl_ValidSheet_enc v101 v102 v103 v104 y).1.Ok F (impl_ValidSheet_enc v101 v102 v103 v104 y).2 :=
  fn_fin tok impl_ValidSheet_hO mixed Try.func31 Try.call31 (by kernel_rfl) (LoopsOk_eq (l := []) (by kernel_rfl) trivial) (impl_ValidSheet_den v101 v102 v103 v104) hy hm h0 hA
noncomputable def impl_ValidSheet_F : DFn := fun args L =>
  match args with
  | [.agg [.str v101, .int .i64 v102, .int .i64 v103, a1]] =>
    optT (rowF32 L a1) fun v104 =>
    .call (impl_ValidSheet_g v101 v102 v103 v104) fun y => .leaf (.bool y, L)
  | _ => .fail
theorem impl_ValidSheet_Fok : COk Try.prog 31 impl_ValidSheet_F true := by
  intro F L H args r L' hs ha hr
  unfold impl_ValidSheet_F at hr
  split at hr
  · rename_i v101 v102 v103 a1
    obtain ⟨v104, hv104, hr⟩ := optT_run hr
    simp only [Tree.run] at hr
    obtain ⟨y, hy, hr⟩ := Option.bind_eq_some_iff.1 hr
    simp only [Tree.run, Option.some.injEq, Prod.mk.injEq] at hr
    obtain ⟨rfl, rfl⟩ := hr
    exact call_ok0 hs (fun k => (([a1.av F] : List AV)[k]?).getD .top) [.agg [.str v101, .int .i64 v102, .int .i64 v103, a1]] [.agg [.str v101, .int .i64 v102, .int .i64 v103, .bslc (BR.root 0) (.f32 v104)]] (fun F' h0 hi hρ => ⟨by simp [DVs.av, DV.av, BR.av, hρ], impl_ValidSheet_fn v101 v102 v103 v104 F' (by rw [hi]; rfl) (st_nil hi) ⟨⟨trivial, trivial, trivial, bslc_ok hi (by rw [h0, hρ]; exact rowF32_ok hs (DVs.okAt (DVs.okAt ha 0 rfl) 3 rfl) hv104), trivial⟩, trivial⟩ hy⟩) rfl
  · cases hr
/-! impl.BitsOf -/
noncomputable def impl_BitsOf_LO (v146 : Nat) : LOr := fun id e L =>
  match id with
  | _ => .fail
noncomputable def impl_BitsOf_tab : List (FuncId × DFn × Bool) := [(84, Bits32_F, true)]
theorem impl_BitsOf_hO : OrcOk Try.prog (tabD impl_BitsOf_tab) (tabM impl_BitsOf_tab) := tabD_cons Bits32_Fok (tabD_nil _)
noncomputable def impl_BitsOf_T (v146 : Nat) : Tree (Int) :=
  (.br (!feq .f32 v146 v146) (
   .leaf (2143289344 : Int)
  ) (
   (.grd (!isNan .f32 v146) <|
   .leaf (IntKind.i64.wrap (((v146 : Nat) : Int))))
  ))

noncomputable def impl_BitsOf_g (v146 : Nat) : Option (Int) := (impl_BitsOf_T v146).run
def impl_BitsOf_enc (v146 : Nat) (y : Int) : Rs := (.int .i64 y, [])
theorem impl_BitsOf_den (v146 : Nat) : (den TT (tabD impl_BitsOf_tab) (tabM impl_BitsOf_tab) (impl_BitsOf_LO v146) (codeOf Try.f66) ([.flt .f32 v146] ++ List.replicate (Try.f66.ntmps - ([.flt .f32 v146] : List DV).length) .undef) []).bind (retD TT Try.f66.results.toList 0) = (impl_BitsOf_T v146).bind fun y => .leaf (impl_BitsOf_enc v146 y) := by kernel_rfl
theorem impl_BitsOf_fn (v146 : Nat) (F : Fr) (hm : F.ids.length = 0) (h0 : St F [] F.H0) (hA : DVs.Ok F [] [.flt .f32 v146]) {y : Int} (hy : impl_BitsOf_g v146 = some y) : ∃ H', FnOk Try.prog 66 (DVs.av F [.flt .f32 v146]) F.H0 ((impl_BitsOf_enc v146 y).1.av F) H' ∧ St F (impl_BitsOf_enc v146 y).2 H' ∧ (impl_BitsOf_enc v146 y).1.Ok F (impl_BitsOf_enc v146 y).2 :=
  fn_fin tok impl_BitsOf_hO mixed Try.func66 Try.call66 (by kernel_rfl) (LoopsOk_eq (l := []) (by kernel_rfl) trivial) (impl_BitsOf_den v146) hy hm h0 hA
noncomputable def impl_BitsOf_F : DFn := fun args L =>
  match args with
  | [.flt .f32 v146] =>
    .call (impl_BitsOf_g v146) fun y => .leaf (.int .i64 y, L)
  | _ => .fail
theorem impl_BitsOf_Fok : COk Try.prog 66 impl_BitsOf_F true := by
  intro F L H args r L' hs ha hr
  unfold impl_BitsOf_F at hr
  split at hr
  · rename_i v146
    simp only [Tree.run] at hr
    obtain ⟨y, hy, hr⟩ := Option.bind_eq_some_iff.1 hr
    simp only [Tree.run, Option.some.injEq, Prod.mk.injEq] at hr
    obtain ⟨rfl, rfl⟩ := hr
    exact call_ok0 hs (fun k => (([] : List AV)[k]?).getD .top) [.flt .f32 v146] [.flt .f32 v146] (fun F' h0 hi hρ => ⟨by simp [DVs.av, DV.av, BR.av, hρ], impl_BitsOf_fn v146 F' (by rw [hi]; rfl) (st_nil hi) ⟨trivial, trivial⟩ hy⟩) rfl
  · cases hr
/-! impl.bytesOf -/
noncomputable def impl_bytesOf_l0_T (v149 : Int) (s : Int × Int × (List Int)) : Tree ((Int × Int × (List Int)) ⊕ ((List Int))) :=
  (.br (decide (s.2.1 < v149)) (
   (.grd (fits (s.2.2 ++ ([IntKind.u8.wrap (s.1)] : List Int)).length) <|
   (.grd (decide (0 ≤ (8 : Int))) <|
   .leaf (.inl (ishr .i64 s.1 (8 : Int), IntKind.i64.wrap (s.2.1 + (1 : Int)), s.2.2 ++ ([IntKind.u8.wrap (s.1)] : List Int)))))
  ) (
   .leaf (.inr s.2.2)
  ))

noncomputable def impl_bytesOf_l0_g (v149 : Int) (s0 : Int × Int × (List Int)) : Option ((List Int)) := whileM (fun s => (impl_bytesOf_l0_T v149 s).run) s0
def impl_bytesOf_l0_E (v148 : Int) (v149 : Int) (s : Int × Int × (List Int)) : Sd := ([.int .i64 s.1, .top, .top, .top, .top, .own 0 0 ((s.2.2).length), .top, .int .i64 v149, .int .i64 s.2.1, .top, .top, .top, .top, .top, .top, .top, .top, .top, .top], [.row (.u8 s.2.2) 0])
def impl_bytesOf_l0_X (v148 : Int) (v149 : Int) (x : (List Int)) : Out := (.normal, [.top, .top, .top, .top, .top, .own 0 0 ((x).length), .top, .top, .top, .top, .top, .top, .top, .top, .top, .top, .top, .top, .top], [.row (.u8 x) 0])
def impl_bytesOf_l0_kill : List Nat := [0, 1, 1, 1, 1, 0, 1, 0, 0, 1, 1, 1, 1, 1, 1, 1, 1, 1, 1]
def impl_bytesOf_l0_nx : Exit → List Nat
  | .exit 0 => [1, 1, 1, 1, 1, 0, 1, 1, 1, 1, 1, 1, 1, 1, 1, 1, 1, 1, 1]
  | .ret => [1, 1, 1, 1, 0, 1, 1, 1, 1, 1, 1, 1, 1, 1, 1, 1, 1, 1, 1]
  | _ => []
noncomputable def impl_bytesOf_LO (v148 : Int) (v149 : Int) : LOr := fun id e L =>
  match id with
  | 0 => .need (normA 0 impl_bytesOf_l0_kill e L = some (impl_bytesOf_l0_E v148 v149 ((gI (vAt e 0)), (gI (vAt e 8)), (gRI L (vAt e 5))))) (.call (impl_bytesOf_l0_g v149 ((gI (vAt e 0)), (gI (vAt e 8)), (gRI L (vAt e 5)))) fun x => .leaf (impl_bytesOf_l0_X v148 v149 x))
  | _ => .fail
noncomputable def impl_bytesOf_tab : List (FuncId × DFn × Bool) := []
theorem impl_bytesOf_hO : OrcOk Try.prog (tabD impl_bytesOf_tab) (tabM impl_bytesOf_tab) := tabD_nil _
theorem impl_bytesOf_l0_be (v148 : Int) (v149 : Int) (s : Int × Int × (List Int)) : bodyT TT (tabD impl_bytesOf_tab) (tabM impl_bytesOf_tab) (impl_bytesOf_LO v148 v149) 0 impl_bytesOf_l0_kill impl_bytesOf_l0_nx (bodyOf Try.f65 0) 0 (impl_bytesOf_l0_E v148 v149 s) = (impl_bytesOf_l0_T v149 s).bind fun y => .leaf (outS (impl_bytesOf_l0_E v148 v149) (impl_bytesOf_l0_X v148 v149) y) := by kernel_rfl
theorem impl_bytesOf_l0_ok (v148 : Int) (v149 : Int) : LSound Try.prog 0 (impl_bytesOf_LO v148 v149) 0 (bodyOf Try.f65 0) := by
  intro e L out h
  exact lo_ok (E := impl_bytesOf_l0_E v148 v149) (gT := impl_bytesOf_l0_T v149) (X := impl_bytesOf_l0_X v148 v149) (s0 := ((gI (vAt e 0)), (gI (vAt e 8)), (gRI L (vAt e 5)))) tok impl_bytesOf_hO mixed (LoopsOk_eq (l := []) (by kernel_rfl) trivial) (impl_bytesOf_l0_be v148 v149) rfl (by intro x; rfl) h
noncomputable def impl_bytesOf_T (v148 : Int) (v149 : Int) : Tree ((List Int)) :=
  (.need (some (impl_bytesOf_l0_E v148 v149 (v148, (0 : Int), ([] : List Int))) = some (impl_bytesOf_l0_E v148 v149 (v148, (0 : Int), ([] : List Int)))) <|
  (.call (impl_bytesOf_l0_g v149 (v148, (0 : Int), ([] : List Int))) fun v158 =>
  .leaf v158))

noncomputable def impl_bytesOf_g (v148 : Int) (v149 : Int) : Option ((List Int)) := (impl_bytesOf_T v148 v149).run
def impl_bytesOf_enc (v148 : Int) (v149 : Int) (y : (List Int)) : Rs := (.own 0 0 ((y).length), [.row (.u8 y) 0])
theorem impl_bytesOf_den (v148 : Int) (v149 : Int) : (den TT (tabD impl_bytesOf_tab) (tabM impl_bytesOf_tab) (impl_bytesOf_LO v148 v149) (codeOf Try.f65) ([.int .i64 v148, .int .i64 v149] ++ List.replicate (Try.f65.ntmps - ([.int .i64 v148, .int .i64 v149] : List DV).length) .undef) []).bind (retD TT Try.f65.results.toList 0) = (impl_bytesOf_T v148 v149).bind fun y => .leaf (impl_bytesOf_enc v148 v149 y) := by kernel_rfl
theorem impl_bytesOf_fn (v148 : Int) (v149 : Int) (F : Fr) (hm : F.ids.length = 0) (h0 : St F [] F.H0) (hA : DVs.Ok F [] [.int .i64 v148, .int .i64 v149]) {y : (List Int)} (hy : impl_bytesOf_g v148 v149 = some y) : ∃ H', FnOk Try.prog 65 (DVs.av F [.int .i64 v148, .int .i64 v149]) F.H0 ((impl_bytesOf_enc v148 v149 y).1.av F) H' ∧ St F (impl_bytesOf_enc v148 v149 y).2 H' ∧ (impl_bytesOf_enc v148 v149 y).1.Ok F (impl_bytesOf_enc v148 v149 y).2 :=
  fn_fin tok impl_bytesOf_hO mixed Try.func65 Try.call65 (by kernel_rfl) (LoopsOk_eq (l := [(0, bodyOf Try.f65 0)]) (by kernel_rfl) ⟨impl_bytesOf_l0_ok v148 v149, trivial⟩) (impl_bytesOf_den v148 v149) hy hm h0 hA
noncomputable def impl_bytesOf_F : DFn := fun args L =>
  match args with
  | [.int .i64 v148, .int .i64 v149] =>
    .call (impl_bytesOf_g v148 v149) fun y => .leaf (.own (L.length + 0) 0 ((y).length), L ++ [.row (.u8 y) 0])
  | _ => .fail
theorem impl_bytesOf_Fok : COk Try.prog 65 impl_bytesOf_F true := by
  intro F L H args r L' hs ha hr
  unfold impl_bytesOf_F at hr
  split at hr
  · rename_i v148 v149
    simp only [Tree.run] at hr
    obtain ⟨y, hy, hr⟩ := Option.bind_eq_some_iff.1 hr
    simp only [Tree.run, Option.some.injEq, Prod.mk.injEq] at hr
    obtain ⟨rfl, rfl⟩ := hr
    exact call_ok1 hs (fun k => (([] : List AV)[k]?).getD .top) [.int .i64 v148, .int .i64 v149] [.int .i64 v148, .int .i64 v149] (fun F' h0 hi hρ => ⟨by simp [DVs.av, DV.av, BR.av, hρ], impl_bytesOf_fn v148 v149 F' (by rw [hi]; rfl) (st_nil hi) ⟨trivial, trivial, trivial⟩ hy⟩) rfl rfl
  · cases hr
/-! impl.checkOf -/
noncomputable def impl_checkOf_l0_T (v170 : ByteArray) (s : Int × Int) : Tree ((Int × Int) ⊕ (Int)) :=
  (.br (decide (s.2 < ((v170.size : Nat) : Int))) (
   (.grd (inb s.2 v170.size) <|
   (.grd (!decide ((65003 : Int) = 0)) <|
   .leaf (.inl (Int.tmod (IntKind.i64.wrap ((IntKind.i64.wrap ((IntKind.i64.wrap ((863 : Int) * s.1)) + (IntKind.i64.wrap (bt v170 s.2)))) + (157 : Int))) (65003 : Int), IntKind.i64.wrap (s.2 + (1 : Int))))))
  ) (
   .leaf (.inr s.1)
  ))

noncomputable def impl_checkOf_l0_g (v170 : ByteArray) (s0 : Int × Int) : Option (Int) := whileM (fun s => (impl_checkOf_l0_T v170 s).run) s0
def impl_checkOf_l0_E (v169 : Int) (v170 : ByteArray) (s : Int × Int) : Sd := ([.int .i64 s.1, .str v170, .top, .top, .top, .top, .top, .int .i64 ((v170.size : Nat) : Int), .int .i64 s.2, .top, .top, .top, .top, .top, .top, .top, .top, .top, .top, .top, .top, .top], [])
def impl_checkOf_l0_X (v169 : Int) (v170 : ByteArray) (x : Int) : Out := (.normal, [.int .i64 x, .top, .top, .top, .top, .top, .top, .top, .top, .top, .top, .top, .top, .top, .top, .top, .top, .top, .top, .top, .top, .top], [])
def impl_checkOf_l0_kill : List Nat := [0, 0, 1, 1, 1, 1, 1, 0, 0, 1, 1, 1, 1, 1, 1, 1, 1, 1, 1, 1, 1, 1]
def impl_checkOf_l0_nx : Exit → List Nat
  | .exit 0 => [0, 1, 1, 1, 1, 1, 1, 1, 1, 1, 1, 1, 1, 1, 1, 1, 1, 1, 1, 1, 1, 1]
  | .ret => [1, 1, 1, 1, 0, 1, 1, 1, 1, 1, 1, 1, 1, 1, 1, 1, 1, 1, 1, 1, 1, 1]
  | _ => []
noncomputable def impl_checkOf_LO (v169 : Int) (v170 : ByteArray) : LOr := fun id e L =>
  match id with
  | 0 => .need (normA 0 impl_checkOf_l0_kill e L = some (impl_checkOf_l0_E v169 v170 ((gI (vAt e 0)), (gI (vAt e 8))))) (.call (impl_checkOf_l0_g v170 ((gI (vAt e 0)), (gI (vAt e 8)))) fun x => .leaf (impl_checkOf_l0_X v169 v170 x))
  | _ => .fail
noncomputable def impl_checkOf_tab : List (FuncId × DFn × Bool) := []
theorem impl_checkOf_hO : OrcOk Try.prog (tabD impl_checkOf_tab) (tabM impl_checkOf_tab) := tabD_nil _
theorem impl_checkOf_l0_be (v169 : Int) (v170 : ByteArray) (s : Int × Int) : bodyT TT (tabD impl_checkOf_tab) (tabM impl_checkOf_tab) (impl_checkOf_LO v169 v170) 0 impl_checkOf_l0_kill impl_checkOf_l0_nx (bodyOf Try.f67 0) 0 (impl_checkOf_l0_E v169 v170 s) = (impl_checkOf_l0_T v170 s).bind fun y => .leaf (outS (impl_checkOf_l0_E v169 v170) (impl_checkOf_l0_X v169 v170) y) := by kernel_rfl
theorem impl_checkOf_l0_ok (v169 : Int) (v170 : ByteArray) : LSound Try.prog 0 (impl_checkOf_LO v169 v170) 0 (bodyOf Try.f67 0) := by
  intro e L out h
  exact lo_ok (E := impl_checkOf_l0_E v169 v170) (gT := impl_checkOf_l0_T v170) (X := impl_checkOf_l0_X v169 v170) (s0 := ((gI (vAt e 0)), (gI (vAt e 8)))) tok impl_checkOf_hO mixed (LoopsOk_eq (l := []) (by kernel_rfl) trivial) (impl_checkOf_l0_be v169 v170) rfl (by intro x; rfl) h
noncomputable def impl_checkOf_T (v169 : Int) (v170 : ByteArray) : Tree (Int) :=
  (.need (some (impl_checkOf_l0_E v169 v170 (v169, (0 : Int))) = some (impl_checkOf_l0_E v169 v170 (v169, (0 : Int)))) <|
  (.call (impl_checkOf_l0_g v170 (v169, (0 : Int))) fun v177 =>
  .leaf v177))

noncomputable def impl_checkOf_g (v169 : Int) (v170 : ByteArray) : Option (Int) := (impl_checkOf_T v169 v170).run
def impl_checkOf_enc (v169 : Int) (v170 : ByteArray) (y : Int) : Rs := (.int .i64 y, [])
theorem impl_checkOf_den (v169 : Int) (v170 : ByteArray) : (den TT (tabD impl_checkOf_tab) (tabM impl_checkOf_tab) (impl_checkOf_LO v169 v170) (codeOf Try.f67) ([.int .i64 v169, .str v170] ++ List.replicate (Try.f67.ntmps - ([.int .i64 v169, .str v170] : List DV).length) .undef) []).bind (retD TT Try.f67.results.toList 0) = (impl_checkOf_T v169 v170).bind fun y => .leaf (impl_checkOf_enc v169 v170 y) := by kernel_rfl
theorem impl_checkOf_fn (v169 : Int) (v170 : ByteArray) (F : Fr) (hm : F.ids.length = 0) (h0 : St F [] F.H0) (hA : DVs.Ok F [] [.int .i64 v169, .str v170]) {y : Int} (hy : impl_checkOf_g v169 v170 = some y) : ∃ H', FnOk Try.prog 67 (DVs.av F [.int .i64 v169, .str v170]) F.H0 ((impl_checkOf_enc v169 v170 y).1.av F) H' ∧ St F (impl_checkOf_enc v169 v170 y).2 H' ∧ (impl_checkOf_enc v169 v170 y).1.Ok F (impl_checkOf_enc v169 v170 y).2 :=
  fn_fin tok impl_checkOf_hO mixed Try.func67 Try.call67 (by kernel_rfl) (LoopsOk_eq (l := [(0, bodyOf Try.f67 0)]) (by kernel_rfl) ⟨impl_checkOf_l0_ok v169 v170, trivial⟩) (impl_checkOf_den v169 v170) hy hm h0 hA
noncomputable def impl_checkOf_F : DFn := fun args L =>
  match args with
  | [.int .i64 v169, .str v170] =>
    .call (impl_checkOf_g v169 v170) fun y => .leaf (.int .i64 y, L)
  | _ => .fail
theorem impl_checkOf_Fok : COk Try.prog 67 impl_checkOf_F true := by
  intro F L H args r L' hs ha hr
  unfold impl_checkOf_F at hr
  split at hr
  · rename_i v169 v170
    simp only [Tree.run] at hr
    obtain ⟨y, hy, hr⟩ := Option.bind_eq_some_iff.1 hr
    simp only [Tree.run, Option.some.injEq, Prod.mk.injEq] at hr
    obtain ⟨rfl, rfl⟩ := hr
    exact call_ok0 hs (fun k => (([] : List AV)[k]?).getD .top) [.int .i64 v169, .str v170] [.int .i64 v169, .str v170] (fun F' h0 hi hρ => ⟨by simp [DVs.av, DV.av, BR.av, hρ], impl_checkOf_fn v169 v170 F' (by rw [hi]; rfl) (st_nil hi) ⟨trivial, trivial, trivial⟩ hy⟩) rfl
  · cases hr
/-! impl.storeSheet -/
noncomputable def impl_storeSheet_l0_T (v144 : List Nat) (s : Int × (List Int)) : Tree ((Int × (List Int)) ⊕ ((List Int))) :=
  (.br (decide (s.1 < ((v144.length : Nat) : Int))) (
   (.grd (inb s.1 v144.length) <|
   (.call (impl_BitsOf_g (nth v144 (Int.toNat s.1))) fun v166 =>
   (.call (impl_bytesOf_g v166 (4 : Int)) fun v167 =>
   (.grd (fits (s.2 ++ v167).length) <|
   .leaf (.inl (IntKind.i64.wrap (s.1 + (1 : Int)), s.2 ++ v167))))))
  ) (
   .leaf (.inr s.2)
  ))

noncomputable def impl_storeSheet_l0_g (v144 : List Nat) (s0 : Int × (List Int)) : Option ((List Int)) := whileM (fun s => (impl_storeSheet_l0_T v144 s).run) s0
def impl_storeSheet_l0_E (v141 : ByteArray) (v142 : Int) (v143 : Int) (v144 : List Nat) (s : Int × (List Int)) : Sd := ([.top, .top, .top, .own 0 0 ((s.2).length), .top, .top, .top, .top, .top, .top, .top, .top, .top, .top, .top, .top, .top, .top, .top, .top, .top, .top, .top, .top, .top, .top, .top, .top, .top, .top, .top, .bslc (BR.root 0) (.f32 v144), .int .i64 ((v144.length : Nat) : Int), .int .i64 s.1, .top, .top, .top, .top, .top, .top, .top, .top, .top, .top, .top, .top, .top, .top, .top, .top], [.row (.u8 s.2) 0])
def impl_storeSheet_l0_X (v141 : ByteArray) (v142 : Int) (v143 : Int) (v144 : List Nat) (x : (List Int)) : Out := (.normal, [.top, .top, .top, .own 0 0 ((x).length), .top, .top, .top, .top, .top, .top, .top, .top, .top, .top, .top, .top, .top, .top, .top, .top, .top, .top, .top, .top, .top, .top, .top, .top, .top, .top, .top, .top, .top, .top, .top, .top, .top, .top, .top, .top, .top, .top, .top, .top, .top, .top, .top, .top, .top, .top], [.row (.u8 x) 0])
def impl_storeSheet_l0_kill : List Nat := [1, 1, 1, 0, 1, 1, 1, 1, 1, 1, 1, 1, 1, 1, 1, 1, 1, 1, 1, 1, 1, 1, 1, 1, 1, 1, 1, 1, 1, 1, 1, 0, 0, 0, 1, 1, 1, 1, 1, 1, 1, 1, 1, 1, 1, 1, 1, 1, 1, 1]
def impl_storeSheet_l0_nx : Exit → List Nat
  | .exit 0 => [1, 1, 1, 0, 1, 1, 1, 1, 1, 1, 1, 1, 1, 1, 1, 1, 1, 1, 1, 1, 1, 1, 1, 1, 1, 1, 1, 1, 1, 1, 1, 1, 1, 1, 1, 1, 1, 1, 1, 1, 1, 1, 1, 1, 1, 1, 1, 1, 1, 1]
  | .ret => [1, 1, 0, 1, 1, 1, 1, 1, 1, 1, 1, 1, 1, 1, 1, 1, 1, 1, 1, 1, 1, 1, 1, 1, 1, 1, 1, 1, 1, 1, 1, 1, 1, 1, 1, 1, 1, 1, 1, 1, 1, 1, 1, 1, 1, 1, 1, 1, 1, 1]
  | _ => []
noncomputable def impl_storeSheet_LO (v141 : ByteArray) (v142 : Int) (v143 : Int) (v144 : List Nat) : LOr := fun id e L =>
  match id with
  | 0 => .need (normA 0 impl_storeSheet_l0_kill e L = some (impl_storeSheet_l0_E v141 v142 v143 v144 ((gI (vAt e 33)), (gRI L (vAt e 3))))) (.call (impl_storeSheet_l0_g v144 ((gI (vAt e 33)), (gRI L (vAt e 3)))) fun x => .leaf (impl_storeSheet_l0_X v141 v142 v143 v144 x))
  | _ => .fail
noncomputable def impl_storeSheet_tab : List (FuncId × DFn × Bool) := [(66, impl_BitsOf_F, true), (65, impl_bytesOf_F, true), (67, impl_checkOf_F, true)]
theorem impl_storeSheet_hO : OrcOk Try.prog (tabD impl_storeSheet_tab) (tabM impl_storeSheet_tab) := tabD_cons impl_BitsOf_Fok (tabD_cons impl_bytesOf_Fok (tabD_cons impl_checkOf_Fok (tabD_nil _)))
theorem impl_storeSheet_l0_be (v141 : ByteArray) (v142 : Int) (v143 : Int) (v144 : List Nat) (s : Int × (List Int)) : bodyT TT (tabD impl_storeSheet_tab) (tabM impl_storeSheet_tab) (impl_storeSheet_LO v141 v142 v143 v144) 0 impl_storeSheet_l0_kill impl_storeSheet_l0_nx (bodyOf Try.f37 0) 0 (impl_storeSheet_l0_E v141 v142 v143 v144 s) = (impl_storeSheet_l0_T v144 s).bind fun y => .leaf (outS (impl_storeSheet_l0_E v141 v142 v143 v144) (impl_storeSheet_l0_X v141 v142 v143 v144) y) := by kernel_rfl
theorem impl_storeSheet_l0_ok (v141 : ByteArray) (v142 : Int) (v143 : Int) (v144 : List Nat) : LSound Try.prog 0 (impl_storeSheet_LO v141 v142 v143 v144) 0 (bodyOf Try.f37 0) := by
  intro e L out h
  exact lo_ok (E := impl_storeSheet_l0_E v141 v142 v143 v144) (gT := impl_storeSheet_l0_T v144) (X := impl_storeSheet_l0_X v141 v142 v143 v144) (s0 := ((gI (vAt e 33)), (gRI L (vAt e 3)))) tok impl_storeSheet_hO mixed (LoopsOk_eq (l := []) (by kernel_rfl) trivial) (impl_storeSheet_l0_be v141 v142 v143 v144) rfl (by intro x; rfl) h
noncomputable def impl_storeSheet_T (v141 : ByteArray) (v142 : Int) (v143 : Int) (v144 : List Nat) : Tree (ByteArray) :=
  (.grd (decide (0 < (([(77 : Int), (65 : Int), (84 : Int), (49 : Int)] : List Int).length))) <|
  (.grd (fits (([(77 : Int), (65 : Int), (84 : Int), (49 : Int)] : List Int) ++ ([IntKind.u8.wrap (((v141.size : Nat) : Int))] : List Int)).length) <|
  (.grd (fits ((([(77 : Int), (65 : Int), (84 : Int), (49 : Int)] : List Int) ++ ([IntKind.u8.wrap (((v141.size : Nat) : Int))] : List Int)) ++ numsS v141).length) <|
  (.grd (fits (((([(77 : Int), (65 : Int), (84 : Int), (49 : Int)] : List Int) ++ ([IntKind.u8.wrap (((v141.size : Nat) : Int))] : List Int)) ++ numsS v141) ++ ([IntKind.u8.wrap (v142), IntKind.u8.wrap (v143)] : List Int)).length) <|
  (.need (some (impl_storeSheet_l0_E v141 v142 v143 v144 ((0 : Int), ((([(77 : Int), (65 : Int), (84 : Int), (49 : Int)] : List Int) ++ ([IntKind.u8.wrap (((v141.size : Nat) : Int))] : List Int)) ++ numsS v141) ++ ([IntKind.u8.wrap (v142), IntKind.u8.wrap (v143)] : List Int))) = some (impl_storeSheet_l0_E v141 v142 v143 v144 ((0 : Int), ((([(77 : Int), (65 : Int), (84 : Int), (49 : Int)] : List Int) ++ ([IntKind.u8.wrap (((v141.size : Nat) : Int))] : List Int)) ++ numsS v141) ++ ([IntKind.u8.wrap (v142), IntKind.u8.wrap (v143)] : List Int)))) <|
  (.call (impl_storeSheet_l0_g v144 ((0 : Int), ((([(77 : Int), (65 : Int), (84 : Int), (49 : Int)] : List Int) ++ ([IntKind.u8.wrap (((v141.size : Nat) : Int))] : List Int)) ++ numsS v141) ++ ([IntKind.u8.wrap (v142), IntKind.u8.wrap (v143)] : List Int))) fun v168 =>
  (.call (impl_checkOf_g (0 : Int) (strOfNums v168)) fun v178 =>
  (.call (impl_bytesOf_g v178 (2 : Int)) fun v179 =>
  (.grd (fits (v168 ++ v179).length) <|
  .leaf (strOfNums (v168 ++ v179)))))))))))

noncomputable def impl_storeSheet_g (v141 : ByteArray) (v142 : Int) (v143 : Int) (v144 : List Nat) : Option (ByteArray) := (impl_storeSheet_T v141 v142 v143 v144).run
def impl_storeSheet_enc (v141 : ByteArray) (v142 : Int) (v143 : Int) (v144 : List Nat) (y : ByteArray) : Rs := (.str y, [])
theorem impl_storeSheet_den (v141 : ByteArray) (v142 : Int) (v143 : Int) (v144 : List Nat) : (den TT (tabD impl_storeSheet_tab) (tabM impl_storeSheet_tab) (impl_storeSheet_LO v141 v142 v143 v144) (codeOf Try.f37) ([.agg [.str v141, .int .i64 v142, .int .i64 v143, .bslc (BR.root 0) (.f32 v144)]] ++ List.replicate (Try.f37.ntmps - ([.agg [.str v141, .int .i64 v142, .int .i64 v143, .bslc (BR.root 0) (.f32 v144)]] : List DV).length) .undef) []).bind (retD TT Try.f37.results.toList 0) = (impl_storeSheet_T v141 v142 v143 v144).bind fun y => .leaf (impl_storeSheet_enc v141 v142 v143 v144 y) := by kernel_rfl
theorem impl_storeSheet_fn (v141 : ByteArray) (v142 : Int) (v143 : Int) (v144 : List Nat) (F : Fr) (hm : F.ids.length = 0) (h0 : St F [] F.H0) (hA : DVs.Ok F [] [.agg [.str v141, .int .i64 v142, .int .i64 v143, .bslc (BR.root 0) (.f32 v144)]]) {y : ByteArray} (hy : impl_storeSheet_g v141 v142 v143 v144 = some y) : ∃ H', FnOk Try.prog 37 (DVs.av F [.agg [.str v141, .int .i64 v142, .int .i64 v143, .bslc (BR.root 0) (.f32 v144)]]) F.H0 ((impl_storeSheet_enc v141 v142 v143 v144 y).1.av F) H' ∧ St F (impl_storeSheet_enc v141 v142 v143 v144 y).2 H' ∧ (impl_storeSheet_enc v141 v142 v143 v144 y).1.Ok F (impl_storeSheet_enc v141 v142 v143 v144 y).2 :=
  fn_fin tok impl_storeSheet_hO mixed Try.func37 Try.call37 (by kernel_rfl) (LoopsOk_eq (l := [(0, bodyOf Try.f37 0)]) (by kernel_rfl) ⟨impl_storeSheet_l0_ok v141 v142 v143 v144, trivial⟩) (impl_storeSheet_den v141 v142 v143 v144) hy hm h0 hA
noncomputable def impl_storeSheet_F : DFn := fun args L =>
  match args with
  | [.agg [.str v141, .int .i64 v142, .int .i64 v143, a1]] =>
    optT (rowF32 L a1) fun v144 =>
    .call (impl_storeSheet_g v141 v142 v143 v144) fun y => .leaf (.str y, L)
  | _ => .fail
theorem impl_storeSheet_Fok : COk Try.prog 37 impl_storeSheet_F true := by
  intro F L H args r L' hs ha hr
  unfold impl_storeSheet_F at hr
  split at hr
  · rename_i v141 v142 v143 a1
    obtain ⟨v144, hv144, hr⟩ := optT_run hr
    simp only [Tree.run] at hr
    obtain ⟨y, hy, hr⟩ := Option.bind_eq_some_iff.1 hr
    simp only [Tree.run, Option.some.injEq, Prod.mk.injEq] at hr
    obtain ⟨rfl, rfl⟩ := hr
    exact call_ok0 hs (fun k => (([a1.av F] : List AV)[k]?).getD .top) [.agg [.str v141, .int .i64 v142, .int .i64 v143, a1]] [.agg [.str v141, .int .i64 v142, .int .i64 v143, .bslc (BR.root 0) (.f32 v144)]] (fun F' h0 hi hρ => ⟨by simp [DVs.av, DV.av, BR.av, hρ], impl_storeSheet_fn v141 v142 v143 v144 F' (by rw [hi]; rfl) (st_nil hi) ⟨⟨trivial, trivial, trivial, bslc_ok hi (by rw [h0, hρ]; exact rowF32_ok hs (DVs.okAt (DVs.okAt ha 0 rfl) 3 rfl) hv144), trivial⟩, trivial⟩ hy⟩) rfl
  · cases hr
/-! impl.StoreSheet -/
noncomputable def impl_StoreSheet_LO (v97 : ByteArray) (v98 : Int) (v99 : Int) (v100 : List Nat) : LOr := fun id e L =>
  match id with
  | _ => .fail
noncomputable def impl_StoreSheet_tab : List (FuncId × DFn × Bool) := [(31, impl_ValidSheet_F, true), (37, impl_storeSheet_F, true)]
theorem impl_StoreSheet_hO : OrcOk Try.prog (tabD impl_StoreSheet_tab) (tabM impl_StoreSheet_tab) := tabD_cons impl_ValidSheet_Fok (tabD_cons impl_storeSheet_Fok (tabD_nil _))
noncomputable def impl_StoreSheet_T (v97 : ByteArray) (v98 : Int) (v99 : Int) (v100 : List Nat) : Tree ((ByteArray) ⊕ (ByteArray)) :=
  (.call (impl_ValidSheet_g v97 v98 v99 v100) fun v140 =>
  (.br (!v140) (
   .leaf (.inl (ByteArray.mk #[]))
  ) (
   (.call (impl_storeSheet_g v97 v98 v99 v100) fun v180 =>
   .leaf (.inr v180))
  )))

noncomputable def impl_StoreSheet_g (v97 : ByteArray) (v98 : Int) (v99 : Int) (v100 : List Nat) : Option ((ByteArray) ⊕ (ByteArray)) := (impl_StoreSheet_T v97 v98 v99 v100).run
def impl_StoreSheet_enc (v97 : ByteArray) (v98 : Int) (v99 : Int) (v100 : List Nat) (y : (ByteArray) ⊕ (ByteArray)) : Rs := (match y with | .inl y => (.tup [.str y, .lit false], []) | .inr y => (.tup [.str y, .lit true], []))
theorem impl_StoreSheet_den (v97 : ByteArray) (v98 : Int) (v99 : Int) (v100 : List Nat) : (den TT (tabD impl_StoreSheet_tab) (tabM impl_StoreSheet_tab) (impl_StoreSheet_LO v97 v98 v99 v100) (codeOf Try.f12) ([.agg [.str v97, .int .i64 v98, .int .i64 v99, .bslc (BR.root 0) (.f32 v100)]] ++ List.replicate (Try.f12.ntmps - ([.agg [.str v97, .int .i64 v98, .int .i64 v99, .bslc (BR.root 0) (.f32 v100)]] : List DV).length) .undef) []).bind (retD TT Try.f12.results.toList 0) = (impl_StoreSheet_T v97 v98 v99 v100).bind fun y => .leaf (impl_StoreSheet_enc v97 v98 v99 v100 y) := by kernel_rfl
theorem impl_StoreSheet_fn (v97 : ByteArray) (v98 : Int) (v99 : Int) (v100 : List Nat) (F : Fr) (hm : F.ids.length = 0) (h0 : St F [] F.H0) (hA : DVs.Ok F [] [.agg [.str v97, .int .i64 v98, .int .i64 v99, .bslc (BR.root 0) (.f32 v100)]]) {y : (ByteArray) ⊕ (ByteArray)} (hy : impl_StoreSheet_g v97 v98 v99 v100 = some y) : ∃ H', FnOk Try.prog 12 (DVs.av F [.agg [.str v97, .int .i64 v98, .int .i64 v99, .bslc (BR.root 0) (.f32 v100)]]) F.H0 ((impl_StoreSheet_enc v97 v98 v99 v100 y).1.av F) H' ∧ St F (impl_StoreSheet_enc v97 v98 v99 v100 y).2 H' ∧ (impl_StoreSheet_enc v97 v98 v99 v100 y).1.Ok F (impl_StoreSheet_enc v97 v98 v99 v100 y).2 :=
  fn_fin tok impl_StoreSheet_hO mixed Try.func12 Try.call12 (by kernel_rfl) (LoopsOk_eq (l := []) (by kernel_rfl) trivial) (impl_StoreSheet_den v97 v98 v99 v100) hy hm h0 hA
noncomputable def impl_StoreSheet_F : DFn := fun args L =>
  match args with
  | [.agg [.str v97, .int .i64 v98, .int .i64 v99, a1]] =>
    optT (rowF32 L a1) fun v100 =>
    .call (impl_StoreSheet_g v97 v98 v99 v100) fun y => .sum y (fun y0 => .leaf (.tup [.str y0, .lit false], L)) (fun z0 => .leaf (.tup [.str z0, .lit true], L))
  | _ => .fail
theorem impl_StoreSheet_Fok : COk Try.prog 12 impl_StoreSheet_F true := by
  intro F L H args r L' hs ha hr
  unfold impl_StoreSheet_F at hr
  split at hr
  · rename_i v97 v98 v99 a1
    obtain ⟨v100, hv100, hr⟩ := optT_run hr
    simp only [Tree.run] at hr
    obtain ⟨y, hy, hr⟩ := Option.bind_eq_some_iff.1 hr
    cases y with
    | inl y =>
      simp only [Tree.run, Option.some.injEq, Prod.mk.injEq] at hr
      obtain ⟨rfl, rfl⟩ := hr
      exact call_ok0 hs (fun k => (([a1.av F] : List AV)[k]?).getD .top) [.agg [.str v97, .int .i64 v98, .int .i64 v99, a1]] [.agg [.str v97, .int .i64 v98, .int .i64 v99, .bslc (BR.root 0) (.f32 v100)]] (fun F' h0 hi hρ => ⟨by simp [DVs.av, DV.av, BR.av, hρ], impl_StoreSheet_fn v97 v98 v99 v100 F' (by rw [hi]; rfl) (st_nil hi) ⟨⟨trivial, trivial, trivial, bslc_ok hi (by rw [h0, hρ]; exact rowF32_ok hs (DVs.okAt (DVs.okAt ha 0 rfl) 3 rfl) hv100), trivial⟩, trivial⟩ hy⟩) rfl
    | inr y =>
      simp only [Tree.run, Option.some.injEq, Prod.mk.injEq] at hr
      obtain ⟨rfl, rfl⟩ := hr
      exact call_ok0 hs (fun k => (([a1.av F] : List AV)[k]?).getD .top) [.agg [.str v97, .int .i64 v98, .int .i64 v99, a1]] [.agg [.str v97, .int .i64 v98, .int .i64 v99, .bslc (BR.root 0) (.f32 v100)]] (fun F' h0 hi hρ => ⟨by simp [DVs.av, DV.av, BR.av, hρ], impl_StoreSheet_fn v97 v98 v99 v100 F' (by rw [hi]; rfl) (st_nil hi) ⟨⟨trivial, trivial, trivial, bslc_ok hi (by rw [h0, hρ]; exact rowF32_ok hs (DVs.okAt (DVs.okAt ha 0 rfl) 3 rfl) hv100), trivial⟩, trivial⟩ hy⟩) rfl
  · cases hr
/-! laws.sameFloat -/
noncomputable def laws_sameFloat_LO (v202 : Nat) (v203 : Nat) : LOr := fun id e L =>
  match id with
  | _ => .fail
noncomputable def laws_sameFloat_tab : List (FuncId × DFn × Bool) := []
theorem laws_sameFloat_hO : OrcOk Try.prog (tabD laws_sameFloat_tab) (tabM laws_sameFloat_tab) := tabD_nil _
noncomputable def laws_sameFloat_T (v202 : Nat) (v203 : Nat) : Tree (Bool) :=
  (.br (!feq .f64 v202 v202) (
   (.br (!feq .f64 v202 v202) (
    .leaf (!feq .f64 v203 v203)
   ) (
    .leaf false
   ))
  ) (
   (.br (!feq .f64 v203 v203) (
    (.br (!feq .f64 v202 v202) (
     .leaf (!feq .f64 v203 v203)
    ) (
     .leaf false
    ))
   ) (
    (.br (feq .f64 v202 (0 : Nat)) (
     (.br (feq .f64 v203 (0 : Nat)) (
      .leaf ((fgrt .f64 (fdiv .f64 (4607182418800017408 : Nat) v202) (0 : Nat)) == (fgrt .f64 (fdiv .f64 (4607182418800017408 : Nat) v203) (0 : Nat)))
     ) (
      .leaf (feq .f64 v202 v203)
     ))
    ) (
     .leaf (feq .f64 v202 v203)
    ))
   ))
  ))

noncomputable def laws_sameFloat_g (v202 : Nat) (v203 : Nat) : Option (Bool) := (laws_sameFloat_T v202 v203).run
def laws_sameFloat_enc (v202 : Nat) (v203 : Nat) (y : Bool) : Rs := (.bool y, [])
theorem laws_sameFloat_den (v202 : Nat) (v203 : Nat) : (den TT (tabD laws_sameFloat_tab) (tabM laws_sameFloat_tab) (laws_sameFloat_LO v202 v203) (codeOf Try.f85) ([.flt .f64 v202, .flt .f64 v203] ++ List.replicate (Try.f85.ntmps - ([.flt .f64 v202, .flt .f64 v203] : List DV).length) .undef) []).bind (retD TT Try.f85.results.toList 0) = (laws_sameFloat_T v202 v203).bind fun y => .leaf (laws_sameFloat_enc v202 v203 y) := by kernel_rfl
theorem laws_sameFloat_fn (v202 : Nat) (v203 : Nat) (F : Fr) (hm : F.ids.length = 0) (h0 : St F [] F.H0) (hA : DVs.Ok F [] [.flt .f64 v202, .flt .f64 v203]) {y : Bool} (hy : laws_sameFloat_g v202 v203 = some y) : ∃ H', FnOk Try.prog 85 (DVs.av F [.flt .f64 v202, .flt .f64 v203]) F.H0 ((laws_sameFloat_enc v202 v203 y).1.av F) H' ∧ St F (laws_sameFloat_enc v202 v203 y).2 H' ∧ (laws_sameFloat_enc v202 v203 y).1.Ok F (laws_sameFloat_enc v202 v203 y).2 :=
  fn_fin tok laws_sameFloat_hO mixed Try.func85 Try.call85 (by kernel_rfl) (LoopsOk_eq (l := []) (by kernel_rfl) trivial) (laws_sameFloat_den v202 v203) hy hm h0 hA
def laws_sameFloat_v (v202 : Nat) (v203 : Nat) : Bool :=
  if (!feq .f64 v202 v202) = true then (
   if (!feq .f64 v202 v202) = true then (
    !feq .f64 v203 v203
   ) else (
    false
   )
  ) else (
   if (!feq .f64 v203 v203) = true then (
    if (!feq .f64 v202 v202) = true then (
     !feq .f64 v203 v203
    ) else (
     false
    )
   ) else (
    if (feq .f64 v202 (0 : Nat)) = true then (
     if (feq .f64 v203 (0 : Nat)) = true then (
      (fgrt .f64 (fdiv .f64 (4607182418800017408 : Nat) v202) (0 : Nat)) == (fgrt .f64 (fdiv .f64 (4607182418800017408 : Nat) v203) (0 : Nat))
     ) else (
      feq .f64 v202 v203
     )
    ) else (
     feq .f64 v202 v203
    )
   )
  )
theorem laws_sameFloat_tot (v202 : Nat) (v203 : Nat) : laws_sameFloat_g v202 v203 = some (laws_sameFloat_v v202 v203) := by
  unfold laws_sameFloat_g laws_sameFloat_T laws_sameFloat_v
  simp only [Tree.run]
  repeat' (first | rfl | split)
noncomputable def laws_sameFloat_F : DFn := fun args L =>
  match args with
  | [.flt .f64 v202, .flt .f64 v203] =>
    .leaf (.bool (laws_sameFloat_v v202 v203), L)
  | _ => .fail
theorem laws_sameFloat_Fok : COk Try.prog 85 laws_sameFloat_F true := by
  intro F L H args r L' hs ha hr
  unfold laws_sameFloat_F at hr
  split at hr
  · rename_i v202 v203
    have hy := laws_sameFloat_tot v202 v203
    generalize laws_sameFloat_v v202 v203 = y at hy hr
    simp only [Tree.run, Option.some.injEq, Prod.mk.injEq] at hr
    obtain ⟨rfl, rfl⟩ := hr
    exact call_ok0 hs (fun k => (([] : List AV)[k]?).getD .top) [.flt .f64 v202, .flt .f64 v203] [.flt .f64 v202, .flt .f64 v203] (fun F' h0 hi hρ => ⟨by simp [DVs.av, DV.av, BR.av, hρ], laws_sameFloat_fn v202 v203 F' (by rw [hi]; rfl) (st_nil hi) ⟨trivial, trivial, trivial⟩ hy⟩) rfl
  · cases hr
/-! laws.eqFloat32S -/
noncomputable def laws_eqFloat32S_l0_T (v199 : List Nat) (v200 : List Nat) (s : Int) : Tree ((Int) ⊕ ((Unit) ⊕ (Unit))) :=
  (.br (decide (s < ((v199.length : Nat) : Int))) (
   (.grd (inb s v199.length) <|
   (.grd (inb s v200.length) <|
   (.br (!(laws_sameFloat_v (wid (nth v199 (Int.toNat s))) (wid (nth v200 (Int.toNat s))))) (
    .leaf (.inr (.inl ()))
   ) (
    .leaf (.inl (IntKind.i64.wrap (s + (1 : Int))))
   ))))
  ) (
   .leaf (.inr (.inr ()))
  ))

noncomputable def laws_eqFloat32S_l0_g (v199 : List Nat) (v200 : List Nat) (s0 : Int) : Option ((Unit) ⊕ (Unit)) := whileM (fun s => (laws_eqFloat32S_l0_T v199 v200 s).run) s0
def laws_eqFloat32S_l0_E (v199 : List Nat) (v200 : List Nat) (s : Int) : Sd := ([.bslc (BR.root 0) (.f32 v199), .bslc (BR.root 1) (.f32 v200), .top, .top, .top, .int .i64 s, .top, .top, .top, .top, .top, .top, .top, .top, .top, .top, .top, .top, .top, .top, .top, .top, .top, .top, .top, .top, .top, .top, .top], [])
def laws_eqFloat32S_l0_X (v199 : List Nat) (v200 : List Nat) (x : (Unit) ⊕ (Unit)) : Out := (match x with | .inl x => (.ret, [.top, .top, .top, .top, .lit false, .top, .top, .top, .top, .top, .top, .top, .top, .top, .top, .top, .top, .top, .top, .top, .top, .top, .top, .top, .top, .top, .top, .top, .top], []) | .inr x => (.normal, [.top, .top, .top, .top, .top, .top, .top, .top, .top, .top, .top, .top, .top, .top, .top, .top, .top, .top, .top, .top, .top, .top, .top, .top, .top, .top, .top, .top, .top], []))
def laws_eqFloat32S_l0_kill : List Nat := [0, 0, 1, 1, 1, 0, 1, 1, 1, 1, 1, 1, 1, 1, 1, 1, 1, 1, 1, 1, 1, 1, 1, 1, 1, 1, 1, 1, 1]
def laws_eqFloat32S_l0_nx : Exit → List Nat
  | .exit 0 => [1, 1, 1, 1, 1, 1, 1, 1, 1, 1, 1, 1, 1, 1, 1, 1, 1, 1, 1, 1, 1, 1, 1, 1, 1, 1, 1, 1, 1]
  | .ret => [1, 1, 1, 1, 0, 1, 1, 1, 1, 1, 1, 1, 1, 1, 1, 1, 1, 1, 1, 1, 1, 1, 1, 1, 1, 1, 1, 1, 1]
  | _ => []
noncomputable def laws_eqFloat32S_LO (v199 : List Nat) (v200 : List Nat) : LOr := fun id e L =>
  match id with
  | 0 => .need (normA 0 laws_eqFloat32S_l0_kill e L = some (laws_eqFloat32S_l0_E v199 v200 (gI (vAt e 5)))) (.call (laws_eqFloat32S_l0_g v199 v200 (gI (vAt e 5))) fun x => .sum x (fun b0 => .leaf (laws_eqFloat32S_l0_X v199 v200 (.inl b0))) (fun c0 => .leaf (laws_eqFloat32S_l0_X v199 v200 (.inr c0))))
  | _ => .fail
noncomputable def laws_eqFloat32S_tab : List (FuncId × DFn × Bool) := [(85, laws_sameFloat_F, true)]
theorem laws_eqFloat32S_hO : OrcOk Try.prog (tabD laws_eqFloat32S_tab) (tabM laws_eqFloat32S_tab) := tabD_cons laws_sameFloat_Fok (tabD_nil _)
theorem laws_eqFloat32S_l0_be (v199 : List Nat) (v200 : List Nat) (s : Int) : bodyT TT (tabD laws_eqFloat32S_tab) (tabM laws_eqFloat32S_tab) (laws_eqFloat32S_LO v199 v200) 0 laws_eqFloat32S_l0_kill laws_eqFloat32S_l0_nx (bodyOf Try.f68 0) 0 (laws_eqFloat32S_l0_E v199 v200 s) = (laws_eqFloat32S_l0_T v199 v200 s).bind fun y => .leaf (outS (laws_eqFloat32S_l0_E v199 v200) (laws_eqFloat32S_l0_X v199 v200) y) := by kernel_rfl
theorem laws_eqFloat32S_l0_ok (v199 : List Nat) (v200 : List Nat) : LSound Try.prog 0 (laws_eqFloat32S_LO v199 v200) 0 (bodyOf Try.f68 0) := by
  intro e L out h
  exact lo_ok (E := laws_eqFloat32S_l0_E v199 v200) (gT := laws_eqFloat32S_l0_T v199 v200) (X := laws_eqFloat32S_l0_X v199 v200) (s0 := (gI (vAt e 5))) tok laws_eqFloat32S_hO mixed (LoopsOk_eq (l := []) (by kernel_rfl) trivial) (laws_eqFloat32S_l0_be v199 v200) rfl (by intro x; (cases x with | inl b => rfl | inr x => exact rfl)) h
noncomputable def laws_eqFloat32S_T (v199 : List Nat) (v200 : List Nat) : Tree (Bool) :=
  (.br (!decide (((v199.length : Nat) : Int) = ((v200.length : Nat) : Int))) (
   .leaf false
  ) (
   (.need (some (laws_eqFloat32S_l0_E v199 v200 (0 : Int)) = some (laws_eqFloat32S_l0_E v199 v200 (0 : Int))) <|
   (.call (laws_eqFloat32S_l0_g v199 v200 (0 : Int)) fun v206 =>
   (.sum v206 (fun v207 =>
    .leaf false
   ) (fun v208 =>
    .leaf true
   ))))
  ))

noncomputable def laws_eqFloat32S_g (v199 : List Nat) (v200 : List Nat) : Option (Bool) := (laws_eqFloat32S_T v199 v200).run
def laws_eqFloat32S_enc (v199 : List Nat) (v200 : List Nat) (y : Bool) : Rs := (.bool y, [])
theorem laws_eqFloat32S_den (v199 : List Nat) (v200 : List Nat) : (den TT (tabD laws_eqFloat32S_tab) (tabM laws_eqFloat32S_tab) (laws_eqFloat32S_LO v199 v200) (codeOf Try.f68) ([.bslc (BR.root 0) (.f32 v199), .bslc (BR.root 1) (.f32 v200)] ++ List.replicate (Try.f68.ntmps - ([.bslc (BR.root 0) (.f32 v199), .bslc (BR.root 1) (.f32 v200)] : List DV).length) .undef) []).bind (retD TT Try.f68.results.toList 0) = (laws_eqFloat32S_T v199 v200).bind fun y => .leaf (laws_eqFloat32S_enc v199 v200 y) := by kernel_rfl
theorem laws_eqFloat32S_fn (v199 : List Nat) (v200 : List Nat) (F : Fr) (hm : F.ids.length = 0) (h0 : St F [] F.H0) (hA : DVs.Ok F [] [.bslc (BR.root 0) (.f32 v199), .bslc (BR.root 1) (.f32 v200)]) {y : Bool} (hy : laws_eqFloat32S_g v199 v200 = some y) : ∃ H', FnOk Try.prog 68 (DVs.av F [.bslc (BR.root 0) (.f32 v199), .bslc (BR.root 1) (.f32 v200)]) F.H0 ((laws_eqFloat32S_enc v199 v200 y).1.av F) H' ∧ St F (laws_eqFloat32S_enc v199 v200 y).2 H' ∧ (laws_eqFloat32S_enc v199 v200 y).1.Ok F (laws_eqFloat32S_enc v199 v200 y).2 :=
  fn_fin tok laws_eqFloat32S_hO mixed Try.func68 Try.call68 (by kernel_rfl) (LoopsOk_eq (l := [(0, bodyOf Try.f68 0)]) (by kernel_rfl) ⟨laws_eqFloat32S_l0_ok v199 v200, trivial⟩) (laws_eqFloat32S_den v199 v200) hy hm h0 hA
noncomputable def laws_eqFloat32S_F : DFn := fun args L =>
  match args with
  | [a1, a2] =>
    optT (rowF32 L a1) fun v199 =>
    optT (rowF32 L a2) fun v200 =>
    .call (laws_eqFloat32S_g v199 v200) fun y => .leaf (.bool y, L)
  | _ => .fail
theorem laws_eqFloat32S_Fok : COk Try.prog 68 laws_eqFloat32S_F true := by
  intro F L H args r L' hs ha hr
  unfold laws_eqFloat32S_F at hr
  split at hr
  · rename_i a1 a2
    obtain ⟨v199, hv199, hr⟩ := optT_run hr
    obtain ⟨v200, hv200, hr⟩ := optT_run hr
    simp only [Tree.run] at hr
    obtain ⟨y, hy, hr⟩ := Option.bind_eq_some_iff.1 hr
    simp only [Tree.run, Option.some.injEq, Prod.mk.injEq] at hr
    obtain ⟨rfl, rfl⟩ := hr
    exact call_ok0 hs (fun k => (([a1.av F, a2.av F] : List AV)[k]?).getD .top) [a1, a2] [.bslc (BR.root 0) (.f32 v199), .bslc (BR.root 1) (.f32 v200)] (fun F' h0 hi hρ => ⟨by simp [DVs.av, DV.av, BR.av, hρ], laws_eqFloat32S_fn v199 v200 F' (by rw [hi]; rfl) (st_nil hi) ⟨bslc_ok hi (by rw [h0, hρ]; exact rowF32_ok hs (DVs.okAt ha 0 rfl) hv199), bslc_ok hi (by rw [h0, hρ]; exact rowF32_ok hs (DVs.okAt ha 1 rfl) hv200), trivial⟩ hy⟩) rfl
  · cases hr
/-! laws.eqMatrix -/
noncomputable def laws_eqMatrix_LO (v193 : Int) (v194 : Int) (v195 : List Nat) (v196 : Int) (v197 : Int) (v198 : List Nat) : LOr := fun id e L =>
  match id with
  | _ => .fail
noncomputable def laws_eqMatrix_tab : List (FuncId × DFn × Bool) := [(68, laws_eqFloat32S_F, true)]
theorem laws_eqMatrix_hO : OrcOk Try.prog (tabD laws_eqMatrix_tab) (tabM laws_eqMatrix_tab) := tabD_cons laws_eqFloat32S_Fok (tabD_nil _)
noncomputable def laws_eqMatrix_T (v193 : Int) (v194 : Int) (v195 : List Nat) (v196 : Int) (v197 : Int) (v198 : List Nat) : Tree (Bool) :=
  (.br (!decide (v193 = v196)) (
   .leaf false
  ) (
   (.br (!decide (v194 = v197)) (
    .leaf false
   ) (
    (.call (laws_eqFloat32S_g v195 v198) fun v209 =>
    (.br (!v209) (
     .leaf false
    ) (
     .leaf true
    )))
   ))
  ))

noncomputable def laws_eqMatrix_g (v193 : Int) (v194 : Int) (v195 : List Nat) (v196 : Int) (v197 : Int) (v198 : List Nat) : Option (Bool) := (laws_eqMatrix_T v193 v194 v195 v196 v197 v198).run
def laws_eqMatrix_enc (v193 : Int) (v194 : Int) (v195 : List Nat) (v196 : Int) (v197 : Int) (v198 : List Nat) (y : Bool) : Rs := (.bool y, [])
theorem laws_eqMatrix_den (v193 : Int) (v194 : Int) (v195 : List Nat) (v196 : Int) (v197 : Int) (v198 : List Nat) : (den TT (tabD laws_eqMatrix_tab) (tabM laws_eqMatrix_tab) (laws_eqMatrix_LO v193 v194 v195 v196 v197 v198) (codeOf Try.f38) ([.agg [.int .i64 v193, .int .i64 v194, .bslc (BR.root 0) (.f32 v195)], .agg [.int .i64 v196, .int .i64 v197, .bslc (BR.root 1) (.f32 v198)]] ++ List.replicate (Try.f38.ntmps - ([.agg [.int .i64 v193, .int .i64 v194, .bslc (BR.root 0) (.f32 v195)], .agg [.int .i64 v196, .int .i64 v197, .bslc (BR.root 1) (.f32 v198)]] : List DV).length) .undef) []).bind (retD TT Try.f38.results.toList 0) = (laws_eqMatrix_T v193 v194 v195 v196 v197 v198).bind fun y => .leaf (laws_eqMatrix_enc v193 v194 v195 v196 v197 v198 y) := by kernel_rfl
theorem laws_eqMatrix_fn (v193 : Int) (v194 : Int) (v195 : List Nat) (v196 : Int) (v197 : Int) (v198 : List Nat) (F : Fr) (hm : F.ids.length = 0) (h0 : St F [] F.H0) (hA : DVs.Ok F [] [.agg [.int .i64 v193, .int .i64 v194, .bslc (BR.root 0) (.f32 v195)], .agg [.int .i64 v196, .int .i64 v197, .bslc (BR.root 1) (.f32 v198)]]) {y : Bool} (hy : laws_eqMatrix_g v193 v194 v195 v196 v197 v198 = some y) : ∃ H', FnOk Try.prog 38 (DVs.av F [.agg [.int .i64 v193, .int .i64 v194, .bslc (BR.root 0) (.f32 v195)], .agg [.int .i64 v196, .int .i64 v197, .bslc (BR.root 1) (.f32 v198)]]) F.H0 ((laws_eqMatrix_enc v193 v194 v195 v196 v197 v198 y).1.av F) H' ∧ St F (laws_eqMatrix_enc v193 v194 v195 v196 v197 v198 y).2 H' ∧ (laws_eqMatrix_enc v193 v194 v195 v196 v197 v198 y).1.Ok F (laws_eqMatrix_enc v193 v194 v195 v196 v197 v198 y).2 :=
  fn_fin tok laws_eqMatrix_hO mixed Try.func38 Try.call38 (by kernel_rfl) (LoopsOk_eq (l := []) (by kernel_rfl) trivial) (laws_eqMatrix_den v193 v194 v195 v196 v197 v198) hy hm h0 hA
noncomputable def laws_eqMatrix_F : DFn := fun args L =>
  match args with
  | [.agg [.int .i64 v193, .int .i64 v194, a1], .agg [.int .i64 v196, .int .i64 v197, a2]] =>
    optT (rowF32 L a1) fun v195 =>
    optT (rowF32 L a2) fun v198 =>
    .call (laws_eqMatrix_g v193 v194 v195 v196 v197 v198) fun y => .leaf (.bool y, L)
  | _ => .fail
theorem laws_eqMatrix_Fok : COk Try.prog 38 laws_eqMatrix_F true := by
  intro F L H args r L' hs ha hr
  unfold laws_eqMatrix_F at hr
  split at hr
  · rename_i v193 v194 a1 v196 v197 a2
    obtain ⟨v195, hv195, hr⟩ := optT_run hr
    obtain ⟨v198, hv198, hr⟩ := optT_run hr
    simp only [Tree.run] at hr
    obtain ⟨y, hy, hr⟩ := Option.bind_eq_some_iff.1 hr
    simp only [Tree.run, Option.some.injEq, Prod.mk.injEq] at hr
    obtain ⟨rfl, rfl⟩ := hr
    exact call_ok0 hs (fun k => (([a1.av F, a2.av F] : List AV)[k]?).getD .top) [.agg [.int .i64 v193, .int .i64 v194, a1], .agg [.int .i64 v196, .int .i64 v197, a2]] [.agg [.int .i64 v193, .int .i64 v194, .bslc (BR.root 0) (.f32 v195)], .agg [.int .i64 v196, .int .i64 v197, .bslc (BR.root 1) (.f32 v198)]] (fun F' h0 hi hρ => ⟨by simp [DVs.av, DV.av, BR.av, hρ], laws_eqMatrix_fn v193 v194 v195 v196 v197 v198 F' (by rw [hi]; rfl) (st_nil hi) ⟨⟨trivial, trivial, bslc_ok hi (by rw [h0, hρ]; exact rowF32_ok hs (DVs.okAt (DVs.okAt ha 0 rfl) 2 rfl) hv195), trivial⟩, ⟨trivial, trivial, bslc_ok hi (by rw [h0, hρ]; exact rowF32_ok hs (DVs.okAt (DVs.okAt ha 1 rfl) 2 rfl) hv198), trivial⟩, trivial⟩ hy⟩) rfl
  · cases hr
/-! laws.eqSheet -/
noncomputable def laws_eqSheet_LO (v185 : ByteArray) (v186 : Int) (v187 : Int) (v188 : List Nat) (v189 : ByteArray) (v190 : Int) (v191 : Int) (v192 : List Nat) : LOr := fun id e L =>
  match id with
  | _ => .fail
noncomputable def laws_eqSheet_tab : List (FuncId × DFn × Bool) := [(38, laws_eqMatrix_F, true)]
theorem laws_eqSheet_hO : OrcOk Try.prog (tabD laws_eqSheet_tab) (tabM laws_eqSheet_tab) := tabD_cons laws_eqMatrix_Fok (tabD_nil _)
noncomputable def laws_eqSheet_T (v185 : ByteArray) (v186 : Int) (v187 : Int) (v188 : List Nat) (v189 : ByteArray) (v190 : Int) (v191 : Int) (v192 : List Nat) : Tree (Bool) :=
  (.br (!(v185.toList == v189.toList)) (
   .leaf false
  ) (
   (.call (laws_eqMatrix_g v186 v187 v188 v190 v191 v192) fun v210 =>
   (.br (!v210) (
    .leaf false
   ) (
    .leaf true
   )))
  ))

noncomputable def laws_eqSheet_g (v185 : ByteArray) (v186 : Int) (v187 : Int) (v188 : List Nat) (v189 : ByteArray) (v190 : Int) (v191 : Int) (v192 : List Nat) : Option (Bool) := (laws_eqSheet_T v185 v186 v187 v188 v189 v190 v191 v192).run
def laws_eqSheet_enc (v185 : ByteArray) (v186 : Int) (v187 : Int) (v188 : List Nat) (v189 : ByteArray) (v190 : Int) (v191 : Int) (v192 : List Nat) (y : Bool) : Rs := (.bool y, [])
theorem laws_eqSheet_den (v185 : ByteArray) (v186 : Int) (v187 : Int) (v188 : List Nat) (v189 : ByteArray) (v190 : Int) (v191 : Int) (v192 : List Nat) : (den TT (tabD laws_eqSheet_tab) (tabM laws_eqSheet_tab) (laws_eqSheet_LO v185 v186 v187 v188 v189 v190 v191 v192) (codeOf Try.f13) ([.agg [.str v185, .int .i64 v186, .int .i64 v187, .bslc (BR.root 0) (.f32 v188)], .agg [.str v189, .int .i64 v190, .int .i64 v191, .bslc (BR.root 1) (.f32 v192)]] ++ List.replicate (Try.f13.ntmps - ([.agg [.str v185, .int .i64 v186, .int .i64 v187, .bslc (BR.root 0) (.f32 v188)], .agg [.str v189, .int .i64 v190, .int .i64 v191, .bslc (BR.root 1) (.f32 v192)]] : List DV).length) .undef) []).bind (retD TT Try.f13.results.toList 0) = (laws_eqSheet_T v185 v186 v187 v188 v189 v190 v191 v192).bind fun y => .leaf (laws_eqSheet_enc v185 v186 v187 v188 v189 v190 v191 v192 y) := by kernel_rfl
theorem laws_eqSheet_fn (v185 : ByteArray) (v186 : Int) (v187 : Int) (v188 : List Nat) (v189 : ByteArray) (v190 : Int) (v191 : Int) (v192 : List Nat) (F : Fr) (hm : F.ids.length = 0) (h0 : St F [] F.H0) (hA : DVs.Ok F [] [.agg [.str v185, .int .i64 v186, .int .i64 v187, .bslc (BR.root 0) (.f32 v188)], .agg [.str v189, .int .i64 v190, .int .i64 v191, .bslc (BR.root 1) (.f32 v192)]]) {y : Bool} (hy : laws_eqSheet_g v185 v186 v187 v188 v189 v190 v191 v192 = some y) : ∃ H', FnOk Try.prog 13 (DVs.av F [.agg [.str v185, .int .i64 v186, .int .i64 v187, .bslc (BR.root 0) (.f32 v188)], .agg [.str v189, .int .i64 v190, .int .i64 v191, .bslc (BR.root 1) (.f32 v192)]]) F.H0 ((laws_eqSheet_enc v185 v186 v187 v188 v189 v190 v191 v192 y).1.av F) H' ∧ St F (laws_eqSheet_enc v185 v186 v187 v188 v189 v190 v191 v192 y).2 H' ∧ (laws_eqSheet_enc v185 v186 v187 v188 v189 v190 v191 v192 y).1.Ok F (laws_eqSheet_enc v185 v186 v187 v188 v189 v190 v191 v192 y).2 :=
  fn_fin tok laws_eqSheet_hO mixed Try.func13 Try.call13 (by kernel_rfl) (LoopsOk_eq (l := []) (by kernel_rfl) trivial) (laws_eqSheet_den v185 v186 v187 v188 v189 v190 v191 v192) hy hm h0 hA
noncomputable def laws_eqSheet_F : DFn := fun args L =>
  match args with
  | [.agg [.str v185, .int .i64 v186, .int .i64 v187, a1], .agg [.str v189, .int .i64 v190, .int .i64 v191, a2]] =>
    optT (rowF32 L a1) fun v188 =>
    optT (rowF32 L a2) fun v192 =>
    .call (laws_eqSheet_g v185 v186 v187 v188 v189 v190 v191 v192) fun y => .leaf (.bool y, L)
  | _ => .fail
theorem laws_eqSheet_Fok : COk Try.prog 13 laws_eqSheet_F true := by
  intro F L H args r L' hs ha hr
  unfold laws_eqSheet_F at hr
  split at hr
  · rename_i v185 v186 v187 a1 v189 v190 v191 a2
    obtain ⟨v188, hv188, hr⟩ := optT_run hr
    obtain ⟨v192, hv192, hr⟩ := optT_run hr
    simp only [Tree.run] at hr
    obtain ⟨y, hy, hr⟩ := Option.bind_eq_some_iff.1 hr
    simp only [Tree.run, Option.some.injEq, Prod.mk.injEq] at hr
    obtain ⟨rfl, rfl⟩ := hr
    exact call_ok0 hs (fun k => (([a1.av F, a2.av F] : List AV)[k]?).getD .top) [.agg [.str v185, .int .i64 v186, .int .i64 v187, a1], .agg [.str v189, .int .i64 v190, .int .i64 v191, a2]] [.agg [.str v185, .int .i64 v186, .int .i64 v187, .bslc (BR.root 0) (.f32 v188)], .agg [.str v189, .int .i64 v190, .int .i64 v191, .bslc (BR.root 1) (.f32 v192)]] (fun F' h0 hi hρ => ⟨by simp [DVs.av, DV.av, BR.av, hρ], laws_eqSheet_fn v185 v186 v187 v188 v189 v190 v191 v192 F' (by rw [hi]; rfl) (st_nil hi) ⟨⟨trivial, trivial, trivial, bslc_ok hi (by rw [h0, hρ]; exact rowF32_ok hs (DVs.okAt (DVs.okAt ha 0 rfl) 3 rfl) hv188), trivial⟩, ⟨trivial, trivial, trivial, bslc_ok hi (by rw [h0, hρ]; exact rowF32_ok hs (DVs.okAt (DVs.okAt ha 1 rfl) 3 rfl) hv192), trivial⟩, trivial⟩ hy⟩) rfl
  · cases hr
/-! laws.FnExactStoreSheet -/
noncomputable def laws_FnExactStoreSheet_LO (v1 : ByteArray) (v2 : Int) (v3 : Int) (v4 : List Nat) : LOr := fun id e L =>
  match id with
  | _ => .fail
noncomputable def laws_FnExactStoreSheet_tab : List (FuncId × DFn × Bool) := [(9, laws_szSheet_F, true), (11, laws_toSheet_F, true), (10, spec_StoreSheet_F, true), (12, impl_StoreSheet_F, true), (13, laws_eqSheet_F, true)]
theorem laws_FnExactStoreSheet_hO : OrcOk Try.prog (tabD laws_FnExactStoreSheet_tab) (tabM laws_FnExactStoreSheet_tab) := tabD_cons laws_szSheet_Fok (tabD_cons laws_toSheet_Fok (tabD_cons spec_StoreSheet_Fok (tabD_cons impl_StoreSheet_Fok (tabD_cons laws_eqSheet_Fok (tabD_nil _)))))
noncomputable def laws_FnExactStoreSheet_T (v1 : ByteArray) (v2 : Int) (v3 : Int) (v4 : List Nat) : Tree (Bool) :=
  (.br (decide ((laws_szSheet_v v1 v4 (1048576 : Int)) < (0 : Int))) (
   .leaf true
  ) (
   (.call (laws_toSheet_g v1 v2 v3 v4) fun v32 =>
   (.call (spec_StoreSheet_g v32.1 v32.2.1 v32.2.2.1 v32.2.2.2) fun v93 =>
   (.sum v93 (fun v94 =>
    (.call (laws_toSheet_g v1 v2 v3 v4) fun v96 =>
    (.call (impl_StoreSheet_g v96.1 v96.2.1 v96.2.2.1 v96.2.2.2) fun v181 =>
    (.sum v181 (fun v182 =>
     (.br (!(v182.toList == v94.toList)) (
      .leaf false
     ) (
      (.br (!(false == false)) (
       .leaf false
      ) (
       (.call (laws_toSheet_g v1 v2 v3 v4) fun v184 =>
       (.call (laws_eqSheet_g v96.1 v96.2.1 v96.2.2.1 v96.2.2.2 v184.1 v184.2.1 v184.2.2.1 v184.2.2.2) fun v211 =>
       (.br (!v211) (
        .leaf false
       ) (
        .leaf true
       ))))
      ))
     ))
    ) (fun v183 =>
     (.br (!(v183.toList == v94.toList)) (
      .leaf false
     ) (
      (.br (!(true == false)) (
       .leaf false
      ) (
       (.call (laws_toSheet_g v1 v2 v3 v4) fun v212 =>
       (.call (laws_eqSheet_g v96.1 v96.2.1 v96.2.2.1 v96.2.2.2 v212.1 v212.2.1 v212.2.2.1 v212.2.2.2) fun v213 =>
       (.br (!v213) (
        .leaf false
       ) (
        .leaf true
       ))))
      ))
     ))
    ))))
   ) (fun v95 =>
    (.call (laws_toSheet_g v1 v2 v3 v4) fun v214 =>
    (.call (impl_StoreSheet_g v214.1 v214.2.1 v214.2.2.1 v214.2.2.2) fun v215 =>
    (.sum v215 (fun v216 =>
     (.br (!(v216.toList == v95.toList)) (
      .leaf false
     ) (
      (.br (!(false == true)) (
       .leaf false
      ) (
       (.call (laws_toSheet_g v1 v2 v3 v4) fun v218 =>
       (.call (laws_eqSheet_g v214.1 v214.2.1 v214.2.2.1 v214.2.2.2 v218.1 v218.2.1 v218.2.2.1 v218.2.2.2) fun v219 =>
       (.br (!v219) (
        .leaf false
       ) (
        .leaf true
       ))))
      ))
     ))
    ) (fun v217 =>
     (.br (!(v217.toList == v95.toList)) (
      .leaf false
     ) (
      (.br (!(true == true)) (
       .leaf false
      ) (
       (.call (laws_toSheet_g v1 v2 v3 v4) fun v220 =>
       (.call (laws_eqSheet_g v214.1 v214.2.1 v214.2.2.1 v214.2.2.2 v220.1 v220.2.1 v220.2.2.1 v220.2.2.2) fun v221 =>
       (.br (!v221) (
        .leaf false
       ) (
        .leaf true
       ))))
      ))
     ))
    ))))
   ))))
  ))

noncomputable def laws_FnExactStoreSheet_g (v1 : ByteArray) (v2 : Int) (v3 : Int) (v4 : List Nat) : Option (Bool) := (laws_FnExactStoreSheet_T v1 v2 v3 v4).run
def laws_FnExactStoreSheet_enc (v1 : ByteArray) (v2 : Int) (v3 : Int) (v4 : List Nat) (y : Bool) : Rs := (.bool y, [])
theorem laws_FnExactStoreSheet_den (v1 : ByteArray) (v2 : Int) (v3 : Int) (v4 : List Nat) : (den TT (tabD laws_FnExactStoreSheet_tab) (tabM laws_FnExactStoreSheet_tab) (laws_FnExactStoreSheet_LO v1 v2 v3 v4) (codeOf Try.f3) ([.agg [.str v1, .int .i64 v2, .int .i64 v3, .bslc (BR.root 0) (.f32 v4)]] ++ List.replicate (Try.f3.ntmps - ([.agg [.str v1, .int .i64 v2, .int .i64 v3, .bslc (BR.root 0) (.f32 v4)]] : List DV).length) .undef) []).bind (retD TT Try.f3.results.toList 0) = (laws_FnExactStoreSheet_T v1 v2 v3 v4).bind fun y => .leaf (laws_FnExactStoreSheet_enc v1 v2 v3 v4 y) := by kernel_rfl
theorem laws_FnExactStoreSheet_fn (v1 : ByteArray) (v2 : Int) (v3 : Int) (v4 : List Nat) (F : Fr) (hm : F.ids.length = 0) (h0 : St F [] F.H0) (hA : DVs.Ok F [] [.agg [.str v1, .int .i64 v2, .int .i64 v3, .bslc (BR.root 0) (.f32 v4)]]) {y : Bool} (hy : laws_FnExactStoreSheet_g v1 v2 v3 v4 = some y) : ∃ H', FnOk Try.prog 3 (DVs.av F [.agg [.str v1, .int .i64 v2, .int .i64 v3, .bslc (BR.root 0) (.f32 v4)]]) F.H0 ((laws_FnExactStoreSheet_enc v1 v2 v3 v4 y).1.av F) H' ∧ St F (laws_FnExactStoreSheet_enc v1 v2 v3 v4 y).2 H' ∧ (laws_FnExactStoreSheet_enc v1 v2 v3 v4 y).1.Ok F (laws_FnExactStoreSheet_enc v1 v2 v3 v4 y).2 :=
  fn_fin tok laws_FnExactStoreSheet_hO mixed Try.func3 Try.call3 (by kernel_rfl) (LoopsOk_eq (l := []) (by kernel_rfl) trivial) (laws_FnExactStoreSheet_den v1 v2 v3 v4) hy hm h0 hA
noncomputable def laws_FnExactStoreSheet_F : DFn := fun args L =>
  match args with
  | [.agg [.str v1, .int .i64 v2, .int .i64 v3, a1]] =>
    optT (rowF32 L a1) fun v4 =>
    .call (laws_FnExactStoreSheet_g v1 v2 v3 v4) fun y => .leaf (.bool y, L)
  | _ => .fail
theorem laws_FnExactStoreSheet_Fok : COk Try.prog 3 laws_FnExactStoreSheet_F true := by
  intro F L H args r L' hs ha hr
  unfold laws_FnExactStoreSheet_F at hr
  split at hr
  · rename_i v1 v2 v3 a1
    obtain ⟨v4, hv4, hr⟩ := optT_run hr
    simp only [Tree.run] at hr
    obtain ⟨y, hy, hr⟩ := Option.bind_eq_some_iff.1 hr
    simp only [Tree.run, Option.some.injEq, Prod.mk.injEq] at hr
    obtain ⟨rfl, rfl⟩ := hr
    exact call_ok0 hs (fun k => (([a1.av F] : List AV)[k]?).getD .top) [.agg [.str v1, .int .i64 v2, .int .i64 v3, a1]] [.agg [.str v1, .int .i64 v2, .int .i64 v3, .bslc (BR.root 0) (.f32 v4)]] (fun F' h0 hi hρ => ⟨by simp [DVs.av, DV.av, BR.av, hρ], laws_FnExactStoreSheet_fn v1 v2 v3 v4 F' (by rw [hi]; rfl) (st_nil hi) ⟨⟨trivial, trivial, trivial, bslc_ok hi (by rw [h0, hρ]; exact rowF32_ok hs (DVs.okAt (DVs.okAt ha 0 rfl) 3 rfl) hv4), trivial⟩, trivial⟩ hy⟩) rfl
  · cases hr
/-! laws.szFloat32S -/
noncomputable def laws_szFloat32S_len_LO (v235 : Nat) (v236 : Int) : LOr := fun id e L =>
  match id with
  | _ => .fail
noncomputable def laws_szFloat32S_len_tab : List (FuncId × DFn × Bool) := []
theorem laws_szFloat32S_len_hO : OrcOk Try.prog (tabD laws_szFloat32S_len_tab) (tabM laws_szFloat32S_len_tab) := tabD_nil _
noncomputable def laws_szFloat32S_len_T (v235 : Nat) (v236 : Int) : Tree (Int) :=
  (.br (decide (IntKind.i64.wrap (v236 - ((v235 : Nat) : Int)) < (0 : Int))) (
   .leaf (-1 : Int)
  ) (
   .leaf (IntKind.i64.wrap (v236 - ((v235 : Nat) : Int)))
  ))

noncomputable def laws_szFloat32S_len_g (v235 : Nat) (v236 : Int) : Option (Int) := (laws_szFloat32S_len_T v235 v236).run
def laws_szFloat32S_len_enc (v235 : Nat) (v236 : Int) (y : Int) : Rs := (.int .i64 y, [])
theorem laws_szFloat32S_len_den (v235 : Nat) (v236 : Int) : (den TT (tabD laws_szFloat32S_len_tab) (tabM laws_szFloat32S_len_tab) (laws_szFloat32S_len_LO v235 v236) (codeOf Try.f59) ([.hslc (BR.root 0) v235, .int .i64 v236] ++ List.replicate (Try.f59.ntmps - ([.hslc (BR.root 0) v235, .int .i64 v236] : List DV).length) .undef) []).bind (retD TT Try.f59.results.toList 0) = (laws_szFloat32S_len_T v235 v236).bind fun y => .leaf (laws_szFloat32S_len_enc v235 v236 y) := by kernel_rfl
theorem laws_szFloat32S_len_fn (v235 : Nat) (v236 : Int) (F : Fr) (hm : F.ids.length = 0) (h0 : St F [] F.H0) (hA : DVs.Ok F [] [.hslc (BR.root 0) v235, .int .i64 v236]) {y : Int} (hy : laws_szFloat32S_len_g v235 v236 = some y) : ∃ H', FnOk Try.prog 59 (DVs.av F [.hslc (BR.root 0) v235, .int .i64 v236]) F.H0 ((laws_szFloat32S_len_enc v235 v236 y).1.av F) H' ∧ St F (laws_szFloat32S_len_enc v235 v236 y).2 H' ∧ (laws_szFloat32S_len_enc v235 v236 y).1.Ok F (laws_szFloat32S_len_enc v235 v236 y).2 :=
  fn_fin tok laws_szFloat32S_len_hO mixed Try.func59 Try.call59 (by kernel_rfl) (LoopsOk_eq (l := []) (by kernel_rfl) trivial) (laws_szFloat32S_len_den v235 v236) hy hm h0 hA
def laws_szFloat32S_len_v (v235 : Nat) (v236 : Int) : Int :=
  if (decide (IntKind.i64.wrap (v236 - ((v235 : Nat) : Int)) < (0 : Int))) = true then (
   (-1 : Int)
  ) else (
   IntKind.i64.wrap (v236 - ((v235 : Nat) : Int))
  )
theorem laws_szFloat32S_len_tot (v235 : Nat) (v236 : Int) : laws_szFloat32S_len_g v235 v236 = some (laws_szFloat32S_len_v v235 v236) := by
  unfold laws_szFloat32S_len_g laws_szFloat32S_len_T laws_szFloat32S_len_v
  simp only [Tree.run]
  repeat' (first | rfl | split)
noncomputable def laws_szFloat32S_len_F : DFn := fun args L =>
  match args with
  | [a1, .int .i64 v236] =>
    optT (lenV L a1) fun v235 =>
    .leaf (.int .i64 (laws_szFloat32S_len_v v235 v236), L)
  | _ => .fail
theorem laws_szFloat32S_len_Fok : COk Try.prog 59 laws_szFloat32S_len_F true := by
  intro F L H args r L' hs ha hr
  unfold laws_szFloat32S_len_F at hr
  split at hr
  · rename_i a1 v236
    obtain ⟨v235, hv235, hr⟩ := optT_run hr
    have hy := laws_szFloat32S_len_tot v235 v236
    generalize laws_szFloat32S_len_v v235 v236 = y at hy hr
    simp only [Tree.run, Option.some.injEq, Prod.mk.injEq] at hr
    obtain ⟨rfl, rfl⟩ := hr
    exact call_ok0 hs (fun k => (([a1.av F] : List AV)[k]?).getD .top) [a1, .int .i64 v236] [.hslc (BR.root 0) v235, .int .i64 v236] (fun F' h0 hi hρ => ⟨by simp [DVs.av, DV.av, BR.av, hρ], laws_szFloat32S_len_fn v235 v236 F' (by rw [hi]; rfl) (st_nil hi) ⟨hslc_ok hi (by rw [h0, hρ]; exact lenV_ok hs (DVs.okAt ha 0 rfl) hv235), trivial, trivial⟩ hy⟩) rfl
  · cases hr
/-! laws.szMatrix -/
noncomputable def laws_szMatrix_len_LO (v231 : Int) (v232 : Int) (v233 : Nat) (v234 : Int) : LOr := fun id e L =>
  match id with
  | _ => .fail
noncomputable def laws_szMatrix_len_tab : List (FuncId × DFn × Bool) := [(59, laws_szFloat32S_len_F, true)]
theorem laws_szMatrix_len_hO : OrcOk Try.prog (tabD laws_szMatrix_len_tab) (tabM laws_szMatrix_len_tab) := tabD_cons laws_szFloat32S_len_Fok (tabD_nil _)
noncomputable def laws_szMatrix_len_T (v233 : Nat) (v234 : Int) : Tree (Int) :=
  (.br (decide ((laws_szFloat32S_len_v v233 v234) < (0 : Int))) (
   .leaf (-1 : Int)
  ) (
   .leaf (laws_szFloat32S_len_v v233 v234)
  ))

noncomputable def laws_szMatrix_len_g (v233 : Nat) (v234 : Int) : Option (Int) := (laws_szMatrix_len_T v233 v234).run
def laws_szMatrix_len_enc (v231 : Int) (v232 : Int) (v233 : Nat) (v234 : Int) (y : Int) : Rs := (.int .i64 y, [])
theorem laws_szMatrix_len_den (v231 : Int) (v232 : Int) (v233 : Nat) (v234 : Int) : (den TT (tabD laws_szMatrix_len_tab) (tabM laws_szMatrix_len_tab) (laws_szMatrix_len_LO v231 v232 v233 v234) (codeOf Try.f33) ([.agg [.int .i64 v231, .int .i64 v232, .hslc (BR.root 0) v233], .int .i64 v234] ++ List.replicate (Try.f33.ntmps - ([.agg [.int .i64 v231, .int .i64 v232, .hslc (BR.root 0) v233], .int .i64 v234] : List DV).length) .undef) []).bind (retD TT Try.f33.results.toList 0) = (laws_szMatrix_len_T v233 v234).bind fun y => .leaf (laws_szMatrix_len_enc v231 v232 v233 v234 y) := by kernel_rfl
theorem laws_szMatrix_len_fn (v231 : Int) (v232 : Int) (v233 : Nat) (v234 : Int) (F : Fr) (hm : F.ids.length = 0) (h0 : St F [] F.H0) (hA : DVs.Ok F [] [.agg [.int .i64 v231, .int .i64 v232, .hslc (BR.root 0) v233], .int .i64 v234]) {y : Int} (hy : laws_szMatrix_len_g v233 v234 = some y) : ∃ H', FnOk Try.prog 33 (DVs.av F [.agg [.int .i64 v231, .int .i64 v232, .hslc (BR.root 0) v233], .int .i64 v234]) F.H0 ((laws_szMatrix_len_enc v231 v232 v233 v234 y).1.av F) H' ∧ St F (laws_szMatrix_len_enc v231 v232 v233 v234 y).2 H' ∧ (laws_szMatrix_len_enc v231 v232 v233 v234 y).1.Ok F (laws_szMatrix_len_enc v231 v232 v233 v234 y).2 :=
  fn_fin tok laws_szMatrix_len_hO mixed Try.func33 Try.call33 (by kernel_rfl) (LoopsOk_eq (l := []) (by kernel_rfl) trivial) (laws_szMatrix_len_den v231 v232 v233 v234) hy hm h0 hA
def laws_szMatrix_len_v (v233 : Nat) (v234 : Int) : Int :=
  if (decide ((laws_szFloat32S_len_v v233 v234) < (0 : Int))) = true then (
   (-1 : Int)
  ) else (
   (laws_szFloat32S_len_v v233 v234)
  )
theorem laws_szMatrix_len_tot (v233 : Nat) (v234 : Int) : laws_szMatrix_len_g v233 v234 = some (laws_szMatrix_len_v v233 v234) := by
  unfold laws_szMatrix_len_g laws_szMatrix_len_T laws_szMatrix_len_v
  simp only [Tree.run]
  repeat' (first | rfl | split)
noncomputable def laws_szMatrix_len_F : DFn := fun args L =>
  match args with
  | [.agg [.int .i64 v231, .int .i64 v232, a1], .int .i64 v234] =>
    optT (lenV L a1) fun v233 =>
    .leaf (.int .i64 (laws_szMatrix_len_v v233 v234), L)
  | _ => .fail
theorem laws_szMatrix_len_Fok : COk Try.prog 33 laws_szMatrix_len_F true := by
  intro F L H args r L' hs ha hr
  unfold laws_szMatrix_len_F at hr
  split at hr
  · rename_i v231 v232 a1 v234
    obtain ⟨v233, hv233, hr⟩ := optT_run hr
    have hy := laws_szMatrix_len_tot v233 v234
    generalize laws_szMatrix_len_v v233 v234 = y at hy hr
    simp only [Tree.run, Option.some.injEq, Prod.mk.injEq] at hr
    obtain ⟨rfl, rfl⟩ := hr
    exact call_ok0 hs (fun k => (([a1.av F] : List AV)[k]?).getD .top) [.agg [.int .i64 v231, .int .i64 v232, a1], .int .i64 v234] [.agg [.int .i64 v231, .int .i64 v232, .hslc (BR.root 0) v233], .int .i64 v234] (fun F' h0 hi hρ => ⟨by simp [DVs.av, DV.av, BR.av, hρ], laws_szMatrix_len_fn v231 v232 v233 v234 F' (by rw [hi]; rfl) (st_nil hi) ⟨⟨trivial, trivial, hslc_ok hi (by rw [h0, hρ]; exact lenV_ok hs (DVs.okAt (DVs.okAt ha 0 rfl) 2 rfl) hv233), trivial⟩, trivial, trivial⟩ hy⟩) rfl
  · cases hr
/-! laws.szSheet -/
noncomputable def laws_szSheet_len_LO (v226 : ByteArray) (v227 : Int) (v228 : Int) (v229 : Nat) (v230 : Int) : LOr := fun id e L =>
  match id with
  | _ => .fail
noncomputable def laws_szSheet_len_tab : List (FuncId × DFn × Bool) := [(33, laws_szMatrix_len_F, true)]
theorem laws_szSheet_len_hO : OrcOk Try.prog (tabD laws_szSheet_len_tab) (tabM laws_szSheet_len_tab) := tabD_cons laws_szMatrix_len_Fok (tabD_nil _)
noncomputable def laws_szSheet_len_T (v226 : ByteArray) (v229 : Nat) (v230 : Int) : Tree (Int) :=
  (.br (decide (IntKind.i64.wrap (v230 - ((v226.size : Nat) : Int)) < (0 : Int))) (
   .leaf (-1 : Int)
  ) (
   (.br (decide ((laws_szMatrix_len_v v229 (IntKind.i64.wrap (v230 - ((v226.size : Nat) : Int)))) < (0 : Int))) (
    .leaf (-1 : Int)
   ) (
    .leaf (laws_szMatrix_len_v v229 (IntKind.i64.wrap (v230 - ((v226.size : Nat) : Int))))
   ))
  ))

noncomputable def laws_szSheet_len_g (v226 : ByteArray) (v229 : Nat) (v230 : Int) : Option (Int) := (laws_szSheet_len_T v226 v229 v230).run
def laws_szSheet_len_enc (v226 : ByteArray) (v227 : Int) (v228 : Int) (v229 : Nat) (v230 : Int) (y : Int) : Rs := (.int .i64 y, [])
theorem laws_szSheet_len_den (v226 : ByteArray) (v227 : Int) (v228 : Int) (v229 : Nat) (v230 : Int) : (den TT (tabD laws_szSheet_len_tab) (tabM laws_szSheet_len_tab) (laws_szSheet_len_LO v226 v227 v228 v229 v230) (codeOf Try.f9) ([.agg [.str v226, .int .i64 v227, .int .i64 v228, .hslc (BR.root 0) v229], .int .i64 v230] ++ List.replicate (Try.f9.ntmps - ([.agg [.str v226, .int .i64 v227, .int .i64 v228, .hslc (BR.root 0) v229], .int .i64 v230] : List DV).length) .undef) []).bind (retD TT Try.f9.results.toList 0) = (laws_szSheet_len_T v226 v229 v230).bind fun y => .leaf (laws_szSheet_len_enc v226 v227 v228 v229 v230 y) := by kernel_rfl
theorem laws_szSheet_len_fn (v226 : ByteArray) (v227 : Int) (v228 : Int) (v229 : Nat) (v230 : Int) (F : Fr) (hm : F.ids.length = 0) (h0 : St F [] F.H0) (hA : DVs.Ok F [] [.agg [.str v226, .int .i64 v227, .int .i64 v228, .hslc (BR.root 0) v229], .int .i64 v230]) {y : Int} (hy : laws_szSheet_len_g v226 v229 v230 = some y) : ∃ H', FnOk Try.prog 9 (DVs.av F [.agg [.str v226, .int .i64 v227, .int .i64 v228, .hslc (BR.root 0) v229], .int .i64 v230]) F.H0 ((laws_szSheet_len_enc v226 v227 v228 v229 v230 y).1.av F) H' ∧ St F (laws_szSheet_len_enc v226 v227 v228 v229 v230 y).2 H' ∧ (laws_szSheet_len_enc v226 v227 v228 v229 v230 y).1.Ok F (laws_szSheet_len_enc v226 v227 v228 v229 v230 y).2 :=
  fn_fin tok laws_szSheet_len_hO mixed Try.func9 Try.call9 (by kernel_rfl) (LoopsOk_eq (l := []) (by kernel_rfl) trivial) (laws_szSheet_len_den v226 v227 v228 v229 v230) hy hm h0 hA
def laws_szSheet_len_v (v226 : ByteArray) (v229 : Nat) (v230 : Int) : Int :=
  if (decide (IntKind.i64.wrap (v230 - ((v226.size : Nat) : Int)) < (0 : Int))) = true then (
   (-1 : Int)
  ) else (
   if (decide ((laws_szMatrix_len_v v229 (IntKind.i64.wrap (v230 - ((v226.size : Nat) : Int)))) < (0 : Int))) = true then (
    (-1 : Int)
   ) else (
    (laws_szMatrix_len_v v229 (IntKind.i64.wrap (v230 - ((v226.size : Nat) : Int))))
   )
  )
theorem laws_szSheet_len_tot (v226 : ByteArray) (v229 : Nat) (v230 : Int) : laws_szSheet_len_g v226 v229 v230 = some (laws_szSheet_len_v v226 v229 v230) := by
  unfold laws_szSheet_len_g laws_szSheet_len_T laws_szSheet_len_v
  simp only [Tree.run]
  repeat' (first | rfl | split)
noncomputable def laws_szSheet_len_F : DFn := fun args L =>
  match args with
  | [.agg [.str v226, .int .i64 v227, .int .i64 v228, a1], .int .i64 v230] =>
    optT (lenV L a1) fun v229 =>
    .leaf (.int .i64 (laws_szSheet_len_v v226 v229 v230), L)
  | _ => .fail
theorem laws_szSheet_len_Fok : COk Try.prog 9 laws_szSheet_len_F true := by
  intro F L H args r L' hs ha hr
  unfold laws_szSheet_len_F at hr
  split at hr
  · rename_i v226 v227 v228 a1 v230
    obtain ⟨v229, hv229, hr⟩ := optT_run hr
    have hy := laws_szSheet_len_tot v226 v229 v230
    generalize laws_szSheet_len_v v226 v229 v230 = y at hy hr
    simp only [Tree.run, Option.some.injEq, Prod.mk.injEq] at hr
    obtain ⟨rfl, rfl⟩ := hr
    exact call_ok0 hs (fun k => (([a1.av F] : List AV)[k]?).getD .top) [.agg [.str v226, .int .i64 v227, .int .i64 v228, a1], .int .i64 v230] [.agg [.str v226, .int .i64 v227, .int .i64 v228, .hslc (BR.root 0) v229], .int .i64 v230] (fun F' h0 hi hρ => ⟨by simp [DVs.av, DV.av, BR.av, hρ], laws_szSheet_len_fn v226 v227 v228 v229 v230 F' (by rw [hi]; rfl) (st_nil hi) ⟨⟨trivial, trivial, trivial, hslc_ok hi (by rw [h0, hρ]; exact lenV_ok hs (DVs.okAt (DVs.okAt ha 0 rfl) 3 rfl) hv229), trivial⟩, trivial, trivial⟩ hy⟩) rfl
  · cases hr
/-! laws.FnExactStoreSheet -/
noncomputable def laws_FnExactStoreSheet_len_LO (v222 : ByteArray) (v223 : Int) (v224 : Int) (v225 : Nat) : LOr := fun id e L =>
  match id with
  | _ => .fail
noncomputable def laws_FnExactStoreSheet_len_tab : List (FuncId × DFn × Bool) := [(9, laws_szSheet_len_F, true)]
theorem laws_FnExactStoreSheet_len_hO : OrcOk Try.prog (tabD laws_FnExactStoreSheet_len_tab) (tabM laws_FnExactStoreSheet_len_tab) := tabD_cons laws_szSheet_len_Fok (tabD_nil _)
noncomputable def laws_FnExactStoreSheet_len_T (v222 : ByteArray) (v225 : Nat) : Tree (Bool) :=
  (.br (decide ((laws_szSheet_len_v v222 v225 (1048576 : Int)) < (0 : Int))) (
   .leaf true
  ) (
   .fail
  ))

noncomputable def laws_FnExactStoreSheet_len_g (v222 : ByteArray) (v225 : Nat) : Option (Bool) := (laws_FnExactStoreSheet_len_T v222 v225).run
def laws_FnExactStoreSheet_len_enc (v222 : ByteArray) (v223 : Int) (v224 : Int) (v225 : Nat) (y : Bool) : Rs := (.bool y, [])
theorem laws_FnExactStoreSheet_len_den (v222 : ByteArray) (v223 : Int) (v224 : Int) (v225 : Nat) : (den TT (tabD laws_FnExactStoreSheet_len_tab) (tabM laws_FnExactStoreSheet_len_tab) (laws_FnExactStoreSheet_len_LO v222 v223 v224 v225) (codeOf Try.f3) ([.agg [.str v222, .int .i64 v223, .int .i64 v224, .hslc (BR.root 0) v225]] ++ List.replicate (Try.f3.ntmps - ([.agg [.str v222, .int .i64 v223, .int .i64 v224, .hslc (BR.root 0) v225]] : List DV).length) .undef) []).bind (retD TT Try.f3.results.toList 0) = (laws_FnExactStoreSheet_len_T v222 v225).bind fun y => .leaf (laws_FnExactStoreSheet_len_enc v222 v223 v224 v225 y) := by kernel_rfl
theorem laws_FnExactStoreSheet_len_fn (v222 : ByteArray) (v223 : Int) (v224 : Int) (v225 : Nat) (F : Fr) (hm : F.ids.length = 0) (h0 : St F [] F.H0) (hA : DVs.Ok F [] [.agg [.str v222, .int .i64 v223, .int .i64 v224, .hslc (BR.root 0) v225]]) {y : Bool} (hy : laws_FnExactStoreSheet_len_g v222 v225 = some y) : ∃ H', FnOk Try.prog 3 (DVs.av F [.agg [.str v222, .int .i64 v223, .int .i64 v224, .hslc (BR.root 0) v225]]) F.H0 ((laws_FnExactStoreSheet_len_enc v222 v223 v224 v225 y).1.av F) H' ∧ St F (laws_FnExactStoreSheet_len_enc v222 v223 v224 v225 y).2 H' ∧ (laws_FnExactStoreSheet_len_enc v222 v223 v224 v225 y).1.Ok F (laws_FnExactStoreSheet_len_enc v222 v223 v224 v225 y).2 :=
  fn_fin tok laws_FnExactStoreSheet_len_hO mixed Try.func3 Try.call3 (by kernel_rfl) (LoopsOk_eq (l := []) (by kernel_rfl) trivial) (laws_FnExactStoreSheet_len_den v222 v223 v224 v225) hy hm h0 hA
noncomputable def laws_FnExactStoreSheet_len_F : DFn := fun args L =>
  match args with
  | [.agg [.str v222, .int .i64 v223, .int .i64 v224, a1]] =>
    optT (lenV L a1) fun v225 =>
    .call (laws_FnExactStoreSheet_len_g v222 v225) fun y => .leaf (.bool y, L)
  | _ => .fail
theorem laws_FnExactStoreSheet_len_Fok : COk Try.prog 3 laws_FnExactStoreSheet_len_F true := by
  intro F L H args r L' hs ha hr
  unfold laws_FnExactStoreSheet_len_F at hr
  split at hr
  · rename_i v222 v223 v224 a1
    obtain ⟨v225, hv225, hr⟩ := optT_run hr
    simp only [Tree.run] at hr
    obtain ⟨y, hy, hr⟩ := Option.bind_eq_some_iff.1 hr
    simp only [Tree.run, Option.some.injEq, Prod.mk.injEq] at hr
    obtain ⟨rfl, rfl⟩ := hr
    exact call_ok0 hs (fun k => (([a1.av F] : List AV)[k]?).getD .top) [.agg [.str v222, .int .i64 v223, .int .i64 v224, a1]] [.agg [.str v222, .int .i64 v223, .int .i64 v224, .hslc (BR.root 0) v225]] (fun F' h0 hi hρ => ⟨by simp [DVs.av, DV.av, BR.av, hρ], laws_FnExactStoreSheet_len_fn v222 v223 v224 v225 F' (by rw [hi]; rfl) (st_nil hi) ⟨⟨trivial, trivial, trivial, hslc_ok hi (by rw [h0, hρ]; exact lenV_ok hs (DVs.okAt (DVs.okAt ha 0 rfl) 3 rfl) hv225), trivial⟩, trivial⟩ hy⟩) rfl
  · cases hr
end Go.Proofs.Ythdmkdkbfhoahaa.AM
