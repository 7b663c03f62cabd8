/- Functions: what they come to. -/
import Derived.Test.YthdmkdkbfhoahaaBase
set_option maxRecDepth 100000
set_option maxHeartbeats 4000000
set_option linter.unusedSimpArgs false
set_option linter.unusedVariables false
namespace Go.Proofs.Ythdmkdkbfhoahaa.AM
open Go.Proofs
/-! laws.szFloat32S -/
noncomputable def laws_szFloat32S_LO (v25 : List Nat) (v26 : Int) : LOr := fun id e L =>
  match id with
  | _ => .fail
noncomputable def laws_szFloat32S_tab : List (FuncId × DFn × Bool) := []
theorem laws_szFloat32S_hO : OrcOk Try.prog (tabD laws_szFloat32S_tab) (tabM laws_szFloat32S_tab) := tabD_nil _
noncomputable def laws_szFloat32S_T (v25 : List Nat) (v26 : Int) : Tree (Int) :=
  (.br (decide (IntKind.i64.wrap (v26 - ((v25.length : Nat) : Int)) < (0 : Int))) (
  .leaf (-1 : Int)
  ) (
  .leaf (IntKind.i64.wrap (v26 - ((v25.length : Nat) : Int)))
  ))

noncomputable def laws_szFloat32S_g (v25 : List Nat) (v26 : Int) : Option (Int) := (laws_szFloat32S_T v25 v26).run
def laws_szFloat32S_enc (v25 : List Nat) (v26 : Int) (y : Int) : Rs := (.int .i64 y, [])
theorem laws_szFloat32S_den (v25 : List Nat) (v26 : Int) : (den TT (tabD laws_szFloat32S_tab) (tabM laws_szFloat32S_tab) (laws_szFloat32S_LO v25 v26) (codeOf Try.f59) ([.bslc (BR.root 0) (.f32 v25), .int .i64 v26] ++ List.replicate (Try.f59.ntmps - ([.bslc (BR.root 0) (.f32 v25), .int .i64 v26] : List DV).length) .undef) []).bind (retD TT Try.f59.results.toList 0) = (laws_szFloat32S_T v25 v26).bind fun y => .leaf (laws_szFloat32S_enc v25 v26 y) := by kernel_rfl
theorem laws_szFloat32S_fn (v25 : List Nat) (v26 : Int) (F : Fr) (h0 : St F [] F.H0) (hA : DVs.Ok F [] [.bslc (BR.root 0) (.f32 v25), .int .i64 v26]) {y : Int} (hy : laws_szFloat32S_g v25 v26 = some y) : ∃ F' H', Fwd 0 F F' [] (laws_szFloat32S_enc v25 v26 y).2 ∧ FnOk Try.prog 59 (DVs.av F [.bslc (BR.root 0) (.f32 v25), .int .i64 v26]) F.H0 ((laws_szFloat32S_enc v25 v26 y).1.av F') H' ∧ St F' (laws_szFloat32S_enc v25 v26 y).2 H' ∧ (laws_szFloat32S_enc v25 v26 y).1.Ok F' (laws_szFloat32S_enc v25 v26 y).2 :=
  fn_fin tok laws_szFloat32S_hO mixed Try.func59 Try.call59 (by kernel_rfl) (LoopsOk_eq (l := []) (by kernel_rfl) trivial) (laws_szFloat32S_den v25 v26) hy h0 hA
def laws_szFloat32S_v (v25 : List Nat) (v26 : Int) : Int :=
  if (decide (IntKind.i64.wrap (v26 - ((v25.length : Nat) : Int)) < (0 : Int))) = true then (
  (-1 : Int)
  ) else (
  IntKind.i64.wrap (v26 - ((v25.length : Nat) : Int))
  )
theorem laws_szFloat32S_tot (v25 : List Nat) (v26 : Int) : laws_szFloat32S_g v25 v26 = some (laws_szFloat32S_v v25 v26) := by
  unfold laws_szFloat32S_g laws_szFloat32S_T laws_szFloat32S_v
  simp only [Tree.run]
  repeat' (first | rfl | split)
noncomputable def laws_szFloat32S_F : DFn := fun args L =>
  match args with
  | [a1, .int .i64 v26] =>
    optT (rowF32 L a1) fun v25 =>
    .leaf (.int .i64 (laws_szFloat32S_v v25 v26), L)
  | _ => .fail
theorem laws_szFloat32S_Fok : COk Try.prog 59 laws_szFloat32S_F true := by
  intro F L H args r L' hs ha hr
  unfold laws_szFloat32S_F at hr
  split at hr
  · rename_i a1 v26
    obtain ⟨v25, hv25, hr⟩ := optT_run hr
    have hy := laws_szFloat32S_tot v25 v26
    generalize laws_szFloat32S_v v25 v26 = y at hy hr
    simp only [Tree.run, Option.some.injEq, Prod.mk.injEq] at hr
    obtain ⟨rfl, rfl⟩ := hr
    exact call_ok0 hs (fun k => (([a1.av F] : List AV)[k]?).getD .top) [a1, .int .i64 v26] [.bslc (BR.root 0) (.f32 v25), .int .i64 v26] (fun F' h0 hi hρ => ⟨by simp [DVs.av, DV.av, BR.av, hρ], laws_szFloat32S_fn v25 v26 F' (st_nil hi) ⟨bslc_ok hi (by rw [h0, hρ]; exact rowF32_ok hs (DVs.okAt ha 0 rfl) hv25), trivial, trivial⟩ hy⟩) rfl
  · cases hr
/-! laws.szMatrix -/
noncomputable def laws_szMatrix_LO (v21 : Int) (v22 : Int) (v23 : List Nat) (v24 : Int) : LOr := fun id e L =>
  match id with
  | _ => .fail
noncomputable def laws_szMatrix_tab : List (FuncId × DFn × Bool) := [(59, laws_szFloat32S_F, true)]
theorem laws_szMatrix_hO : OrcOk Try.prog (tabD laws_szMatrix_tab) (tabM laws_szMatrix_tab) := tabD_cons laws_szFloat32S_Fok (tabD_nil _)
noncomputable def laws_szMatrix_T (v23 : List Nat) (v24 : Int) : Tree (Int) :=
  (.br (decide ((laws_szFloat32S_v v23 v24) < (0 : Int))) (
  .leaf (-1 : Int)
  ) (
  .leaf (laws_szFloat32S_v v23 v24)
  ))

noncomputable def laws_szMatrix_g (v23 : List Nat) (v24 : Int) : Option (Int) := (laws_szMatrix_T v23 v24).run
def laws_szMatrix_enc (v21 : Int) (v22 : Int) (v23 : List Nat) (v24 : Int) (y : Int) : Rs := (.int .i64 y, [])
theorem laws_szMatrix_den (v21 : Int) (v22 : Int) (v23 : List Nat) (v24 : Int) : (den TT (tabD laws_szMatrix_tab) (tabM laws_szMatrix_tab) (laws_szMatrix_LO v21 v22 v23 v24) (codeOf Try.f33) ([.agg [.int .i64 v21, .int .i64 v22, .bslc (BR.root 0) (.f32 v23)], .int .i64 v24] ++ List.replicate (Try.f33.ntmps - ([.agg [.int .i64 v21, .int .i64 v22, .bslc (BR.root 0) (.f32 v23)], .int .i64 v24] : List DV).length) .undef) []).bind (retD TT Try.f33.results.toList 0) = (laws_szMatrix_T v23 v24).bind fun y => .leaf (laws_szMatrix_enc v21 v22 v23 v24 y) := by kernel_rfl
theorem laws_szMatrix_fn (v21 : Int) (v22 : Int) (v23 : List Nat) (v24 : Int) (F : Fr) (h0 : St F [] F.H0) (hA : DVs.Ok F [] [.agg [.int .i64 v21, .int .i64 v22, .bslc (BR.root 0) (.f32 v23)], .int .i64 v24]) {y : Int} (hy : laws_szMatrix_g v23 v24 = some y) : ∃ F' H', Fwd 0 F F' [] (laws_szMatrix_enc v21 v22 v23 v24 y).2 ∧ FnOk Try.prog 33 (DVs.av F [.agg [.int .i64 v21, .int .i64 v22, .bslc (BR.root 0) (.f32 v23)], .int .i64 v24]) F.H0 ((laws_szMatrix_enc v21 v22 v23 v24 y).1.av F') H' ∧ St F' (laws_szMatrix_enc v21 v22 v23 v24 y).2 H' ∧ (laws_szMatrix_enc v21 v22 v23 v24 y).1.Ok F' (laws_szMatrix_enc v21 v22 v23 v24 y).2 :=
  fn_fin tok laws_szMatrix_hO mixed Try.func33 Try.call33 (by kernel_rfl) (LoopsOk_eq (l := []) (by kernel_rfl) trivial) (laws_szMatrix_den v21 v22 v23 v24) hy h0 hA
def laws_szMatrix_v (v23 : List Nat) (v24 : Int) : Int :=
  if (decide ((laws_szFloat32S_v v23 v24) < (0 : Int))) = true then (
  (-1 : Int)
  ) else (
  (laws_szFloat32S_v v23 v24)
  )
theorem laws_szMatrix_tot (v23 : List Nat) (v24 : Int) : laws_szMatrix_g v23 v24 = some (laws_szMatrix_v v23 v24) := by
  unfold laws_szMatrix_g laws_szMatrix_T laws_szMatrix_v
  simp only [Tree.run]
  repeat' (first | rfl | split)
noncomputable def laws_szMatrix_F : DFn := fun args L =>
  match args with
  | [.agg [.int .i64 v21, .int .i64 v22, a1], .int .i64 v24] =>
    optT (rowF32 L a1) fun v23 =>
    .leaf (.int .i64 (laws_szMatrix_v v23 v24), L)
  | _ => .fail
theorem laws_szMatrix_Fok : COk Try.prog 33 laws_szMatrix_F true := by
  intro F L H args r L' hs ha hr
  unfold laws_szMatrix_F at hr
  split at hr
  · rename_i v21 v22 a1 v24
    obtain ⟨v23, hv23, hr⟩ := optT_run hr
    have hy := laws_szMatrix_tot v23 v24
    generalize laws_szMatrix_v v23 v24 = y at hy hr
    simp only [Tree.run, Option.some.injEq, Prod.mk.injEq] at hr
    obtain ⟨rfl, rfl⟩ := hr
    exact call_ok0 hs (fun k => (([a1.av F] : List AV)[k]?).getD .top) [.agg [.int .i64 v21, .int .i64 v22, a1], .int .i64 v24] [.agg [.int .i64 v21, .int .i64 v22, .bslc (BR.root 0) (.f32 v23)], .int .i64 v24] (fun F' h0 hi hρ => ⟨by simp [DVs.av, DV.av, BR.av, hρ], laws_szMatrix_fn v21 v22 v23 v24 F' (st_nil hi) ⟨⟨trivial, trivial, bslc_ok hi (by rw [h0, hρ]; exact rowF32_ok hs (DVs.okAt (DVs.okAt ha 0 rfl) 2 rfl) hv23), trivial⟩, trivial, trivial⟩ hy⟩) rfl
  · cases hr
/-! laws.szSheet -/
noncomputable def laws_szSheet_LO (v16 : ByteArray) (v17 : Int) (v18 : Int) (v19 : List Nat) (v20 : Int) : LOr := fun id e L =>
  match id with
  | _ => .fail
noncomputable def laws_szSheet_tab : List (FuncId × DFn × Bool) := [(33, laws_szMatrix_F, true)]
theorem laws_szSheet_hO : OrcOk Try.prog (tabD laws_szSheet_tab) (tabM laws_szSheet_tab) := tabD_cons laws_szMatrix_Fok (tabD_nil _)
noncomputable def laws_szSheet_T (v16 : ByteArray) (v19 : List Nat) (v20 : Int) : Tree (Int) :=
  (.br (decide (IntKind.i64.wrap (v20 - ((v16.size : Nat) : Int)) < (0 : Int))) (
  .leaf (-1 : Int)
  ) (
  (.br (decide ((laws_szMatrix_v v19 (IntKind.i64.wrap (v20 - ((v16.size : Nat) : Int)))) < (0 : Int))) (
  .leaf (-1 : Int)
  ) (
  .leaf (laws_szMatrix_v v19 (IntKind.i64.wrap (v20 - ((v16.size : Nat) : Int))))
  ))
  ))

noncomputable def laws_szSheet_g (v16 : ByteArray) (v19 : List Nat) (v20 : Int) : Option (Int) := (laws_szSheet_T v16 v19 v20).run
def laws_szSheet_enc (v16 : ByteArray) (v17 : Int) (v18 : Int) (v19 : List Nat) (v20 : Int) (y : Int) : Rs := (.int .i64 y, [])
theorem laws_szSheet_den (v16 : ByteArray) (v17 : Int) (v18 : Int) (v19 : List Nat) (v20 : Int) : (den TT (tabD laws_szSheet_tab) (tabM laws_szSheet_tab) (laws_szSheet_LO v16 v17 v18 v19 v20) (codeOf Try.f9) ([.agg [.str v16, .int .i64 v17, .int .i64 v18, .bslc (BR.root 0) (.f32 v19)], .int .i64 v20] ++ List.replicate (Try.f9.ntmps - ([.agg [.str v16, .int .i64 v17, .int .i64 v18, .bslc (BR.root 0) (.f32 v19)], .int .i64 v20] : List DV).length) .undef) []).bind (retD TT Try.f9.results.toList 0) = (laws_szSheet_T v16 v19 v20).bind fun y => .leaf (laws_szSheet_enc v16 v17 v18 v19 v20 y) := by kernel_rfl
theorem laws_szSheet_fn (v16 : ByteArray) (v17 : Int) (v18 : Int) (v19 : List Nat) (v20 : Int) (F : Fr) (h0 : St F [] F.H0) (hA : DVs.Ok F [] [.agg [.str v16, .int .i64 v17, .int .i64 v18, .bslc (BR.root 0) (.f32 v19)], .int .i64 v20]) {y : Int} (hy : laws_szSheet_g v16 v19 v20 = some y) : ∃ F' H', Fwd 0 F F' [] (laws_szSheet_enc v16 v17 v18 v19 v20 y).2 ∧ FnOk Try.prog 9 (DVs.av F [.agg [.str v16, .int .i64 v17, .int .i64 v18, .bslc (BR.root 0) (.f32 v19)], .int .i64 v20]) F.H0 ((laws_szSheet_enc v16 v17 v18 v19 v20 y).1.av F') H' ∧ St F' (laws_szSheet_enc v16 v17 v18 v19 v20 y).2 H' ∧ (laws_szSheet_enc v16 v17 v18 v19 v20 y).1.Ok F' (laws_szSheet_enc v16 v17 v18 v19 v20 y).2 :=
  fn_fin tok laws_szSheet_hO mixed Try.func9 Try.call9 (by kernel_rfl) (LoopsOk_eq (l := []) (by kernel_rfl) trivial) (laws_szSheet_den v16 v17 v18 v19 v20) hy h0 hA
def laws_szSheet_v (v16 : ByteArray) (v19 : List Nat) (v20 : Int) : Int :=
  if (decide (IntKind.i64.wrap (v20 - ((v16.size : Nat) : Int)) < (0 : Int))) = true then (
  (-1 : Int)
  ) else (
  if (decide ((laws_szMatrix_v v19 (IntKind.i64.wrap (v20 - ((v16.size : Nat) : Int)))) < (0 : Int))) = true then (
  (-1 : Int)
  ) else (
  (laws_szMatrix_v v19 (IntKind.i64.wrap (v20 - ((v16.size : Nat) : Int))))
  )
  )
theorem laws_szSheet_tot (v16 : ByteArray) (v19 : List Nat) (v20 : Int) : laws_szSheet_g v16 v19 v20 = some (laws_szSheet_v v16 v19 v20) := by
  unfold laws_szSheet_g laws_szSheet_T laws_szSheet_v
  simp only [Tree.run]
  repeat' (first | rfl | split)
noncomputable def laws_szSheet_F : DFn := fun args L =>
  match args with
  | [.agg [.str v16, .int .i64 v17, .int .i64 v18, a1], .int .i64 v20] =>
    optT (rowF32 L a1) fun v19 =>
    .leaf (.int .i64 (laws_szSheet_v v16 v19 v20), L)
  | _ => .fail
theorem laws_szSheet_Fok : COk Try.prog 9 laws_szSheet_F true := by
  intro F L H args r L' hs ha hr
  unfold laws_szSheet_F at hr
  split at hr
  · rename_i v16 v17 v18 a1 v20
    obtain ⟨v19, hv19, hr⟩ := optT_run hr
    have hy := laws_szSheet_tot v16 v19 v20
    generalize laws_szSheet_v v16 v19 v20 = y at hy hr
    simp only [Tree.run, Option.some.injEq, Prod.mk.injEq] at hr
    obtain ⟨rfl, rfl⟩ := hr
    exact call_ok0 hs (fun k => (([a1.av F] : List AV)[k]?).getD .top) [.agg [.str v16, .int .i64 v17, .int .i64 v18, a1], .int .i64 v20] [.agg [.str v16, .int .i64 v17, .int .i64 v18, .bslc (BR.root 0) (.f32 v19)], .int .i64 v20] (fun F' h0 hi hρ => ⟨by simp [DVs.av, DV.av, BR.av, hρ], laws_szSheet_fn v16 v17 v18 v19 v20 F' (st_nil hi) ⟨⟨trivial, trivial, trivial, bslc_ok hi (by rw [h0, hρ]; exact rowF32_ok hs (DVs.okAt (DVs.okAt ha 0 rfl) 3 rfl) hv19), trivial⟩, trivial, trivial⟩ hy⟩) rfl
  · cases hr
/-! laws.szSheetS -/
noncomputable def laws_szSheetS_l0_T (v9 : List ByteArray) (v12 : List (List Nat)) (s : Int × Int) : Tree ((Int × Int) ⊕ ((Unit) ⊕ (Int))) :=
  (.br (decide (s.2 < ((v9.length : Nat) : Int))) (
  (.grd (inb s.2 v9.length) <|
  (.br (decide ((laws_szSheet_v (nth v9 (Int.toNat s.2)) (nth v12 (Int.toNat s.2)) s.1) < (0 : Int))) (
  .leaf (.inr (.inl ()))
  ) (
  .leaf (.inl ((laws_szSheet_v (nth v9 (Int.toNat s.2)) (nth v12 (Int.toNat s.2)) s.1), IntKind.i64.wrap (s.2 + (1 : Int))))
  )))
  ) (
  .leaf (.inr (.inr s.1))
  ))

noncomputable def laws_szSheetS_l0_g (v9 : List ByteArray) (v12 : List (List Nat)) (s0 : Int × Int) : Option ((Unit) ⊕ (Int)) := whileM (fun s => (laws_szSheetS_l0_T v9 v12 s).run) s0
def laws_szSheetS_l0_E (v9 : List ByteArray) (v10 : List Int) (v11 : List Int) (v12 : List (List Nat)) (v13 : Int) (s : Int × Int) : Sd := ([.rns 0 [.pl (.str v9), .pl (.i64 v10), .pl (.i64 v11), .sl (.f32 v12)],.int .i64 s.1,tp,tp,tp,.int .i64 s.2,tp,tp,tp,tp,tp,tp,tp,tp,tp,tp,tp,tp,tp,tp,tp,tp,tp,tp,tp,tp,tp], [])
def laws_szSheetS_l0_X (v9 : List ByteArray) (v10 : List Int) (v11 : List Int) (v12 : List (List Nat)) (v13 : Int) (x : (Unit) ⊕ (Int)) : Out := (match x with | .inl x => (.ret, [tp,tp,tp,tp,.int .i64 (-1 : Int),tp,tp,tp,tp,tp,tp,tp,tp,tp,tp,tp,tp,tp,tp,tp,tp,tp,tp,tp,tp,tp,tp], []) | .inr x => (.normal, [tp,.int .i64 x,tp,tp,tp,tp,tp,tp,tp,tp,tp,tp,tp,tp,tp,tp,tp,tp,tp,tp,tp,tp,tp,tp,tp,tp,tp], []))
def laws_szSheetS_l0_kill : List Nat := KL true [0,2,3,1,21]
def laws_szSheetS_l0_nx : Exit → List Nat
  | .exit 0 => KL true [1,1,25]
  | .ret => KL true [4,1,22]
  | _ => []
noncomputable def laws_szSheetS_LO (v9 : List ByteArray) (v10 : List Int) (v11 : List Int) (v12 : List (List Nat)) (v13 : Int) : LOr := fun id e L =>
  match id with
  | 0 => .need (normA 0 laws_szSheetS_l0_kill e L = some (laws_szSheetS_l0_E v9 v10 v11 v12 v13 ((gI (vAt e 1)), (gI (vAt e 5))))) (.call (laws_szSheetS_l0_g v9 v12 ((gI (vAt e 1)), (gI (vAt e 5)))) fun x => .sum x (fun b0 => .leaf (laws_szSheetS_l0_X v9 v10 v11 v12 v13 (.inl b0))) (fun c0 => .leaf (laws_szSheetS_l0_X v9 v10 v11 v12 v13 (.inr c0))))
  | _ => .fail
noncomputable def laws_szSheetS_tab : List (FuncId × DFn × Bool) := [(9, laws_szSheet_F, true)]
theorem laws_szSheetS_hO : OrcOk Try.prog (tabD laws_szSheetS_tab) (tabM laws_szSheetS_tab) := tabD_cons laws_szSheet_Fok (tabD_nil _)
theorem laws_szSheetS_l0_be (v9 : List ByteArray) (v10 : List Int) (v11 : List Int) (v12 : List (List Nat)) (v13 : Int) (s : Int × Int) : bodyT TT (tabD laws_szSheetS_tab) (tabM laws_szSheetS_tab) (laws_szSheetS_LO v9 v10 v11 v12 v13) 0 laws_szSheetS_l0_kill laws_szSheetS_l0_nx (bodyOf Try.f18 0) 0 (laws_szSheetS_l0_E v9 v10 v11 v12 v13 s) = (laws_szSheetS_l0_T v9 v12 s).bind fun y => .leaf (outS (laws_szSheetS_l0_E v9 v10 v11 v12 v13) (laws_szSheetS_l0_X v9 v10 v11 v12 v13) y) := by kernel_rfl
theorem laws_szSheetS_l0_ok (v9 : List ByteArray) (v10 : List Int) (v11 : List Int) (v12 : List (List Nat)) (v13 : Int) : LSound Try.prog 0 (laws_szSheetS_LO v9 v10 v11 v12 v13) 0 (bodyOf Try.f18 0) := by
  intro e L out h
  exact lo_ok (E := laws_szSheetS_l0_E v9 v10 v11 v12 v13) (gT := laws_szSheetS_l0_T v9 v12) (X := laws_szSheetS_l0_X v9 v10 v11 v12 v13) (s0 := ((gI (vAt e 1)), (gI (vAt e 5)))) tok laws_szSheetS_hO mixed (LoopsOk_eq (l := []) (by kernel_rfl) trivial) (laws_szSheetS_l0_be v9 v10 v11 v12 v13) rfl (by intro x; (cases x with | inl b => rfl | inr x => exact rfl)) h
noncomputable def laws_szSheetS_T (v9 : List ByteArray) (v10 : List Int) (v11 : List Int) (v12 : List (List Nat)) (v13 : Int) : Tree (Int) :=
  (.br (decide (IntKind.i64.wrap (v13 - ((v9.length : Nat) : Int)) < (0 : Int))) (
  .leaf (-1 : Int)
  ) (
  (.need (some (laws_szSheetS_l0_E v9 v10 v11 v12 v13 (IntKind.i64.wrap (v13 - ((v9.length : Nat) : Int)), (0 : Int))) = some (laws_szSheetS_l0_E v9 v10 v11 v12 v13 (IntKind.i64.wrap (v13 - ((v9.length : Nat) : Int)), (0 : Int)))) <|
  (.call (laws_szSheetS_l0_g v9 v12 (IntKind.i64.wrap (v13 - ((v9.length : Nat) : Int)), (0 : Int))) fun v31 =>
  (.sum v31 (fun v32 =>
  .leaf (-1 : Int)
  ) (fun v33 =>
  .leaf v33
  ))))
  ))

noncomputable def laws_szSheetS_g (v9 : List ByteArray) (v10 : List Int) (v11 : List Int) (v12 : List (List Nat)) (v13 : Int) : Option (Int) := (laws_szSheetS_T v9 v10 v11 v12 v13).run
def laws_szSheetS_enc (v9 : List ByteArray) (v10 : List Int) (v11 : List Int) (v12 : List (List Nat)) (v13 : Int) (y : Int) : Rs := (.int .i64 y, [])
theorem laws_szSheetS_den (v9 : List ByteArray) (v10 : List Int) (v11 : List Int) (v12 : List (List Nat)) (v13 : Int) : (den TT (tabD laws_szSheetS_tab) (tabM laws_szSheetS_tab) (laws_szSheetS_LO v9 v10 v11 v12 v13) (codeOf Try.f18) ([.rns 0 [.pl (.str v9), .pl (.i64 v10), .pl (.i64 v11), .sl (.f32 v12)], .int .i64 v13] ++ List.replicate (Try.f18.ntmps - ([.rns 0 [.pl (.str v9), .pl (.i64 v10), .pl (.i64 v11), .sl (.f32 v12)], .int .i64 v13] : List DV).length) .undef) []).bind (retD TT Try.f18.results.toList 0) = (laws_szSheetS_T v9 v10 v11 v12 v13).bind fun y => .leaf (laws_szSheetS_enc v9 v10 v11 v12 v13 y) := by kernel_rfl
theorem laws_szSheetS_fn (v9 : List ByteArray) (v10 : List Int) (v11 : List Int) (v12 : List (List Nat)) (v13 : Int) (F : Fr) (h0 : St F [] F.H0) (hA : DVs.Ok F [] [.rns 0 [.pl (.str v9), .pl (.i64 v10), .pl (.i64 v11), .sl (.f32 v12)], .int .i64 v13]) {y : Int} (hy : laws_szSheetS_g v9 v10 v11 v12 v13 = some y) : ∃ F' H', Fwd 0 F F' [] (laws_szSheetS_enc v9 v10 v11 v12 v13 y).2 ∧ FnOk Try.prog 18 (DVs.av F [.rns 0 [.pl (.str v9), .pl (.i64 v10), .pl (.i64 v11), .sl (.f32 v12)], .int .i64 v13]) F.H0 ((laws_szSheetS_enc v9 v10 v11 v12 v13 y).1.av F') H' ∧ St F' (laws_szSheetS_enc v9 v10 v11 v12 v13 y).2 H' ∧ (laws_szSheetS_enc v9 v10 v11 v12 v13 y).1.Ok F' (laws_szSheetS_enc v9 v10 v11 v12 v13 y).2 :=
  fn_fin tok laws_szSheetS_hO mixed Try.func18 Try.call18 (by kernel_rfl) (LoopsOk_eq (l := [(0, bodyOf Try.f18 0)]) (by kernel_rfl) ⟨laws_szSheetS_l0_ok v9 v10 v11 v12 v13, trivial⟩) (laws_szSheetS_den v9 v10 v11 v12 v13) hy h0 hA
noncomputable def laws_szSheetS_F : DFn := fun args L =>
  match args with
  | [a1, .int .i64 v13] =>
    optT (rnsV a1) fun qr0 =>
    (match qr0.2 with
    | [.pl (.str v9), .pl (.i64 v10), .pl (.i64 v11), .sl (.f32 v12)] =>
    .call (laws_szSheetS_g v9 v10 v11 v12 v13) fun y => .leaf (.int .i64 y, L)
    | _ => .fail)
  | _ => .fail
theorem laws_szSheetS_Fok : COk Try.prog 18 laws_szSheetS_F true := by
  intro F L H args r L' hs ha hr
  unfold laws_szSheetS_F at hr
  split at hr
  · rename_i a1 v13
    obtain ⟨⟨nr0, cr0⟩, hv0, hr⟩ := optT_run hr
    simp only at hr
    split at hr
    · rename_i v9 v10 v11 v12
      have hrn0 := rnsV_ok hs (DVs.okAt ha 0 rfl) hv0
      have hra0 := rnsV_av (F := F) hv0
      simp only [Tree.run] at hr
      obtain ⟨y, hy, hr⟩ := Option.bind_eq_some_iff.1 hr
      simp only [Tree.run, Option.some.injEq, Prod.mk.injEq] at hr
      obtain ⟨rfl, rfl⟩ := hr
      exact call_ok0 hs (fun k => (([a1.av F] : List AV)[k]?).getD (F.ρ (k - 0 + nr0))) [a1, .int .i64 v13] [.rns 0 [.pl (.str v9), .pl (.i64 v10), .pl (.i64 v11), .sl (.f32 v12)], .int .i64 v13] (fun F' h0 hi hρ => ⟨by simp [DVs.av, DV.av, BR.av, hρ], laws_szSheetS_fn v9 v10 v11 v12 v13 F' (st_nil hi) ⟨(rns_ok (n := nr0) hi (by rw [h0]; exact hrn0) (by rw [hρ]; exact hra0) fun m => by rw [hρ]; exact (rho_far (g := fun k => F.ρ (k - 0 + nr0)) (by simp <;> omega)).trans (congrArg F.ρ (by omega))), trivial, trivial⟩ hy⟩) rfl
    · cases hr
  · cases hr
/-! laws.toFloat32S -/
noncomputable def laws_toFloat32S_l0_T (v48 : List Nat) (s : Int × (List Nat)) : Tree ((Int × (List Nat)) ⊕ ((List Nat))) :=
  (.br (decide (s.1 < ((v48.length : Nat) : Int))) (
  (.grd (inb s.1 v48.length) <|
  (.grd (inb s.1 ((s.2).length)) <|
  .leaf (.inl (IntKind.i64.wrap (s.1 + (1 : Int)), List.set s.2 (Int.toNat s.1) (nth v48 (Int.toNat s.1))))))
  ) (
  .leaf (.inr s.2)
  ))

noncomputable def laws_toFloat32S_l0_g (v48 : List Nat) (s0 : Int × (List Nat)) : Option ((List Nat)) := whileM (fun s => (laws_toFloat32S_l0_T v48 s).run) s0
def laws_toFloat32S_l0_E (v48 : List Nat) (s : Int × (List Nat)) : Sd := ([.bslc (BR.root 0) (.f32 v48),tp,tp,.own 0 0 ((s.2).length),.int .i64 s.1,tp,tp,tp,tp,tp,tp,tp,tp,tp,tp,tp,tp,tp,tp,tp,tp,tp], [.row (.f32 s.2) 0])
def laws_toFloat32S_l0_X (v48 : List Nat) (x : (List Nat)) : Out := (.normal, [tp,tp,tp,.own 0 0 ((x).length),tp,tp,tp,tp,tp,tp,tp,tp,tp,tp,tp,tp,tp,tp,tp,tp,tp,tp], [.row (.f32 x) 0])
def laws_toFloat32S_l0_kill : List Nat := KL true [0,1,2,2,17]
def laws_toFloat32S_l0_nx : Exit → List Nat
  | .exit 0 => KL true [3,1,18]
  | .ret => KL true [2,1,19]
  | _ => []
noncomputable def laws_toFloat32S_LO (v48 : List Nat) : LOr := fun id e L =>
  match id with
  | 0 => .need (normA 0 laws_toFloat32S_l0_kill e L = some (laws_toFloat32S_l0_E v48 ((gI (vAt e 4)), (gRF L (vAt e 3))))) (.call (laws_toFloat32S_l0_g v48 ((gI (vAt e 4)), (gRF L (vAt e 3)))) fun x => .leaf (laws_toFloat32S_l0_X v48 x))
  | _ => .fail
noncomputable def laws_toFloat32S_tab : List (FuncId × DFn × Bool) := []
theorem laws_toFloat32S_hO : OrcOk Try.prog (tabD laws_toFloat32S_tab) (tabM laws_toFloat32S_tab) := tabD_nil _
theorem laws_toFloat32S_l0_be (v48 : List Nat) (s : Int × (List Nat)) : bodyT TT (tabD laws_toFloat32S_tab) (tabM laws_toFloat32S_tab) (laws_toFloat32S_LO v48) 0 laws_toFloat32S_l0_kill laws_toFloat32S_l0_nx (bodyOf Try.f64 0) 0 (laws_toFloat32S_l0_E v48 s) = (laws_toFloat32S_l0_T v48 s).bind fun y => .leaf (outS (laws_toFloat32S_l0_E v48) (laws_toFloat32S_l0_X v48) y) := by kernel_rfl
theorem laws_toFloat32S_l0_ok (v48 : List Nat) : LSound Try.prog 0 (laws_toFloat32S_LO v48) 0 (bodyOf Try.f64 0) := by
  intro e L out h
  exact lo_ok (E := laws_toFloat32S_l0_E v48) (gT := laws_toFloat32S_l0_T v48) (X := laws_toFloat32S_l0_X v48) (s0 := ((gI (vAt e 4)), (gRF L (vAt e 3)))) tok laws_toFloat32S_hO mixed (LoopsOk_eq (l := []) (by kernel_rfl) trivial) (laws_toFloat32S_l0_be v48) rfl (by intro x; rfl) h
noncomputable def laws_toFloat32S_T (v48 : List Nat) : Tree ((List Nat)) :=
  (.need (((v48.length : Nat) : Int) = ((v48.length : Nat) : Int)) <|
  (.grd (inb ((v48.length : Nat) : Int) (maxN + 1)) <|
  (.need (some (laws_toFloat32S_l0_E v48 ((0 : Int), List.replicate (Int.toNat ((v48.length : Nat) : Int)) (0 : Nat))) = some (laws_toFloat32S_l0_E v48 ((0 : Int), List.replicate (Int.toNat ((v48.length : Nat) : Int)) (0 : Nat)))) <|
  (.call (laws_toFloat32S_l0_g v48 ((0 : Int), List.replicate (Int.toNat ((v48.length : Nat) : Int)) (0 : Nat))) fun v54 =>
  .leaf v54))))

noncomputable def laws_toFloat32S_g (v48 : List Nat) : Option ((List Nat)) := (laws_toFloat32S_T v48).run
def laws_toFloat32S_enc (v48 : List Nat) (y : (List Nat)) : Rs := (.own 0 0 ((y).length), [.row (.f32 y) 0])
theorem laws_toFloat32S_den (v48 : List Nat) : (den TT (tabD laws_toFloat32S_tab) (tabM laws_toFloat32S_tab) (laws_toFloat32S_LO v48) (codeOf Try.f64) ([.bslc (BR.root 0) (.f32 v48)] ++ List.replicate (Try.f64.ntmps - ([.bslc (BR.root 0) (.f32 v48)] : List DV).length) .undef) []).bind (retD TT Try.f64.results.toList 0) = (laws_toFloat32S_T v48).bind fun y => .leaf (laws_toFloat32S_enc v48 y) := by kernel_rfl
theorem laws_toFloat32S_fn (v48 : List Nat) (F : Fr) (h0 : St F [] F.H0) (hA : DVs.Ok F [] [.bslc (BR.root 0) (.f32 v48)]) {y : (List Nat)} (hy : laws_toFloat32S_g v48 = some y) : ∃ F' H', Fwd 0 F F' [] (laws_toFloat32S_enc v48 y).2 ∧ FnOk Try.prog 64 (DVs.av F [.bslc (BR.root 0) (.f32 v48)]) F.H0 ((laws_toFloat32S_enc v48 y).1.av F') H' ∧ St F' (laws_toFloat32S_enc v48 y).2 H' ∧ (laws_toFloat32S_enc v48 y).1.Ok F' (laws_toFloat32S_enc v48 y).2 :=
  fn_fin tok laws_toFloat32S_hO mixed Try.func64 Try.call64 (by kernel_rfl) (LoopsOk_eq (l := [(0, bodyOf Try.f64 0)]) (by kernel_rfl) ⟨laws_toFloat32S_l0_ok v48, trivial⟩) (laws_toFloat32S_den v48) hy h0 hA
noncomputable def laws_toFloat32S_F : DFn := fun args L =>
  match args with
  | [a1] =>
    optT (rowF32 L a1) fun v48 =>
    .call (laws_toFloat32S_g v48) fun y => .leaf (.own (L.length + 0) 0 ((y).length), L ++ [.row (.f32 y) 0])
  | _ => .fail
theorem laws_toFloat32S_Fok : COk Try.prog 64 laws_toFloat32S_F true := by
  intro F L H args r L' hs ha hr
  unfold laws_toFloat32S_F at hr
  split at hr
  · rename_i a1
    obtain ⟨v48, hv48, hr⟩ := optT_run hr
    simp only [Tree.run] at hr
    obtain ⟨y, hy, hr⟩ := Option.bind_eq_some_iff.1 hr
    simp only [Tree.run, Option.some.injEq, Prod.mk.injEq] at hr
    obtain ⟨rfl, rfl⟩ := hr
    exact call_ok1 hs (fun k => (([a1.av F] : List AV)[k]?).getD .top) [a1] [.bslc (BR.root 0) (.f32 v48)] (fun F' h0 hi hρ => ⟨by simp [DVs.av, DV.av, BR.av, hρ], laws_toFloat32S_fn v48 F' (st_nil hi) ⟨bslc_ok hi (by rw [h0, hρ]; exact rowF32_ok hs (DVs.okAt ha 0 rfl) hv48), trivial⟩ hy⟩) rfl rfl
  · cases hr
/-! laws.toMatrix -/
noncomputable def laws_toMatrix_LO (v45 : Int) (v46 : Int) (v47 : List Nat) : LOr := fun id e L =>
  match id with
  | _ => .fail
noncomputable def laws_toMatrix_tab : List (FuncId × DFn × Bool) := [(64, laws_toFloat32S_F, true)]
theorem laws_toMatrix_hO : OrcOk Try.prog (tabD laws_toMatrix_tab) (tabM laws_toMatrix_tab) := tabD_cons laws_toFloat32S_Fok (tabD_nil _)
noncomputable def laws_toMatrix_T (v45 : Int) (v46 : Int) (v47 : List Nat) : Tree (Int × Int × (List Nat)) :=
  (.call (laws_toFloat32S_g v47) fun v55 =>
  .leaf (v45, v46, v55))

noncomputable def laws_toMatrix_g (v45 : Int) (v46 : Int) (v47 : List Nat) : Option (Int × Int × (List Nat)) := (laws_toMatrix_T v45 v46 v47).run
def laws_toMatrix_enc (v45 : Int) (v46 : Int) (v47 : List Nat) (y : Int × Int × (List Nat)) : Rs := (.agg [.int .i64 y.1, .int .i64 y.2.1, .own 0 0 ((y.2.2).length)], [.row (.f32 y.2.2) 0])
theorem laws_toMatrix_den (v45 : Int) (v46 : Int) (v47 : List Nat) : (den TT (tabD laws_toMatrix_tab) (tabM laws_toMatrix_tab) (laws_toMatrix_LO v45 v46 v47) (codeOf Try.f36) ([.agg [.int .i64 v45, .int .i64 v46, .bslc (BR.root 0) (.f32 v47)]] ++ List.replicate (Try.f36.ntmps - ([.agg [.int .i64 v45, .int .i64 v46, .bslc (BR.root 0) (.f32 v47)]] : List DV).length) .undef) []).bind (retD TT Try.f36.results.toList 0) = (laws_toMatrix_T v45 v46 v47).bind fun y => .leaf (laws_toMatrix_enc v45 v46 v47 y) := by kernel_rfl
theorem laws_toMatrix_fn (v45 : Int) (v46 : Int) (v47 : List Nat) (F : Fr) (h0 : St F [] F.H0) (hA : DVs.Ok F [] [.agg [.int .i64 v45, .int .i64 v46, .bslc (BR.root 0) (.f32 v47)]]) {y : Int × Int × (List Nat)} (hy : laws_toMatrix_g v45 v46 v47 = some y) : ∃ F' H', Fwd 0 F F' [] (laws_toMatrix_enc v45 v46 v47 y).2 ∧ FnOk Try.prog 36 (DVs.av F [.agg [.int .i64 v45, .int .i64 v46, .bslc (BR.root 0) (.f32 v47)]]) F.H0 ((laws_toMatrix_enc v45 v46 v47 y).1.av F') H' ∧ St F' (laws_toMatrix_enc v45 v46 v47 y).2 H' ∧ (laws_toMatrix_enc v45 v46 v47 y).1.Ok F' (laws_toMatrix_enc v45 v46 v47 y).2 :=
  fn_fin tok laws_toMatrix_hO mixed Try.func36 Try.call36 (by kernel_rfl) (LoopsOk_eq (l := []) (by kernel_rfl) trivial) (laws_toMatrix_den v45 v46 v47) hy h0 hA
noncomputable def laws_toMatrix_F : DFn := fun args L =>
  match args with
  | [.agg [.int .i64 v45, .int .i64 v46, a1]] =>
    optT (rowF32 L a1) fun v47 =>
    .call (laws_toMatrix_g v45 v46 v47) fun y => .leaf (.agg [.int .i64 y.1, .int .i64 y.2.1, .own (L.length + 0) 0 ((y.2.2).length)], L ++ [.row (.f32 y.2.2) 0])
  | _ => .fail
theorem laws_toMatrix_Fok : COk Try.prog 36 laws_toMatrix_F true := by
  intro F L H args r L' hs ha hr
  unfold laws_toMatrix_F at hr
  split at hr
  · rename_i v45 v46 a1
    obtain ⟨v47, hv47, hr⟩ := optT_run hr
    simp only [Tree.run] at hr
    obtain ⟨y, hy, hr⟩ := Option.bind_eq_some_iff.1 hr
    simp only [Tree.run, Option.some.injEq, Prod.mk.injEq] at hr
    obtain ⟨rfl, rfl⟩ := hr
    exact call_ok1 hs (fun k => (([a1.av F] : List AV)[k]?).getD .top) [.agg [.int .i64 v45, .int .i64 v46, a1]] [.agg [.int .i64 v45, .int .i64 v46, .bslc (BR.root 0) (.f32 v47)]] (fun F' h0 hi hρ => ⟨by simp [DVs.av, DV.av, BR.av, hρ], laws_toMatrix_fn v45 v46 v47 F' (st_nil hi) ⟨⟨trivial, trivial, bslc_ok hi (by rw [h0, hρ]; exact rowF32_ok hs (DVs.okAt (DVs.okAt ha 0 rfl) 2 rfl) hv47), trivial⟩, trivial⟩ hy⟩) rfl rfl
  · cases hr
/-! laws.toSheet -/
noncomputable def laws_toSheet_LO (v41 : ByteArray) (v42 : Int) (v43 : Int) (v44 : List Nat) : LOr := fun id e L =>
  match id with
  | _ => .fail
noncomputable def laws_toSheet_tab : List (FuncId × DFn × Bool) := [(36, laws_toMatrix_F, true)]
theorem laws_toSheet_hO : OrcOk Try.prog (tabD laws_toSheet_tab) (tabM laws_toSheet_tab) := tabD_cons laws_toMatrix_Fok (tabD_nil _)
noncomputable def laws_toSheet_T (v41 : ByteArray) (v42 : Int) (v43 : Int) (v44 : List Nat) : Tree (ByteArray × Int × Int × (List Nat)) :=
  (.call (laws_toMatrix_g v42 v43 v44) fun v56 =>
  .leaf (v41, v56.1, v56.2.1, v56.2.2))

noncomputable def laws_toSheet_g (v41 : ByteArray) (v42 : Int) (v43 : Int) (v44 : List Nat) : Option (ByteArray × Int × Int × (List Nat)) := (laws_toSheet_T v41 v42 v43 v44).run
def laws_toSheet_enc (v41 : ByteArray) (v42 : Int) (v43 : Int) (v44 : List Nat) (y : ByteArray × Int × Int × (List Nat)) : Rs := (.agg [.str y.1, .int .i64 y.2.1, .int .i64 y.2.2.1, .own 0 0 ((y.2.2.2).length)], [.row (.f32 y.2.2.2) 0])
theorem laws_toSheet_den (v41 : ByteArray) (v42 : Int) (v43 : Int) (v44 : List Nat) : (den TT (tabD laws_toSheet_tab) (tabM laws_toSheet_tab) (laws_toSheet_LO v41 v42 v43 v44) (codeOf Try.f11) ([.agg [.str v41, .int .i64 v42, .int .i64 v43, .bslc (BR.root 0) (.f32 v44)]] ++ List.replicate (Try.f11.ntmps - ([.agg [.str v41, .int .i64 v42, .int .i64 v43, .bslc (BR.root 0) (.f32 v44)]] : List DV).length) .undef) []).bind (retD TT Try.f11.results.toList 0) = (laws_toSheet_T v41 v42 v43 v44).bind fun y => .leaf (laws_toSheet_enc v41 v42 v43 v44 y) := by kernel_rfl
theorem laws_toSheet_fn (v41 : ByteArray) (v42 : Int) (v43 : Int) (v44 : List Nat) (F : Fr) (h0 : St F [] F.H0) (hA : DVs.Ok F [] [.agg [.str v41, .int .i64 v42, .int .i64 v43, .bslc (BR.root 0) (.f32 v44)]]) {y : ByteArray × Int × Int × (List Nat)} (hy : laws_toSheet_g v41 v42 v43 v44 = some y) : ∃ F' H', Fwd 0 F F' [] (laws_toSheet_enc v41 v42 v43 v44 y).2 ∧ FnOk Try.prog 11 (DVs.av F [.agg [.str v41, .int .i64 v42, .int .i64 v43, .bslc (BR.root 0) (.f32 v44)]]) F.H0 ((laws_toSheet_enc v41 v42 v43 v44 y).1.av F') H' ∧ St F' (laws_toSheet_enc v41 v42 v43 v44 y).2 H' ∧ (laws_toSheet_enc v41 v42 v43 v44 y).1.Ok F' (laws_toSheet_enc v41 v42 v43 v44 y).2 :=
  fn_fin tok laws_toSheet_hO mixed Try.func11 Try.call11 (by kernel_rfl) (LoopsOk_eq (l := []) (by kernel_rfl) trivial) (laws_toSheet_den v41 v42 v43 v44) hy h0 hA
noncomputable def laws_toSheet_F : DFn := fun args L =>
  match args with
  | [.agg [.str v41, .int .i64 v42, .int .i64 v43, a1]] =>
    optT (rowF32 L a1) fun v44 =>
    .call (laws_toSheet_g v41 v42 v43 v44) fun y => .leaf (.agg [.str y.1, .int .i64 y.2.1, .int .i64 y.2.2.1, .own (L.length + 0) 0 ((y.2.2.2).length)], L ++ [.row (.f32 y.2.2.2) 0])
  | _ => .fail
theorem laws_toSheet_Fok : COk Try.prog 11 laws_toSheet_F true := by
  intro F L H args r L' hs ha hr
  unfold laws_toSheet_F at hr
  split at hr
  · rename_i v41 v42 v43 a1
    obtain ⟨v44, hv44, hr⟩ := optT_run hr
    simp only [Tree.run] at hr
    obtain ⟨y, hy, hr⟩ := Option.bind_eq_some_iff.1 hr
    simp only [Tree.run, Option.some.injEq, Prod.mk.injEq] at hr
    obtain ⟨rfl, rfl⟩ := hr
    exact call_ok1 hs (fun k => (([a1.av F] : List AV)[k]?).getD .top) [.agg [.str v41, .int .i64 v42, .int .i64 v43, a1]] [.agg [.str v41, .int .i64 v42, .int .i64 v43, .bslc (BR.root 0) (.f32 v44)]] (fun F' h0 hi hρ => ⟨by simp [DVs.av, DV.av, BR.av, hρ], laws_toSheet_fn v41 v42 v43 v44 F' (st_nil hi) ⟨⟨trivial, trivial, trivial, bslc_ok hi (by rw [h0, hρ]; exact rowF32_ok hs (DVs.okAt (DVs.okAt ha 0 rfl) 3 rfl) hv44), trivial⟩, trivial⟩ hy⟩) rfl rfl
  · cases hr
/-! laws.toSheetS -/
noncomputable def laws_toSheetS_l0_T (v36 : List ByteArray) (v37 : List Int) (v38 : List Int) (v39 : List (List Nat)) (s : Int × (List ByteArray) × (List Int) × (List Int) × (List (List Nat)) × (List Nat)) : Tree ((Int × (List ByteArray) × (List Int) × (List Int) × (List (List Nat)) × (List Nat)) ⊕ ((List ByteArray) × (List Int) × (List Int) × (List (List Nat)) × (List Nat))) :=
  (.br (decide (s.1 < ((v36.length : Nat) : Int))) (
  (.grd (inb s.1 v36.length) <|
  (.call (laws_toSheet_g (nth v36 (Int.toNat s.1)) (nth v37 (Int.toNat s.1)) (nth v38 (Int.toNat s.1)) (nth v39 (Int.toNat s.1))) fun v71 =>
  (.grd (inb s.1 ((s.2.1).length)) <|
  .leaf (.inl (IntKind.i64.wrap (s.1 + (1 : Int)), List.set s.2.1 (Int.toNat s.1) v71.1, List.set s.2.2.1 (Int.toNat s.1) v71.2.1, List.set s.2.2.2.1 (Int.toNat s.1) v71.2.2.1, s.2.2.2.2.1 ++ [v71.2.2.2], List.set s.2.2.2.2.2 (Int.toNat s.1) (s.2.2.2.2.1.length + 1))))))
  ) (
  .leaf (.inr (s.2.1, s.2.2.1, s.2.2.2.1, s.2.2.2.2.1, s.2.2.2.2.2))
  ))

noncomputable def laws_toSheetS_l0_g (v36 : List ByteArray) (v37 : List Int) (v38 : List Int) (v39 : List (List Nat)) (s0 : Int × (List ByteArray) × (List Int) × (List Int) × (List (List Nat)) × (List Nat)) : Option ((List ByteArray) × (List Int) × (List Int) × (List (List Nat)) × (List Nat)) := whileM (fun s => (laws_toSheetS_l0_T v36 v37 v38 v39 s).run) s0
def laws_toSheetS_l0_E (v36 : List ByteArray) (v37 : List Int) (v38 : List Int) (v39 : List (List Nat)) (s : Int × (List ByteArray) × (List Int) × (List Int) × (List (List Nat)) × (List Nat)) : Sd := ([.rns 0 [.pl (.str v36), .pl (.i64 v37), .pl (.i64 v38), .sl (.f32 v39)],tp,tp,.nest 0 0 4 ((s.2.1).length),.int .i64 s.1,tp,tp,tp,tp,tp,tp,tp,tp,tp,tp,tp,tp,tp,tp,tp,tp,tp,tp], [.nest [.pl (.str s.2.1), .pl (.i64 s.2.2.1), .pl (.i64 s.2.2.2.1), .sl (.f32 s.2.2.2.2.1) s.2.2.2.2.2] false 0])
def laws_toSheetS_l0_X (v36 : List ByteArray) (v37 : List Int) (v38 : List Int) (v39 : List (List Nat)) (x : (List ByteArray) × (List Int) × (List Int) × (List (List Nat)) × (List Nat)) : Out := (.normal, [tp,tp,tp,.nest 0 0 4 ((x.1).length),tp,tp,tp,tp,tp,tp,tp,tp,tp,tp,tp,tp,tp,tp,tp,tp,tp,tp,tp], [.nest [.pl (.str x.1), .pl (.i64 x.2.1), .pl (.i64 x.2.2.1), .sl (.f32 x.2.2.2.1) x.2.2.2.2] false 0])
def laws_toSheetS_l0_kill : List Nat := KL true [0,1,2,2,18]
def laws_toSheetS_l0_nx : Exit → List Nat
  | .exit 0 => KL true [3,1,19]
  | .ret => KL true [2,1,20]
  | _ => []
noncomputable def laws_toSheetS_LO (v36 : List ByteArray) (v37 : List Int) (v38 : List Int) (v39 : List (List Nat)) : LOr := fun id e L =>
  match id with
  | 0 => .need (normA 0 laws_toSheetS_l0_kill e L = some (laws_toSheetS_l0_E v36 v37 v38 v39 ((gI (vAt e 4)), (gCS L (vAt e 3) 0), (gCI L (vAt e 3) 1), (gCI L (vAt e 3) 2), (gPF L (vAt e 3) 3), (gX L (vAt e 3) 3)))) (.call (laws_toSheetS_l0_g v36 v37 v38 v39 ((gI (vAt e 4)), (gCS L (vAt e 3) 0), (gCI L (vAt e 3) 1), (gCI L (vAt e 3) 2), (gPF L (vAt e 3) 3), (gX L (vAt e 3) 3))) fun x => .leaf (laws_toSheetS_l0_X v36 v37 v38 v39 x))
  | _ => .fail
noncomputable def laws_toSheetS_tab : List (FuncId × DFn × Bool) := [(11, laws_toSheet_F, true)]
theorem laws_toSheetS_hO : OrcOk Try.prog (tabD laws_toSheetS_tab) (tabM laws_toSheetS_tab) := tabD_cons laws_toSheet_Fok (tabD_nil _)
theorem laws_toSheetS_l0_be (v36 : List ByteArray) (v37 : List Int) (v38 : List Int) (v39 : List (List Nat)) (s : Int × (List ByteArray) × (List Int) × (List Int) × (List (List Nat)) × (List Nat)) : bodyT TT (tabD laws_toSheetS_tab) (tabM laws_toSheetS_tab) (laws_toSheetS_LO v36 v37 v38 v39) 0 laws_toSheetS_l0_kill laws_toSheetS_l0_nx (bodyOf Try.f20 0) 0 (laws_toSheetS_l0_E v36 v37 v38 v39 s) = (laws_toSheetS_l0_T v36 v37 v38 v39 s).bind fun y => .leaf (outS (laws_toSheetS_l0_E v36 v37 v38 v39) (laws_toSheetS_l0_X v36 v37 v38 v39) y) := by kernel_rfl
theorem laws_toSheetS_l0_ok (v36 : List ByteArray) (v37 : List Int) (v38 : List Int) (v39 : List (List Nat)) : LSound Try.prog 0 (laws_toSheetS_LO v36 v37 v38 v39) 0 (bodyOf Try.f20 0) := by
  intro e L out h
  exact lo_ok (E := laws_toSheetS_l0_E v36 v37 v38 v39) (gT := laws_toSheetS_l0_T v36 v37 v38 v39) (X := laws_toSheetS_l0_X v36 v37 v38 v39) (s0 := ((gI (vAt e 4)), (gCS L (vAt e 3) 0), (gCI L (vAt e 3) 1), (gCI L (vAt e 3) 2), (gPF L (vAt e 3) 3), (gX L (vAt e 3) 3))) tok laws_toSheetS_hO mixed (LoopsOk_eq (l := []) (by kernel_rfl) trivial) (laws_toSheetS_l0_be v36 v37 v38 v39) rfl (by intro x; rfl) h
noncomputable def laws_toSheetS_T (v36 : List ByteArray) (v37 : List Int) (v38 : List Int) (v39 : List (List Nat)) : Tree ((List ByteArray) × (List Int) × (List Int) × (List (List Nat)) × (List Nat)) :=
  (.need (((v36.length : Nat) : Int) = ((v36.length : Nat) : Int)) <|
  (.grd (inb ((v36.length : Nat) : Int) (maxN + 1)) <|
  (.need (some (laws_toSheetS_l0_E v36 v37 v38 v39 ((0 : Int), List.replicate (Int.toNat ((v36.length : Nat) : Int)) ByteArray.empty, List.replicate (Int.toNat ((v36.length : Nat) : Int)) (0 : Int), List.replicate (Int.toNat ((v36.length : Nat) : Int)) (0 : Int), ([] : List (List Nat)), List.replicate (Int.toNat ((v36.length : Nat) : Int)) (0 : Nat))) = some (laws_toSheetS_l0_E v36 v37 v38 v39 ((0 : Int), List.replicate (Int.toNat ((v36.length : Nat) : Int)) ByteArray.empty, List.replicate (Int.toNat ((v36.length : Nat) : Int)) (0 : Int), List.replicate (Int.toNat ((v36.length : Nat) : Int)) (0 : Int), ([] : List (List Nat)), List.replicate (Int.toNat ((v36.length : Nat) : Int)) (0 : Nat)))) <|
  (.call (laws_toSheetS_l0_g v36 v37 v38 v39 ((0 : Int), List.replicate (Int.toNat ((v36.length : Nat) : Int)) ByteArray.empty, List.replicate (Int.toNat ((v36.length : Nat) : Int)) (0 : Int), List.replicate (Int.toNat ((v36.length : Nat) : Int)) (0 : Int), ([] : List (List Nat)), List.replicate (Int.toNat ((v36.length : Nat) : Int)) (0 : Nat))) fun v72 =>
  .leaf (v72.1, v72.2.1, v72.2.2.1, v72.2.2.2.1, v72.2.2.2.2)))))

noncomputable def laws_toSheetS_g (v36 : List ByteArray) (v37 : List Int) (v38 : List Int) (v39 : List (List Nat)) : Option ((List ByteArray) × (List Int) × (List Int) × (List (List Nat)) × (List Nat)) := (laws_toSheetS_T v36 v37 v38 v39).run
def laws_toSheetS_enc (v36 : List ByteArray) (v37 : List Int) (v38 : List Int) (v39 : List (List Nat)) (y : (List ByteArray) × (List Int) × (List Int) × (List (List Nat)) × (List Nat)) : Rs := (.nest 0 0 4 ((y.1).length), [.nest [.pl (.str y.1), .pl (.i64 y.2.1), .pl (.i64 y.2.2.1), .sl (.f32 y.2.2.2.1) y.2.2.2.2] false 0])
theorem laws_toSheetS_den (v36 : List ByteArray) (v37 : List Int) (v38 : List Int) (v39 : List (List Nat)) : (den TT (tabD laws_toSheetS_tab) (tabM laws_toSheetS_tab) (laws_toSheetS_LO v36 v37 v38 v39) (codeOf Try.f20) ([.rns 0 [.pl (.str v36), .pl (.i64 v37), .pl (.i64 v38), .sl (.f32 v39)]] ++ List.replicate (Try.f20.ntmps - ([.rns 0 [.pl (.str v36), .pl (.i64 v37), .pl (.i64 v38), .sl (.f32 v39)]] : List DV).length) .undef) []).bind (retD TT Try.f20.results.toList 0) = (laws_toSheetS_T v36 v37 v38 v39).bind fun y => .leaf (laws_toSheetS_enc v36 v37 v38 v39 y) := by kernel_rfl
theorem laws_toSheetS_fn (v36 : List ByteArray) (v37 : List Int) (v38 : List Int) (v39 : List (List Nat)) (F : Fr) (h0 : St F [] F.H0) (hA : DVs.Ok F [] [.rns 0 [.pl (.str v36), .pl (.i64 v37), .pl (.i64 v38), .sl (.f32 v39)]]) {y : (List ByteArray) × (List Int) × (List Int) × (List (List Nat)) × (List Nat)} (hy : laws_toSheetS_g v36 v37 v38 v39 = some y) : ∃ F' H', Fwd 0 F F' [] (laws_toSheetS_enc v36 v37 v38 v39 y).2 ∧ FnOk Try.prog 20 (DVs.av F [.rns 0 [.pl (.str v36), .pl (.i64 v37), .pl (.i64 v38), .sl (.f32 v39)]]) F.H0 ((laws_toSheetS_enc v36 v37 v38 v39 y).1.av F') H' ∧ St F' (laws_toSheetS_enc v36 v37 v38 v39 y).2 H' ∧ (laws_toSheetS_enc v36 v37 v38 v39 y).1.Ok F' (laws_toSheetS_enc v36 v37 v38 v39 y).2 :=
  fn_fin tok laws_toSheetS_hO mixed Try.func20 Try.call20 (by kernel_rfl) (LoopsOk_eq (l := [(0, bodyOf Try.f20 0)]) (by kernel_rfl) ⟨laws_toSheetS_l0_ok v36 v37 v38 v39, trivial⟩) (laws_toSheetS_den v36 v37 v38 v39) hy h0 hA
noncomputable def laws_toSheetS_F : DFn := fun args L =>
  match args with
  | [a1] =>
    optT (rnsV a1) fun qr0 =>
    (match qr0.2 with
    | [.pl (.str v36), .pl (.i64 v37), .pl (.i64 v38), .sl (.f32 v39)] =>
    .call (laws_toSheetS_g v36 v37 v38 v39) fun y => .leaf (.nest (L.length + 0) 0 4 ((y.1).length), L ++ [.nest [.pl (.str y.1), .pl (.i64 y.2.1), .pl (.i64 y.2.2.1), .sl (.f32 y.2.2.2.1) y.2.2.2.2] false 0])
    | _ => .fail)
  | _ => .fail
theorem laws_toSheetS_Fok : COk Try.prog 20 laws_toSheetS_F true := by
  intro F L H args r L' hs ha hr
  unfold laws_toSheetS_F at hr
  split at hr
  · rename_i a1
    obtain ⟨⟨nr0, cr0⟩, hv0, hr⟩ := optT_run hr
    simp only at hr
    split at hr
    · rename_i v36 v37 v38 v39
      have hrn0 := rnsV_ok hs (DVs.okAt ha 0 rfl) hv0
      have hra0 := rnsV_av (F := F) hv0
      simp only [Tree.run] at hr
      obtain ⟨y, hy, hr⟩ := Option.bind_eq_some_iff.1 hr
      simp only [Tree.run, Option.some.injEq, Prod.mk.injEq] at hr
      obtain ⟨rfl, rfl⟩ := hr
      exact call_ok1 hs (fun k => (([a1.av F] : List AV)[k]?).getD (F.ρ (k - 0 + nr0))) [a1] [.rns 0 [.pl (.str v36), .pl (.i64 v37), .pl (.i64 v38), .sl (.f32 v39)]] (fun F' h0 hi hρ => ⟨by simp [DVs.av, DV.av, BR.av, hρ], laws_toSheetS_fn v36 v37 v38 v39 F' (st_nil hi) ⟨(rns_ok (n := nr0) hi (by rw [h0]; exact hrn0) (by rw [hρ]; exact hra0) fun m => by rw [hρ]; exact (rho_far (g := fun k => F.ρ (k - 0 + nr0)) (by simp <;> omega)).trans (congrArg F.ρ (by omega))), trivial⟩ hy⟩) rfl rfl
    · cases hr
  · cases hr
/-! spec.l01Bits -/
noncomputable def spec_l01Bits_LO (v97 : Nat) : LOr := fun id e L =>
  match id with
  | _ => .fail
noncomputable def spec_l01Bits_tab : List (FuncId × DFn × Bool) := [(84, Bits32_F, true)]
theorem spec_l01Bits_hO : OrcOk Try.prog (tabD spec_l01Bits_tab) (tabM spec_l01Bits_tab) := tabD_cons Bits32_Fok (tabD_nil _)
noncomputable def spec_l01Bits_T (v97 : Nat) : Tree (Int) :=
  (.br (!feq .f32 v97 v97) (
  .leaf (2143289344 : Int)
  ) (
  (.grd (!isNan .f32 v97) <|
  .leaf (IntKind.i64.wrap (((v97 : Nat) : Int))))
  ))

noncomputable def spec_l01Bits_g (v97 : Nat) : Option (Int) := (spec_l01Bits_T v97).run
def spec_l01Bits_enc (v97 : Nat) (y : Int) : Rs := (.int .i64 y, [])
theorem spec_l01Bits_den (v97 : Nat) : (den TT (tabD spec_l01Bits_tab) (tabM spec_l01Bits_tab) (spec_l01Bits_LO v97) (codeOf Try.f62) ([.flt .f32 v97] ++ List.replicate (Try.f62.ntmps - ([.flt .f32 v97] : List DV).length) .undef) []).bind (retD TT Try.f62.results.toList 0) = (spec_l01Bits_T v97).bind fun y => .leaf (spec_l01Bits_enc v97 y) := by kernel_rfl
theorem spec_l01Bits_fn (v97 : Nat) (F : Fr) (h0 : St F [] F.H0) (hA : DVs.Ok F [] [.flt .f32 v97]) {y : Int} (hy : spec_l01Bits_g v97 = some y) : ∃ F' H', Fwd 0 F F' [] (spec_l01Bits_enc v97 y).2 ∧ FnOk Try.prog 62 (DVs.av F [.flt .f32 v97]) F.H0 ((spec_l01Bits_enc v97 y).1.av F') H' ∧ St F' (spec_l01Bits_enc v97 y).2 H' ∧ (spec_l01Bits_enc v97 y).1.Ok F' (spec_l01Bits_enc v97 y).2 :=
  fn_fin tok spec_l01Bits_hO mixed Try.func62 Try.call62 (by kernel_rfl) (LoopsOk_eq (l := []) (by kernel_rfl) trivial) (spec_l01Bits_den v97) hy h0 hA
noncomputable def spec_l01Bits_F : DFn := fun args L =>
  match args with
  | [.flt .f32 v97] =>
    .call (spec_l01Bits_g v97) fun y => .leaf (.int .i64 y, L)
  | _ => .fail
theorem spec_l01Bits_Fok : COk Try.prog 62 spec_l01Bits_F true := by
  intro F L H args r L' hs ha hr
  unfold spec_l01Bits_F at hr
  split at hr
  · rename_i v97
    simp only [Tree.run] at hr
    obtain ⟨y, hy, hr⟩ := Option.bind_eq_some_iff.1 hr
    simp only [Tree.run, Option.some.injEq, Prod.mk.injEq] at hr
    obtain ⟨rfl, rfl⟩ := hr
    exact call_ok0 hs (fun k => (([] : List AV)[k]?).getD .top) [.flt .f32 v97] [.flt .f32 v97] (fun F' h0 hi hρ => ⟨by simp [DVs.av, DV.av, BR.av, hρ], spec_l01Bits_fn v97 F' (st_nil hi) ⟨trivial, trivial⟩ hy⟩) rfl
  · cases hr
/-! spec.l01Same -/
noncomputable def spec_l01Same_LO (v95 : Nat) (v96 : Nat) : LOr := fun id e L =>
  match id with
  | _ => .fail
noncomputable def spec_l01Same_tab : List (FuncId × DFn × Bool) := [(62, spec_l01Bits_F, true)]
theorem spec_l01Same_hO : OrcOk Try.prog (tabD spec_l01Same_tab) (tabM spec_l01Same_tab) := tabD_cons spec_l01Bits_Fok (tabD_nil _)
noncomputable def spec_l01Same_T (v95 : Nat) (v96 : Nat) : Tree (Bool) :=
  (.call (spec_l01Bits_g v95) fun v98 =>
  (.call (spec_l01Bits_g v96) fun v99 =>
  .leaf (decide (v98 = v99))))

noncomputable def spec_l01Same_g (v95 : Nat) (v96 : Nat) : Option (Bool) := (spec_l01Same_T v95 v96).run
def spec_l01Same_enc (v95 : Nat) (v96 : Nat) (y : Bool) : Rs := (.bool y, [])
theorem spec_l01Same_den (v95 : Nat) (v96 : Nat) : (den TT (tabD spec_l01Same_tab) (tabM spec_l01Same_tab) (spec_l01Same_LO v95 v96) (codeOf Try.f86) ([.flt .f32 v95, .flt .f32 v96] ++ List.replicate (Try.f86.ntmps - ([.flt .f32 v95, .flt .f32 v96] : List DV).length) .undef) []).bind (retD TT Try.f86.results.toList 0) = (spec_l01Same_T v95 v96).bind fun y => .leaf (spec_l01Same_enc v95 v96 y) := by kernel_rfl
theorem spec_l01Same_fn (v95 : Nat) (v96 : Nat) (F : Fr) (h0 : St F [] F.H0) (hA : DVs.Ok F [] [.flt .f32 v95, .flt .f32 v96]) {y : Bool} (hy : spec_l01Same_g v95 v96 = some y) : ∃ F' H', Fwd 0 F F' [] (spec_l01Same_enc v95 v96 y).2 ∧ FnOk Try.prog 86 (DVs.av F [.flt .f32 v95, .flt .f32 v96]) F.H0 ((spec_l01Same_enc v95 v96 y).1.av F') H' ∧ St F' (spec_l01Same_enc v95 v96 y).2 H' ∧ (spec_l01Same_enc v95 v96 y).1.Ok F' (spec_l01Same_enc v95 v96 y).2 :=
  fn_fin tok spec_l01Same_hO mixed Try.func86 Try.call86 (by kernel_rfl) (LoopsOk_eq (l := []) (by kernel_rfl) trivial) (spec_l01Same_den v95 v96) hy h0 hA
noncomputable def spec_l01Same_F : DFn := fun args L =>
  match args with
  | [.flt .f32 v95, .flt .f32 v96] =>
    .call (spec_l01Same_g v95 v96) fun y => .leaf (.bool y, L)
  | _ => .fail
theorem spec_l01Same_Fok : COk Try.prog 86 spec_l01Same_F true := by
  intro F L H args r L' hs ha hr
  unfold spec_l01Same_F at hr
  split at hr
  · rename_i v95 v96
    simp only [Tree.run] at hr
    obtain ⟨y, hy, hr⟩ := Option.bind_eq_some_iff.1 hr
    simp only [Tree.run, Option.some.injEq, Prod.mk.injEq] at hr
    obtain ⟨rfl, rfl⟩ := hr
    exact call_ok0 hs (fun k => (([] : List AV)[k]?).getD .top) [.flt .f32 v95, .flt .f32 v96] [.flt .f32 v95, .flt .f32 v96] (fun F' h0 hi hρ => ⟨by simp [DVs.av, DV.av, BR.av, hρ], spec_l01Same_fn v95 v96 F' (st_nil hi) ⟨trivial, trivial, trivial⟩ hy⟩) rfl
  · cases hr
/-! spec.l01SameAll -/
noncomputable def spec_l01SameAll_l0_T (v92 : List Nat) (v93 : List Nat) (s : Int) : Tree ((Int) ⊕ ((Unit) ⊕ (Unit))) :=
  (.br (decide (s < ((v92.length : Nat) : Int))) (
  (.grd (inb s v92.length) <|
  (.grd (inb s v93.length) <|
  (.call (spec_l01Same_g (nth v92 (Int.toNat s)) (nth v93 (Int.toNat s))) fun v104 =>
  (.br (!v104) (
  .leaf (.inr (.inl ()))
  ) (
  .leaf (.inl (IntKind.i64.wrap (s + (1 : Int))))
  )))))
  ) (
  .leaf (.inr (.inr ()))
  ))

noncomputable def spec_l01SameAll_l0_g (v92 : List Nat) (v93 : List Nat) (s0 : Int) : Option ((Unit) ⊕ (Unit)) := whileM (fun s => (spec_l01SameAll_l0_T v92 v93 s).run) s0
def spec_l01SameAll_l0_E (v92 : List Nat) (v93 : List Nat) (s : Int) : Sd := ([.bslc (BR.root 0) (.f32 v92),.bslc (BR.root 1) (.f32 v93),tp,tp,tp,.int .i64 s,tp,tp,tp,tp,tp,tp,tp,tp,tp,tp,tp,tp,tp,tp,tp,tp,tp,tp,tp,tp,tp], [])
def spec_l01SameAll_l0_X (v92 : List Nat) (v93 : List Nat) (x : (Unit) ⊕ (Unit)) : Out := (match x with | .inl x => (.ret, [tp,tp,tp,tp,.lit false,tp,tp,tp,tp,tp,tp,tp,tp,tp,tp,tp,tp,tp,tp,tp,tp,tp,tp,tp,tp,tp,tp], []) | .inr x => (.normal, [tp,tp,tp,tp,tp,tp,tp,tp,tp,tp,tp,tp,tp,tp,tp,tp,tp,tp,tp,tp,tp,tp,tp,tp,tp,tp,tp], []))
def spec_l01SameAll_l0_kill : List Nat := KL true [0,2,3,1,21]
def spec_l01SameAll_l0_nx : Exit → List Nat
  | .exit 0 => KL true [27]
  | .ret => KL true [4,1,22]
  | _ => []
noncomputable def spec_l01SameAll_LO (v92 : List Nat) (v93 : List Nat) : LOr := fun id e L =>
  match id with
  | 0 => .need (normA 0 spec_l01SameAll_l0_kill e L = some (spec_l01SameAll_l0_E v92 v93 (gI (vAt e 5)))) (.call (spec_l01SameAll_l0_g v92 v93 (gI (vAt e 5))) fun x => .sum x (fun b0 => .leaf (spec_l01SameAll_l0_X v92 v93 (.inl b0))) (fun c0 => .leaf (spec_l01SameAll_l0_X v92 v93 (.inr c0))))
  | _ => .fail
noncomputable def spec_l01SameAll_tab : List (FuncId × DFn × Bool) := [(86, spec_l01Same_F, true)]
theorem spec_l01SameAll_hO : OrcOk Try.prog (tabD spec_l01SameAll_tab) (tabM spec_l01SameAll_tab) := tabD_cons spec_l01Same_Fok (tabD_nil _)
theorem spec_l01SameAll_l0_be (v92 : List Nat) (v93 : List Nat) (s : Int) : bodyT TT (tabD spec_l01SameAll_tab) (tabM spec_l01SameAll_tab) (spec_l01SameAll_LO v92 v93) 0 spec_l01SameAll_l0_kill spec_l01SameAll_l0_nx (bodyOf Try.f73 0) 0 (spec_l01SameAll_l0_E v92 v93 s) = (spec_l01SameAll_l0_T v92 v93 s).bind fun y => .leaf (outS (spec_l01SameAll_l0_E v92 v93) (spec_l01SameAll_l0_X v92 v93) y) := by kernel_rfl
theorem spec_l01SameAll_l0_ok (v92 : List Nat) (v93 : List Nat) : LSound Try.prog 0 (spec_l01SameAll_LO v92 v93) 0 (bodyOf Try.f73 0) := by
  intro e L out h
  exact lo_ok (E := spec_l01SameAll_l0_E v92 v93) (gT := spec_l01SameAll_l0_T v92 v93) (X := spec_l01SameAll_l0_X v92 v93) (s0 := (gI (vAt e 5))) tok spec_l01SameAll_hO mixed (LoopsOk_eq (l := []) (by kernel_rfl) trivial) (spec_l01SameAll_l0_be v92 v93) rfl (by intro x; (cases x with | inl b => rfl | inr x => exact rfl)) h
noncomputable def spec_l01SameAll_T (v92 : List Nat) (v93 : List Nat) : Tree (Bool) :=
  (.br (!decide (((v92.length : Nat) : Int) = ((v93.length : Nat) : Int))) (
  .leaf false
  ) (
  (.need (some (spec_l01SameAll_l0_E v92 v93 (0 : Int)) = some (spec_l01SameAll_l0_E v92 v93 (0 : Int))) <|
  (.call (spec_l01SameAll_l0_g v92 v93 (0 : Int)) fun v105 =>
  (.sum v105 (fun v106 =>
  .leaf false
  ) (fun v107 =>
  .leaf true
  ))))
  ))

noncomputable def spec_l01SameAll_g (v92 : List Nat) (v93 : List Nat) : Option (Bool) := (spec_l01SameAll_T v92 v93).run
def spec_l01SameAll_enc (v92 : List Nat) (v93 : List Nat) (y : Bool) : Rs := (.bool y, [])
theorem spec_l01SameAll_den (v92 : List Nat) (v93 : List Nat) : (den TT (tabD spec_l01SameAll_tab) (tabM spec_l01SameAll_tab) (spec_l01SameAll_LO v92 v93) (codeOf Try.f73) ([.bslc (BR.root 0) (.f32 v92), .bslc (BR.root 1) (.f32 v93)] ++ List.replicate (Try.f73.ntmps - ([.bslc (BR.root 0) (.f32 v92), .bslc (BR.root 1) (.f32 v93)] : List DV).length) .undef) []).bind (retD TT Try.f73.results.toList 0) = (spec_l01SameAll_T v92 v93).bind fun y => .leaf (spec_l01SameAll_enc v92 v93 y) := by kernel_rfl
theorem spec_l01SameAll_fn (v92 : List Nat) (v93 : List Nat) (F : Fr) (h0 : St F [] F.H0) (hA : DVs.Ok F [] [.bslc (BR.root 0) (.f32 v92), .bslc (BR.root 1) (.f32 v93)]) {y : Bool} (hy : spec_l01SameAll_g v92 v93 = some y) : ∃ F' H', Fwd 0 F F' [] (spec_l01SameAll_enc v92 v93 y).2 ∧ FnOk Try.prog 73 (DVs.av F [.bslc (BR.root 0) (.f32 v92), .bslc (BR.root 1) (.f32 v93)]) F.H0 ((spec_l01SameAll_enc v92 v93 y).1.av F') H' ∧ St F' (spec_l01SameAll_enc v92 v93 y).2 H' ∧ (spec_l01SameAll_enc v92 v93 y).1.Ok F' (spec_l01SameAll_enc v92 v93 y).2 :=
  fn_fin tok spec_l01SameAll_hO mixed Try.func73 Try.call73 (by kernel_rfl) (LoopsOk_eq (l := [(0, bodyOf Try.f73 0)]) (by kernel_rfl) ⟨spec_l01SameAll_l0_ok v92 v93, trivial⟩) (spec_l01SameAll_den v92 v93) hy h0 hA
noncomputable def spec_l01SameAll_F : DFn := fun args L =>
  match args with
  | [a1, a2] =>
    optT (rowF32 L a1) fun v92 =>
    optT (rowF32 L a2) fun v93 =>
    .call (spec_l01SameAll_g v92 v93) fun y => .leaf (.bool y, L)
  | _ => .fail
theorem spec_l01SameAll_Fok : COk Try.prog 73 spec_l01SameAll_F true := by
  intro F L H args r L' hs ha hr
  unfold spec_l01SameAll_F at hr
  split at hr
  · rename_i a1 a2
    obtain ⟨v92, hv92, hr⟩ := optT_run hr
    obtain ⟨v93, hv93, hr⟩ := optT_run hr
    simp only [Tree.run] at hr
    obtain ⟨y, hy, hr⟩ := Option.bind_eq_some_iff.1 hr
    simp only [Tree.run, Option.some.injEq, Prod.mk.injEq] at hr
    obtain ⟨rfl, rfl⟩ := hr
    exact call_ok0 hs (fun k => (([a1.av F, a2.av F] : List AV)[k]?).getD .top) [a1, a2] [.bslc (BR.root 0) (.f32 v92), .bslc (BR.root 1) (.f32 v93)] (fun F' h0 hi hρ => ⟨by simp [DVs.av, DV.av, BR.av, hρ], spec_l01SameAll_fn v92 v93 F' (st_nil hi) ⟨bslc_ok hi (by rw [h0, hρ]; exact rowF32_ok hs (DVs.okAt ha 0 rfl) hv92), bslc_ok hi (by rw [h0, hρ]; exact rowF32_ok hs (DVs.okAt ha 1 rfl) hv93), trivial⟩ hy⟩) rfl
  · cases hr
/-! spec.l02Same -/
noncomputable def spec_l02Same_LO (v86 : Int) (v87 : Int) (v88 : List Nat) (v89 : Int) (v90 : Int) (v91 : List Nat) : LOr := fun id e L =>
  match id with
  | _ => .fail
noncomputable def spec_l02Same_tab : List (FuncId × DFn × Bool) := [(73, spec_l01SameAll_F, true)]
theorem spec_l02Same_hO : OrcOk Try.prog (tabD spec_l02Same_tab) (tabM spec_l02Same_tab) := tabD_cons spec_l01SameAll_Fok (tabD_nil _)
noncomputable def spec_l02Same_T (v86 : Int) (v87 : Int) (v88 : List Nat) (v89 : Int) (v90 : Int) (v91 : List Nat) : Tree (Bool) :=
  (.br (decide (v86 = v89)) (
  (.br (decide (v87 = v90)) (
  (.call (spec_l01SameAll_g v88 v91) fun v108 =>
  .leaf v108)
  ) (
  .leaf false
  ))
  ) (
  .leaf false
  ))

noncomputable def spec_l02Same_g (v86 : Int) (v87 : Int) (v88 : List Nat) (v89 : Int) (v90 : Int) (v91 : List Nat) : Option (Bool) := (spec_l02Same_T v86 v87 v88 v89 v90 v91).run
def spec_l02Same_enc (v86 : Int) (v87 : Int) (v88 : List Nat) (v89 : Int) (v90 : Int) (v91 : List Nat) (y : Bool) : Rs := (.bool y, [])
theorem spec_l02Same_den (v86 : Int) (v87 : Int) (v88 : List Nat) (v89 : Int) (v90 : Int) (v91 : List Nat) : (den TT (tabD spec_l02Same_tab) (tabM spec_l02Same_tab) (spec_l02Same_LO v86 v87 v88 v89 v90 v91) (codeOf Try.f43) ([.bptr (BR.root 0) [.int .i64 v86, .int .i64 v87, .bslc (BR.root 1) (.f32 v88)], .bptr (BR.root 2) [.int .i64 v89, .int .i64 v90, .bslc (BR.root 3) (.f32 v91)]] ++ List.replicate (Try.f43.ntmps - ([.bptr (BR.root 0) [.int .i64 v86, .int .i64 v87, .bslc (BR.root 1) (.f32 v88)], .bptr (BR.root 2) [.int .i64 v89, .int .i64 v90, .bslc (BR.root 3) (.f32 v91)]] : List DV).length) .undef) []).bind (retD TT Try.f43.results.toList 0) = (spec_l02Same_T v86 v87 v88 v89 v90 v91).bind fun y => .leaf (spec_l02Same_enc v86 v87 v88 v89 v90 v91 y) := by kernel_rfl
theorem spec_l02Same_fn (v86 : Int) (v87 : Int) (v88 : List Nat) (v89 : Int) (v90 : Int) (v91 : List Nat) (F : Fr) (h0 : St F [] F.H0) (hA : DVs.Ok F [] [.bptr (BR.root 0) [.int .i64 v86, .int .i64 v87, .bslc (BR.root 1) (.f32 v88)], .bptr (BR.root 2) [.int .i64 v89, .int .i64 v90, .bslc (BR.root 3) (.f32 v91)]]) {y : Bool} (hy : spec_l02Same_g v86 v87 v88 v89 v90 v91 = some y) : ∃ F' H', Fwd 0 F F' [] (spec_l02Same_enc v86 v87 v88 v89 v90 v91 y).2 ∧ FnOk Try.prog 43 (DVs.av F [.bptr (BR.root 0) [.int .i64 v86, .int .i64 v87, .bslc (BR.root 1) (.f32 v88)], .bptr (BR.root 2) [.int .i64 v89, .int .i64 v90, .bslc (BR.root 3) (.f32 v91)]]) F.H0 ((spec_l02Same_enc v86 v87 v88 v89 v90 v91 y).1.av F') H' ∧ St F' (spec_l02Same_enc v86 v87 v88 v89 v90 v91 y).2 H' ∧ (spec_l02Same_enc v86 v87 v88 v89 v90 v91 y).1.Ok F' (spec_l02Same_enc v86 v87 v88 v89 v90 v91 y).2 :=
  fn_fin tok spec_l02Same_hO mixed Try.func43 Try.call43 (by kernel_rfl) (LoopsOk_eq (l := []) (by kernel_rfl) trivial) (spec_l02Same_den v86 v87 v88 v89 v90 v91) hy h0 hA
noncomputable def spec_l02Same_F : DFn := fun args L =>
  match args with
  | [a1, a3] =>
    optT (cellsOf L 3 a1) fun cs0 =>
    (match cs0 with
    | [.int .i64 v86, .int .i64 v87, a2] =>
    optT (rowF32 L a2) fun v88 =>
    optT (cellsOf L 3 a3) fun cs2 =>
    (match cs2 with
    | [.int .i64 v89, .int .i64 v90, a4] =>
    optT (rowF32 L a4) fun v91 =>
    .call (spec_l02Same_g v86 v87 v88 v89 v90 v91) fun y => .leaf (.bool y, L)
    | _ => .fail)
    | _ => .fail)
  | _ => .fail
theorem spec_l02Same_Fok : COk Try.prog 43 spec_l02Same_F true := by
  intro F L H args r L' hs ha hr
  unfold spec_l02Same_F at hr
  split at hr
  · rename_i a1 a3
    obtain ⟨cs0, hcp0, hr⟩ := optT_run hr
    split at hr
    · rename_i v86 v87 a2
      obtain ⟨v88, hv88, hr⟩ := optT_run hr
      obtain ⟨cs2, hcp2, hr⟩ := optT_run hr
      split at hr
      · rename_i v89 v90 a4
        obtain ⟨v91, hv91, hr⟩ := optT_run hr
        simp only [Tree.run] at hr
        obtain ⟨y, hy, hr⟩ := Option.bind_eq_some_iff.1 hr
        simp only [Tree.run, Option.some.injEq, Prod.mk.injEq] at hr
        obtain ⟨rfl, rfl⟩ := hr
        exact call_ok0 hs (fun k => (([a1.av F, a2.av F, a3.av F, a4.av F] : List AV)[k]?).getD .top) [a1, a3] [.bptr (BR.root 0) [.int .i64 v86, .int .i64 v87, .bslc (BR.root 1) (.f32 v88)], .bptr (BR.root 2) [.int .i64 v89, .int .i64 v90, .bslc (BR.root 3) (.f32 v91)]] (fun F' h0 hi hρ => ⟨by simp [DVs.av, DV.av, BR.av, hρ], spec_l02Same_fn v86 v87 v88 v89 v90 v91 F' (st_nil hi) ⟨bptr_ok hi (by rw [h0]; simpa [DVs.av, DV.av, BR.av, hρ] using (cellsOf_ok hs (DVs.okAt ha 0 rfl) hcp0).1) ⟨trivial, trivial, bslc_ok hi (by rw [h0, hρ]; exact rowF32_ok hs (DVs.okAt (cellsOf_ok hs (DVs.okAt ha 0 rfl) hcp0).2 2 rfl) hv88), trivial⟩, bptr_ok hi (by rw [h0]; simpa [DVs.av, DV.av, BR.av, hρ] using (cellsOf_ok hs (DVs.okAt ha 1 rfl) hcp2).1) ⟨trivial, trivial, bslc_ok hi (by rw [h0, hρ]; exact rowF32_ok hs (DVs.okAt (cellsOf_ok hs (DVs.okAt ha 1 rfl) hcp2).2 2 rfl) hv91), trivial⟩, trivial⟩ hy⟩) rfl
      · cases hr
    · cases hr
  · cases hr
/-! spec.SameSheets -/
noncomputable def spec_SameSheets_nst_l0_T (v75 : List ByteArray) (v76 : List Int) (v77 : List Int) (v78 : List (List Nat)) (v79 : List Nat) (v80 : List ByteArray) (v81 : List Int) (v82 : List Int) (v83 : List (List Nat)) (v84 : List Nat) (s : Int) : Tree ((Int) ⊕ ((Unit) ⊕ (Unit))) :=
  (.br (decide (s < (((v75).length : Nat) : Int))) (
  (.grd (inb s ((v75).length)) <|
  (.grd (inb s ((v80).length)) <|
  (.br (!((nth v75 (Int.toNat s)).toList == (nth v80 (Int.toNat s)).toList)) (
  .leaf (.inr (.inl ()))
  ) (
  (.grd (inb s ((v75).length)) <|
  (.grd (inb s ((v80).length)) <|
  (.call (spec_l02Same_g (nth v76 (Int.toNat s)) (nth v77 (Int.toNat s)) (nget v78 (nth v79 (Int.toNat s))) (nth v81 (Int.toNat s)) (nth v82 (Int.toNat s)) (nget v83 (nth v84 (Int.toNat s)))) fun v113 =>
  (.br (!v113) (
  .leaf (.inr (.inl ()))
  ) (
  .leaf (.inl (IntKind.i64.wrap (s + (1 : Int))))
  )))))
  ))))
  ) (
  .leaf (.inr (.inr ()))
  ))

noncomputable def spec_SameSheets_nst_l0_g (v75 : List ByteArray) (v76 : List Int) (v77 : List Int) (v78 : List (List Nat)) (v79 : List Nat) (v80 : List ByteArray) (v81 : List Int) (v82 : List Int) (v83 : List (List Nat)) (v84 : List Nat) (s0 : Int) : Option ((Unit) ⊕ (Unit)) := whileM (fun s => (spec_SameSheets_nst_l0_T v75 v76 v77 v78 v79 v80 v81 v82 v83 v84 s).run) s0
def spec_SameSheets_nst_l0_E (v75 : List ByteArray) (v76 : List Int) (v77 : List Int) (v78 : List (List Nat)) (v79 : List Nat) (v80 : List ByteArray) (v81 : List Int) (v82 : List Int) (v83 : List (List Nat)) (v84 : List Nat) (s : Int) : Sd := ([.nest 0 0 4 ((v75).length),.nest 1 0 4 ((v80).length),tp,tp,tp,tp,tp,tp,tp,tp,tp,tp,.int .i64 (((v75).length : Nat) : Int),.int .i64 s,tp,tp,tp,tp,tp,tp,tp,tp,tp,tp,tp,tp,tp,tp,tp,tp,tp,tp,tp,tp,tp,tp,tp,tp,tp,tp], [.nest [.pl (.str v75), .pl (.i64 v76), .pl (.i64 v77), .sl (.f32 v78) v79] false 0, .nest [.pl (.str v80), .pl (.i64 v81), .pl (.i64 v82), .sl (.f32 v83) v84] false 0])
def spec_SameSheets_nst_l0_X (v75 : List ByteArray) (v76 : List Int) (v77 : List Int) (v78 : List (List Nat)) (v79 : List Nat) (v80 : List ByteArray) (v81 : List Int) (v82 : List Int) (v83 : List (List Nat)) (v84 : List Nat) (x : (Unit) ⊕ (Unit)) : Out := (match x with | .inl x => (.ret, [tp,tp,tp,tp,.lit false,tp,tp,tp,tp,tp,tp,tp,tp,tp,tp,tp,tp,tp,tp,tp,tp,tp,tp,tp,tp,tp,tp,tp,tp,tp,tp,tp,tp,tp,tp,tp,tp,tp,tp,tp], [.nest [.pl (.str v75), .pl (.i64 v76), .pl (.i64 v77), .sl (.f32 v78) v79] false 0, .nest [.pl (.str v80), .pl (.i64 v81), .pl (.i64 v82), .sl (.f32 v83) v84] false 0]) | .inr x => (.normal, [tp,tp,tp,tp,tp,tp,tp,tp,tp,tp,tp,tp,tp,tp,tp,tp,tp,tp,tp,tp,tp,tp,tp,tp,tp,tp,tp,tp,tp,tp,tp,tp,tp,tp,tp,tp,tp,tp,tp,tp], [.nest [.pl (.str v75), .pl (.i64 v76), .pl (.i64 v77), .sl (.f32 v78) v79] false 0, .nest [.pl (.str v80), .pl (.i64 v81), .pl (.i64 v82), .sl (.f32 v83) v84] false 0]))
def spec_SameSheets_nst_l0_kill : List Nat := KL true [0,2,10,2,26]
def spec_SameSheets_nst_l0_nx : Exit → List Nat
  | .exit 0 => KL true [40]
  | .ret => KL true [4,1,35]
  | _ => []
noncomputable def spec_SameSheets_nst_LO (v75 : List ByteArray) (v76 : List Int) (v77 : List Int) (v78 : List (List Nat)) (v79 : List Nat) (v80 : List ByteArray) (v81 : List Int) (v82 : List Int) (v83 : List (List Nat)) (v84 : List Nat) : LOr := fun id e L =>
  match id with
  | 0 => .need (normA 2 spec_SameSheets_nst_l0_kill e L = some (spec_SameSheets_nst_l0_E v75 v76 v77 v78 v79 v80 v81 v82 v83 v84 (gI (vAt e 13)))) (.call (spec_SameSheets_nst_l0_g v75 v76 v77 v78 v79 v80 v81 v82 v83 v84 (gI (vAt e 13))) fun x => .sum x (fun b0 => .leaf (spec_SameSheets_nst_l0_X v75 v76 v77 v78 v79 v80 v81 v82 v83 v84 (.inl b0))) (fun c0 => .leaf (spec_SameSheets_nst_l0_X v75 v76 v77 v78 v79 v80 v81 v82 v83 v84 (.inr c0))))
  | _ => .fail
noncomputable def spec_SameSheets_nst_tab : List (FuncId × DFn × Bool) := [(43, spec_l02Same_F, true)]
theorem spec_SameSheets_nst_hO : OrcOk Try.prog (tabD spec_SameSheets_nst_tab) (tabM spec_SameSheets_nst_tab) := tabD_cons spec_l02Same_Fok (tabD_nil _)
theorem spec_SameSheets_nst_l0_be (v75 : List ByteArray) (v76 : List Int) (v77 : List Int) (v78 : List (List Nat)) (v79 : List Nat) (v80 : List ByteArray) (v81 : List Int) (v82 : List Int) (v83 : List (List Nat)) (v84 : List Nat) (s : Int) : bodyT TT (tabD spec_SameSheets_nst_tab) (tabM spec_SameSheets_nst_tab) (spec_SameSheets_nst_LO v75 v76 v77 v78 v79 v80 v81 v82 v83 v84) 2 spec_SameSheets_nst_l0_kill spec_SameSheets_nst_l0_nx (bodyOf Try.f19 0) 0 (spec_SameSheets_nst_l0_E v75 v76 v77 v78 v79 v80 v81 v82 v83 v84 s) = (spec_SameSheets_nst_l0_T v75 v76 v77 v78 v79 v80 v81 v82 v83 v84 s).bind fun y => .leaf (outS (spec_SameSheets_nst_l0_E v75 v76 v77 v78 v79 v80 v81 v82 v83 v84) (spec_SameSheets_nst_l0_X v75 v76 v77 v78 v79 v80 v81 v82 v83 v84) y) := by kernel_rfl
theorem spec_SameSheets_nst_l0_ok (v75 : List ByteArray) (v76 : List Int) (v77 : List Int) (v78 : List (List Nat)) (v79 : List Nat) (v80 : List ByteArray) (v81 : List Int) (v82 : List Int) (v83 : List (List Nat)) (v84 : List Nat) : LSound Try.prog 2 (spec_SameSheets_nst_LO v75 v76 v77 v78 v79 v80 v81 v82 v83 v84) 0 (bodyOf Try.f19 0) := by
  intro e L out h
  exact lo_ok (E := spec_SameSheets_nst_l0_E v75 v76 v77 v78 v79 v80 v81 v82 v83 v84) (gT := spec_SameSheets_nst_l0_T v75 v76 v77 v78 v79 v80 v81 v82 v83 v84) (X := spec_SameSheets_nst_l0_X v75 v76 v77 v78 v79 v80 v81 v82 v83 v84) (s0 := (gI (vAt e 13))) tok spec_SameSheets_nst_hO mixed (LoopsOk_eq (l := []) (by kernel_rfl) trivial) (spec_SameSheets_nst_l0_be v75 v76 v77 v78 v79 v80 v81 v82 v83 v84) rfl (by intro x; (cases x with | inl b => rfl | inr x => exact rfl)) h
noncomputable def spec_SameSheets_nst_T (v75 : List ByteArray) (v76 : List Int) (v77 : List Int) (v78 : List (List Nat)) (v79 : List Nat) (v80 : List ByteArray) (v81 : List Int) (v82 : List Int) (v83 : List (List Nat)) (v84 : List Nat) : Tree (Bool) :=
  (.br (!decide ((((v75).length : Nat) : Int) = (((v80).length : Nat) : Int))) (
  .leaf false
  ) (
  (.need (some (spec_SameSheets_nst_l0_E v75 v76 v77 v78 v79 v80 v81 v82 v83 v84 (0 : Int)) = some (spec_SameSheets_nst_l0_E v75 v76 v77 v78 v79 v80 v81 v82 v83 v84 (0 : Int))) <|
  (.call (spec_SameSheets_nst_l0_g v75 v76 v77 v78 v79 v80 v81 v82 v83 v84 (0 : Int)) fun v114 =>
  (.sum v114 (fun v115 =>
  .leaf false
  ) (fun v116 =>
  .leaf true
  ))))
  ))

noncomputable def spec_SameSheets_nst_g (v75 : List ByteArray) (v76 : List Int) (v77 : List Int) (v78 : List (List Nat)) (v79 : List Nat) (v80 : List ByteArray) (v81 : List Int) (v82 : List Int) (v83 : List (List Nat)) (v84 : List Nat) : Option (Bool) := (spec_SameSheets_nst_T v75 v76 v77 v78 v79 v80 v81 v82 v83 v84).run
def spec_SameSheets_nst_enc (v75 : List ByteArray) (v76 : List Int) (v77 : List Int) (v78 : List (List Nat)) (v79 : List Nat) (v80 : List ByteArray) (v81 : List Int) (v82 : List Int) (v83 : List (List Nat)) (v84 : List Nat) (y : Bool) : Rs := (.bool y, [.nest [.pl (.str v75), .pl (.i64 v76), .pl (.i64 v77), .sl (.f32 v78) v79] false 0, .nest [.pl (.str v80), .pl (.i64 v81), .pl (.i64 v82), .sl (.f32 v83) v84] false 0])
theorem spec_SameSheets_nst_den (v75 : List ByteArray) (v76 : List Int) (v77 : List Int) (v78 : List (List Nat)) (v79 : List Nat) (v80 : List ByteArray) (v81 : List Int) (v82 : List Int) (v83 : List (List Nat)) (v84 : List Nat) : (den TT (tabD spec_SameSheets_nst_tab) (tabM spec_SameSheets_nst_tab) (spec_SameSheets_nst_LO v75 v76 v77 v78 v79 v80 v81 v82 v83 v84) (codeOf Try.f19) ([.nest 0 0 4 ((v75).length), .nest 1 0 4 ((v80).length)] ++ List.replicate (Try.f19.ntmps - ([.nest 0 0 4 ((v75).length), .nest 1 0 4 ((v80).length)] : List DV).length) .undef) [.nest [.pl (.str v75), .pl (.i64 v76), .pl (.i64 v77), .sl (.f32 v78) v79] false 0, .nest [.pl (.str v80), .pl (.i64 v81), .pl (.i64 v82), .sl (.f32 v83) v84] false 0]).bind (retD TT Try.f19.results.toList 2) = (spec_SameSheets_nst_T v75 v76 v77 v78 v79 v80 v81 v82 v83 v84).bind fun y => .leaf (spec_SameSheets_nst_enc v75 v76 v77 v78 v79 v80 v81 v82 v83 v84 y) := by kernel_rfl
theorem spec_SameSheets_nst_fn (v75 : List ByteArray) (v76 : List Int) (v77 : List Int) (v78 : List (List Nat)) (v79 : List Nat) (v80 : List ByteArray) (v81 : List Int) (v82 : List Int) (v83 : List (List Nat)) (v84 : List Nat) (F : Fr) (h0 : St F [.nest [.pl (.str v75), .pl (.i64 v76), .pl (.i64 v77), .sl (.f32 v78) v79] false 0, .nest [.pl (.str v80), .pl (.i64 v81), .pl (.i64 v82), .sl (.f32 v83) v84] false 0] F.H0) (hA : DVs.Ok F [.nest [.pl (.str v75), .pl (.i64 v76), .pl (.i64 v77), .sl (.f32 v78) v79] false 0, .nest [.pl (.str v80), .pl (.i64 v81), .pl (.i64 v82), .sl (.f32 v83) v84] false 0] [.nest 0 0 4 ((v75).length), .nest 1 0 4 ((v80).length)]) {y : Bool} (hy : spec_SameSheets_nst_g v75 v76 v77 v78 v79 v80 v81 v82 v83 v84 = some y) : ∃ F' H', Fwd 2 F F' [.nest [.pl (.str v75), .pl (.i64 v76), .pl (.i64 v77), .sl (.f32 v78) v79] false 0, .nest [.pl (.str v80), .pl (.i64 v81), .pl (.i64 v82), .sl (.f32 v83) v84] false 0] (spec_SameSheets_nst_enc v75 v76 v77 v78 v79 v80 v81 v82 v83 v84 y).2 ∧ FnOk Try.prog 19 (DVs.av F [.nest 0 0 4 ((v75).length), .nest 1 0 4 ((v80).length)]) F.H0 ((spec_SameSheets_nst_enc v75 v76 v77 v78 v79 v80 v81 v82 v83 v84 y).1.av F') H' ∧ St F' (spec_SameSheets_nst_enc v75 v76 v77 v78 v79 v80 v81 v82 v83 v84 y).2 H' ∧ (spec_SameSheets_nst_enc v75 v76 v77 v78 v79 v80 v81 v82 v83 v84 y).1.Ok F' (spec_SameSheets_nst_enc v75 v76 v77 v78 v79 v80 v81 v82 v83 v84 y).2 :=
  fn_fin tok spec_SameSheets_nst_hO mixed Try.func19 Try.call19 (by kernel_rfl) (LoopsOk_eq (l := [(0, bodyOf Try.f19 0)]) (by kernel_rfl) ⟨spec_SameSheets_nst_l0_ok v75 v76 v77 v78 v79 v80 v81 v82 v83 v84, trivial⟩) (spec_SameSheets_nst_den v75 v76 v77 v78 v79 v80 v81 v82 v83 v84) hy h0 hA
noncomputable def spec_SameSheets_nst_F : DFn := fun args L =>
  match args with
  | [a1, a2] =>
    optT (nestN L false 4 a1) fun qn0 =>
    (match qn0.2 with
    | [.pl (.str v75), .pl (.i64 v76), .pl (.i64 v77), .sl (.f32 v78) v79] =>
    optT (nestN L false 4 a2) fun qn1 =>
    (match qn1.2 with
    | [.pl (.str v80), .pl (.i64 v81), .pl (.i64 v82), .sl (.f32 v83) v84] =>
    (match sepB [qn0.1, qn1.1] [] with
    | true =>
    .call (spec_SameSheets_nst_g v75 v76 v77 v78 v79 v80 v81 v82 v83 v84) fun y => .grd (decide ((v75).length = (v75).length)) (.grd (decide ((v80).length = (v80).length)) (.leaf (.bool y, setB L [(qn0.1, .nest [.pl (.str v75), .pl (.i64 v76), .pl (.i64 v77), .sl (.f32 v78) v79] false (verAt L qn0.1)), (qn1.1, .nest [.pl (.str v80), .pl (.i64 v81), .pl (.i64 v82), .sl (.f32 v83) v84] false (verAt L qn1.1))] ++ [])))
    | false => .fail)
    | _ => .fail)
    | _ => .fail)
  | _ => .fail
theorem spec_SameSheets_nst_Fok : COk Try.prog 19 spec_SameSheets_nst_F false := by
  intro F L H args r L' hs ha hr
  unfold spec_SameSheets_nst_F at hr
  split at hr
  · rename_i a1 a2
    obtain ⟨⟨jn0, cn0⟩, hn0, hr⟩ := optT_run hr
    simp only at hr
    split at hr
    · rename_i v75 v76 v77 v78 v79
      obtain ⟨hne0, hnu0, hnl0, hnv0, hnm0, hno0⟩ := nestN_spec hs (DVs.okAt ha 0 rfl) hn0
      obtain ⟨⟨jn1, cn1⟩, hn1, hr⟩ := optT_run hr
      simp only at hr
      split at hr
      · rename_i v80 v81 v82 v83 v84
        obtain ⟨hne1, hnu1, hnl1, hnv1, hnm1, hno1⟩ := nestN_spec hs (DVs.okAt ha 1 rfl) hn1
        split at hr
        · rename_i hsep
          obtain ⟨hnd, hsepv⟩ := sepB_spec hsep
          simp only [Tree.run] at hr
          obtain ⟨y, hy, hr⟩ := Option.bind_eq_some_iff.1 hr
          try simp only [Tree.run] at hr
          obtain ⟨hl0, hr⟩ := ite_run hr
          obtain ⟨hl1, hr⟩ := ite_run hr
          simp only [Option.some.injEq, Prod.mk.injEq] at hr
          obtain ⟨rfl, rfl⟩ := hr
          exact mutG_ok hs [a1, a2] ⟨(DVs.okAt ha 0 rfl), (DVs.okAt ha 1 rfl), trivial⟩ [a1, a2] [.nest 0 0 4 ((v75).length), .nest 1 0 4 ((v80).length)] [jn0, jn1] [verAt L jn0, verAt L jn1] [.nest [.pl (.str v75), .pl (.i64 v76), .pl (.i64 v77), .sl (.f32 v78) v79] false 0, .nest [.pl (.str v80), .pl (.i64 v81), .pl (.i64 v82), .sl (.f32 v83) v84] false 0] [.nest [.pl (.str v75), .pl (.i64 v76), .pl (.i64 v77), .sl (.f32 v78) v79] false 0, .nest [.pl (.str v80), .pl (.i64 v81), .pl (.i64 v82), .sl (.f32 v83) v84] false 0] [.nest [.pl (.str v75), .pl (.i64 v76), .pl (.i64 v77), .sl (.f32 v78) v79] false (verAt L jn0), .nest [.pl (.str v80), .pl (.i64 v81), .pl (.i64 v82), .sl (.f32 v83) v84] false (verAt L jn1)] [] hnd rfl rfl (fun j hj => by
              simp at hj
              rcases hj with rfl | rfl
              · exact ex_nest hne0
              · exact ex_nest hne1) (fun j hj => by
              simp at hj
              rcases hj with rfl | rfl
              · exact reach_refs (by simp [DVs.refs, DV.refs, hnu0])
              · exact reach_refs (by simp [DVs.refs, DV.refs, hnu1])) (fun F' h0 hρ ab hpl hS => by
              have ab0 := ab 0 _ rfl; have ab1 := ab 1 _ rfl;
              have hnx0 : a1.av F = (.nest 0 0 4 ((v75).length) : DV).av F' := nestN_av (hpl 0 _ rfl) hnv0
              have hnx1 : a2.av F = (.nest 1 0 4 ((v80).length) : DV).av F' := nestN_av (hpl 1 _ rfl) hnv1
              refine ⟨fun i j b' h1 h2 => ?_, by simp [DBlk.blk, DVs.av, DV.av, BR.av, hρ, Row.len, hnx0, hnx1, ab0, ab0, ab1, ab1], fun hst => spec_SameSheets_nst_fn v75 v76 v77 v78 v79 v80 v81 v82 v83 v84 F' hst ⟨(nest_ok0 (i := 0) rfl rfl hnm0), (nest_ok0 (i := 1) rfl rfl hnm1), trivial⟩ hy⟩
              rcases i with _ | _ | i
              · simp at h1 h2; subst h1; subst h2; obtain ⟨ver_, hv_⟩ := hne0; exact ⟨_, hv_, .nest _ _ _ _, nest_blk (hpl 0 _ rfl) _ _ _ _, hno0 _ _⟩
              · simp at h1 h2; subst h1; subst h2; obtain ⟨ver_, hv_⟩ := hne1; exact ⟨_, hv_, .nest _ _ _ _, nest_blk (hpl 1 _ rfl) _ _ _ _, hno1 _ _⟩
              · simp at h1) rfl rfl (fun i j b b' h1 h2 h3 => by
              rcases i with _ | _ | i
              · simp at h1; subst h1; cases h3; exact growN hne0 (by first | exact of_decide_eq_true hl0 | rfl) rfl h2
              · simp at h1; subst h1; cases h3; exact growN hne1 (by first | exact of_decide_eq_true hl1 | rfl) rfl h2
              · simp at h1)
        · cases hr
      · cases hr
    · cases hr
  · cases hr
/-! math.Signbit -/
noncomputable def math_Signbit_LO (v162 : Nat) : LOr := fun id e L =>
  match id with
  | _ => .fail
noncomputable def math_Signbit_tab : List (FuncId × DFn × Bool) := [(97, Bits64_F, true)]
theorem math_Signbit_hO : OrcOk Try.prog (tabD math_Signbit_tab) (tabM math_Signbit_tab) := tabD_cons Bits64_Fok (tabD_nil _)
noncomputable def math_Signbit_T (v162 : Nat) : Tree (Bool) :=
  (.grd (!isNan .f64 v162) <|
  .leaf (decide (IntKind.i64.wrap (((v162 : Nat) : Int)) < (0 : Int))))

noncomputable def math_Signbit_g (v162 : Nat) : Option (Bool) := (math_Signbit_T v162).run
def math_Signbit_enc (v162 : Nat) (y : Bool) : Rs := (.bool y, [])
theorem math_Signbit_den (v162 : Nat) : (den TT (tabD math_Signbit_tab) (tabM math_Signbit_tab) (math_Signbit_LO v162) (codeOf Try.f94) ([.flt .f64 v162] ++ List.replicate (Try.f94.ntmps - ([.flt .f64 v162] : List DV).length) .undef) []).bind (retD TT Try.f94.results.toList 0) = (math_Signbit_T v162).bind fun y => .leaf (math_Signbit_enc v162 y) := by kernel_rfl
theorem math_Signbit_fn (v162 : Nat) (F : Fr) (h0 : St F [] F.H0) (hA : DVs.Ok F [] [.flt .f64 v162]) {y : Bool} (hy : math_Signbit_g v162 = some y) : ∃ F' H', Fwd 0 F F' [] (math_Signbit_enc v162 y).2 ∧ FnOk Try.prog 94 (DVs.av F [.flt .f64 v162]) F.H0 ((math_Signbit_enc v162 y).1.av F') H' ∧ St F' (math_Signbit_enc v162 y).2 H' ∧ (math_Signbit_enc v162 y).1.Ok F' (math_Signbit_enc v162 y).2 :=
  fn_fin tok math_Signbit_hO mixed Try.func94 Try.call94 (by kernel_rfl) (LoopsOk_eq (l := []) (by kernel_rfl) trivial) (math_Signbit_den v162) hy h0 hA
noncomputable def math_Signbit_F : DFn := fun args L =>
  match args with
  | [.flt .f64 v162] =>
    .call (math_Signbit_g v162) fun y => .leaf (.bool y, L)
  | _ => .fail
theorem math_Signbit_Fok : COk Try.prog 94 math_Signbit_F true := by
  intro F L H args r L' hs ha hr
  unfold math_Signbit_F at hr
  split at hr
  · rename_i v162
    simp only [Tree.run] at hr
    obtain ⟨y, hy, hr⟩ := Option.bind_eq_some_iff.1 hr
    simp only [Tree.run, Option.some.injEq, Prod.mk.injEq] at hr
    obtain ⟨rfl, rfl⟩ := hr
    exact call_ok0 hs (fun k => (([] : List AV)[k]?).getD .top) [.flt .f64 v162] [.flt .f64 v162] (fun F' h0 hi hρ => ⟨by simp [DVs.av, DV.av, BR.av, hρ], math_Signbit_fn v162 F' (st_nil hi) ⟨trivial, trivial⟩ hy⟩) rfl
  · cases hr
/-! impl.SameNumber -/
noncomputable def impl_SameNumber_LO (v160 : Nat) (v161 : Nat) : LOr := fun id e L =>
  match id with
  | _ => .fail
noncomputable def impl_SameNumber_tab : List (FuncId × DFn × Bool) := [(94, math_Signbit_F, true)]
theorem impl_SameNumber_hO : OrcOk Try.prog (tabD impl_SameNumber_tab) (tabM impl_SameNumber_tab) := tabD_cons math_Signbit_Fok (tabD_nil _)
noncomputable def impl_SameNumber_T (v160 : Nat) (v161 : Nat) : Tree (Bool) :=
  (.br (!feq .f32 v160 v160) (
  (.br (!feq .f32 v160 v160) (
  .leaf (!feq .f32 v161 v161)
  ) (
  .leaf false
  ))
  ) (
  (.br (!feq .f32 v161 v161) (
  (.br (!feq .f32 v160 v160) (
  .leaf (!feq .f32 v161 v161)
  ) (
  .leaf false
  ))
  ) (
  (.br (feq .f32 v160 v161) (
  (.call (math_Signbit_g (wid v160)) fun v163 =>
  (.call (math_Signbit_g (wid v161)) fun v164 =>
  .leaf (v163 == v164)))
  ) (
  .leaf false
  ))
  ))
  ))

noncomputable def impl_SameNumber_g (v160 : Nat) (v161 : Nat) : Option (Bool) := (impl_SameNumber_T v160 v161).run
def impl_SameNumber_enc (v160 : Nat) (v161 : Nat) (y : Bool) : Rs := (.bool y, [])
theorem impl_SameNumber_den (v160 : Nat) (v161 : Nat) : (den TT (tabD impl_SameNumber_tab) (tabM impl_SameNumber_tab) (impl_SameNumber_LO v160 v161) (codeOf Try.f88) ([.flt .f32 v160, .flt .f32 v161] ++ List.replicate (Try.f88.ntmps - ([.flt .f32 v160, .flt .f32 v161] : List DV).length) .undef) []).bind (retD TT Try.f88.results.toList 0) = (impl_SameNumber_T v160 v161).bind fun y => .leaf (impl_SameNumber_enc v160 v161 y) := by kernel_rfl
theorem impl_SameNumber_fn (v160 : Nat) (v161 : Nat) (F : Fr) (h0 : St F [] F.H0) (hA : DVs.Ok F [] [.flt .f32 v160, .flt .f32 v161]) {y : Bool} (hy : impl_SameNumber_g v160 v161 = some y) : ∃ F' H', Fwd 0 F F' [] (impl_SameNumber_enc v160 v161 y).2 ∧ FnOk Try.prog 88 (DVs.av F [.flt .f32 v160, .flt .f32 v161]) F.H0 ((impl_SameNumber_enc v160 v161 y).1.av F') H' ∧ St F' (impl_SameNumber_enc v160 v161 y).2 H' ∧ (impl_SameNumber_enc v160 v161 y).1.Ok F' (impl_SameNumber_enc v160 v161 y).2 :=
  fn_fin tok impl_SameNumber_hO mixed Try.func88 Try.call88 (by kernel_rfl) (LoopsOk_eq (l := []) (by kernel_rfl) trivial) (impl_SameNumber_den v160 v161) hy h0 hA
noncomputable def impl_SameNumber_F : DFn := fun args L =>
  match args with
  | [.flt .f32 v160, .flt .f32 v161] =>
    .call (impl_SameNumber_g v160 v161) fun y => .leaf (.bool y, L)
  | _ => .fail
theorem impl_SameNumber_Fok : COk Try.prog 88 impl_SameNumber_F true := by
  intro F L H args r L' hs ha hr
  unfold impl_SameNumber_F at hr
  split at hr
  · rename_i v160 v161
    simp only [Tree.run] at hr
    obtain ⟨y, hy, hr⟩ := Option.bind_eq_some_iff.1 hr
    simp only [Tree.run, Option.some.injEq, Prod.mk.injEq] at hr
    obtain ⟨rfl, rfl⟩ := hr
    exact call_ok0 hs (fun k => (([] : List AV)[k]?).getD .top) [.flt .f32 v160, .flt .f32 v161] [.flt .f32 v160, .flt .f32 v161] (fun F' h0 hi hρ => ⟨by simp [DVs.av, DV.av, BR.av, hρ], impl_SameNumber_fn v160 v161 F' (st_nil hi) ⟨trivial, trivial, trivial⟩ hy⟩) rfl
  · cases hr
/-! slices.EqualFunc[list of float32,list of float32,float32,float32] -/
noncomputable def slices_EqualFunc_float32_float32_float32_float32_l0_T (v157 : List Nat) (v158 : List Nat) (s : Int) : Tree ((Int) ⊕ ((Unit) ⊕ (Unit))) :=
  (.br (decide (s < ((v157.length : Nat) : Int))) (
  (.grd (inb s v157.length) <|
  (.grd (inb s v158.length) <|
  (.call (impl_SameNumber_g (nth v157 (Int.toNat s)) (nth v158 (Int.toNat s))) fun v169 =>
  (.br (!v169) (
  .leaf (.inr (.inl ()))
  ) (
  .leaf (.inl (IntKind.i64.wrap (s + (1 : Int))))
  )))))
  ) (
  .leaf (.inr (.inr ()))
  ))

noncomputable def slices_EqualFunc_float32_float32_float32_float32_l0_g (v157 : List Nat) (v158 : List Nat) (s0 : Int) : Option ((Unit) ⊕ (Unit)) := whileM (fun s => (slices_EqualFunc_float32_float32_float32_float32_l0_T v157 v158 s).run) s0
def slices_EqualFunc_float32_float32_float32_float32_l0_E (v157 : List Nat) (v158 : List Nat) (s : Int) : Sd := ([tp,.bslc (BR.root 1) (.f32 v158),.fn 88 [],tp,tp,tp,tp,tp,tp,tp,tp,tp,tp,tp,tp,.bslc (BR.root 0) (.f32 v157),.int .i64 ((v157.length : Nat) : Int),.int .i64 s,tp,tp,tp,tp,tp,tp,tp,tp,tp,tp,tp,tp,tp,tp], [])
def slices_EqualFunc_float32_float32_float32_float32_l0_X (v157 : List Nat) (v158 : List Nat) (x : (Unit) ⊕ (Unit)) : Out := (match x with | .inl x => (.ret, [tp,tp,tp,tp,tp,tp,.lit false,tp,tp,tp,tp,tp,tp,tp,tp,tp,tp,tp,tp,tp,tp,tp,tp,tp,tp,tp,tp,tp,tp,tp,tp,tp], []) | .inr x => (.normal, [tp,tp,tp,tp,tp,tp,tp,tp,tp,tp,tp,tp,tp,tp,tp,tp,tp,tp,tp,tp,tp,tp,tp,tp,tp,tp,tp,tp,tp,tp,tp,tp], []))
def slices_EqualFunc_float32_float32_float32_float32_l0_kill : List Nat := KL true [1,2,12,3,14]
def slices_EqualFunc_float32_float32_float32_float32_l0_nx : Exit → List Nat
  | .exit 0 => KL true [32]
  | .ret => KL true [6,1,25]
  | _ => []
noncomputable def slices_EqualFunc_float32_float32_float32_float32_LO (v157 : List Nat) (v158 : List Nat) : LOr := fun id e L =>
  match id with
  | 0 => .need (normA 0 slices_EqualFunc_float32_float32_float32_float32_l0_kill e L = some (slices_EqualFunc_float32_float32_float32_float32_l0_E v157 v158 (gI (vAt e 17)))) (.call (slices_EqualFunc_float32_float32_float32_float32_l0_g v157 v158 (gI (vAt e 17))) fun x => .sum x (fun b0 => .leaf (slices_EqualFunc_float32_float32_float32_float32_l0_X v157 v158 (.inl b0))) (fun c0 => .leaf (slices_EqualFunc_float32_float32_float32_float32_l0_X v157 v158 (.inr c0))))
  | _ => .fail
noncomputable def slices_EqualFunc_float32_float32_float32_float32_tab : List (FuncId × DFn × Bool) := [(88, impl_SameNumber_F, true)]
theorem slices_EqualFunc_float32_float32_float32_float32_hO : OrcOk Try.prog (tabD slices_EqualFunc_float32_float32_float32_float32_tab) (tabM slices_EqualFunc_float32_float32_float32_float32_tab) := tabD_cons impl_SameNumber_Fok (tabD_nil _)
theorem slices_EqualFunc_float32_float32_float32_float32_l0_be (v157 : List Nat) (v158 : List Nat) (s : Int) : bodyT TT (tabD slices_EqualFunc_float32_float32_float32_float32_tab) (tabM slices_EqualFunc_float32_float32_float32_float32_tab) (slices_EqualFunc_float32_float32_float32_float32_LO v157 v158) 0 slices_EqualFunc_float32_float32_float32_float32_l0_kill slices_EqualFunc_float32_float32_float32_float32_l0_nx (bodyOf Try.f87 0) 0 (slices_EqualFunc_float32_float32_float32_float32_l0_E v157 v158 s) = (slices_EqualFunc_float32_float32_float32_float32_l0_T v157 v158 s).bind fun y => .leaf (outS (slices_EqualFunc_float32_float32_float32_float32_l0_E v157 v158) (slices_EqualFunc_float32_float32_float32_float32_l0_X v157 v158) y) := by kernel_rfl
theorem slices_EqualFunc_float32_float32_float32_float32_l0_ok (v157 : List Nat) (v158 : List Nat) : LSound Try.prog 0 (slices_EqualFunc_float32_float32_float32_float32_LO v157 v158) 0 (bodyOf Try.f87 0) := by
  intro e L out h
  exact lo_ok (E := slices_EqualFunc_float32_float32_float32_float32_l0_E v157 v158) (gT := slices_EqualFunc_float32_float32_float32_float32_l0_T v157 v158) (X := slices_EqualFunc_float32_float32_float32_float32_l0_X v157 v158) (s0 := (gI (vAt e 17))) tok slices_EqualFunc_float32_float32_float32_float32_hO mixed (LoopsOk_eq (l := []) (by kernel_rfl) trivial) (slices_EqualFunc_float32_float32_float32_float32_l0_be v157 v158) rfl (by intro x; (cases x with | inl b => rfl | inr x => exact rfl)) h
noncomputable def slices_EqualFunc_float32_float32_float32_float32_T (v157 : List Nat) (v158 : List Nat) : Tree (Bool) :=
  (.br (!decide (((v157.length : Nat) : Int) = ((v158.length : Nat) : Int))) (
  .leaf false
  ) (
  (.need (some (slices_EqualFunc_float32_float32_float32_float32_l0_E v157 v158 (0 : Int)) = some (slices_EqualFunc_float32_float32_float32_float32_l0_E v157 v158 (0 : Int))) <|
  (.call (slices_EqualFunc_float32_float32_float32_float32_l0_g v157 v158 (0 : Int)) fun v170 =>
  (.sum v170 (fun v171 =>
  .leaf false
  ) (fun v172 =>
  .leaf true
  ))))
  ))

noncomputable def slices_EqualFunc_float32_float32_float32_float32_g (v157 : List Nat) (v158 : List Nat) : Option (Bool) := (slices_EqualFunc_float32_float32_float32_float32_T v157 v158).run
def slices_EqualFunc_float32_float32_float32_float32_enc (v157 : List Nat) (v158 : List Nat) (y : Bool) : Rs := (.bool y, [])
theorem slices_EqualFunc_float32_float32_float32_float32_den (v157 : List Nat) (v158 : List Nat) : (den TT (tabD slices_EqualFunc_float32_float32_float32_float32_tab) (tabM slices_EqualFunc_float32_float32_float32_float32_tab) (slices_EqualFunc_float32_float32_float32_float32_LO v157 v158) (codeOf Try.f87) ([.bslc (BR.root 0) (.f32 v157), .bslc (BR.root 1) (.f32 v158), .fn 88 []] ++ List.replicate (Try.f87.ntmps - ([.bslc (BR.root 0) (.f32 v157), .bslc (BR.root 1) (.f32 v158), .fn 88 []] : List DV).length) .undef) []).bind (retD TT Try.f87.results.toList 0) = (slices_EqualFunc_float32_float32_float32_float32_T v157 v158).bind fun y => .leaf (slices_EqualFunc_float32_float32_float32_float32_enc v157 v158 y) := by kernel_rfl
theorem slices_EqualFunc_float32_float32_float32_float32_fn (v157 : List Nat) (v158 : List Nat) (F : Fr) (h0 : St F [] F.H0) (hA : DVs.Ok F [] [.bslc (BR.root 0) (.f32 v157), .bslc (BR.root 1) (.f32 v158), .fn 88 []]) {y : Bool} (hy : slices_EqualFunc_float32_float32_float32_float32_g v157 v158 = some y) : ∃ F' H', Fwd 0 F F' [] (slices_EqualFunc_float32_float32_float32_float32_enc v157 v158 y).2 ∧ FnOk Try.prog 87 (DVs.av F [.bslc (BR.root 0) (.f32 v157), .bslc (BR.root 1) (.f32 v158), .fn 88 []]) F.H0 ((slices_EqualFunc_float32_float32_float32_float32_enc v157 v158 y).1.av F') H' ∧ St F' (slices_EqualFunc_float32_float32_float32_float32_enc v157 v158 y).2 H' ∧ (slices_EqualFunc_float32_float32_float32_float32_enc v157 v158 y).1.Ok F' (slices_EqualFunc_float32_float32_float32_float32_enc v157 v158 y).2 :=
  fn_fin tok slices_EqualFunc_float32_float32_float32_float32_hO mixed Try.func87 Try.call87 (by kernel_rfl) (LoopsOk_eq (l := [(0, bodyOf Try.f87 0)]) (by kernel_rfl) ⟨slices_EqualFunc_float32_float32_float32_float32_l0_ok v157 v158, trivial⟩) (slices_EqualFunc_float32_float32_float32_float32_den v157 v158) hy h0 hA
noncomputable def slices_EqualFunc_float32_float32_float32_float32_F : DFn := fun args L =>
  match args with
  | [a1, a2, .fn 88 []] =>
    optT (rowF32 L a1) fun v157 =>
    optT (rowF32 L a2) fun v158 =>
    .call (slices_EqualFunc_float32_float32_float32_float32_g v157 v158) fun y => .leaf (.bool y, L)
  | _ => .fail
theorem slices_EqualFunc_float32_float32_float32_float32_Fok : COk Try.prog 87 slices_EqualFunc_float32_float32_float32_float32_F true := by
  intro F L H args r L' hs ha hr
  unfold slices_EqualFunc_float32_float32_float32_float32_F at hr
  split at hr
  · rename_i a1 a2
    obtain ⟨v157, hv157, hr⟩ := optT_run hr
    obtain ⟨v158, hv158, hr⟩ := optT_run hr
    simp only [Tree.run] at hr
    obtain ⟨y, hy, hr⟩ := Option.bind_eq_some_iff.1 hr
    simp only [Tree.run, Option.some.injEq, Prod.mk.injEq] at hr
    obtain ⟨rfl, rfl⟩ := hr
    exact call_ok0 hs (fun k => (([a1.av F, a2.av F] : List AV)[k]?).getD .top) [a1, a2, .fn 88 []] [.bslc (BR.root 0) (.f32 v157), .bslc (BR.root 1) (.f32 v158), .fn 88 []] (fun F' h0 hi hρ => ⟨by simp [DVs.av, DV.av, BR.av, hρ], slices_EqualFunc_float32_float32_float32_float32_fn v157 v158 F' (st_nil hi) ⟨bslc_ok hi (by rw [h0, hρ]; exact rowF32_ok hs (DVs.okAt ha 0 rfl) hv157), bslc_ok hi (by rw [h0, hρ]; exact rowF32_ok hs (DVs.okAt ha 1 rfl) hv158), trivial, trivial⟩ hy⟩) rfl
  · cases hr
/-! impl.sameNumbers -/
noncomputable def impl_sameNumbers_LO (v155 : List Nat) (v156 : List Nat) : LOr := fun id e L =>
  match id with
  | _ => .fail
noncomputable def impl_sameNumbers_tab : List (FuncId × DFn × Bool) := [(87, slices_EqualFunc_float32_float32_float32_float32_F, true)]
theorem impl_sameNumbers_hO : OrcOk Try.prog (tabD impl_sameNumbers_tab) (tabM impl_sameNumbers_tab) := tabD_cons slices_EqualFunc_float32_float32_float32_float32_Fok (tabD_nil _)
noncomputable def impl_sameNumbers_T (v155 : List Nat) (v156 : List Nat) : Tree (Bool) :=
  (.call (slices_EqualFunc_float32_float32_float32_float32_g v155 v156) fun v173 =>
  .leaf v173)

noncomputable def impl_sameNumbers_g (v155 : List Nat) (v156 : List Nat) : Option (Bool) := (impl_sameNumbers_T v155 v156).run
def impl_sameNumbers_enc (v155 : List Nat) (v156 : List Nat) (y : Bool) : Rs := (.bool y, [])
theorem impl_sameNumbers_den (v155 : List Nat) (v156 : List Nat) : (den TT (tabD impl_sameNumbers_tab) (tabM impl_sameNumbers_tab) (impl_sameNumbers_LO v155 v156) (codeOf Try.f74) ([.bslc (BR.root 0) (.f32 v155), .bslc (BR.root 1) (.f32 v156)] ++ List.replicate (Try.f74.ntmps - ([.bslc (BR.root 0) (.f32 v155), .bslc (BR.root 1) (.f32 v156)] : List DV).length) .undef) []).bind (retD TT Try.f74.results.toList 0) = (impl_sameNumbers_T v155 v156).bind fun y => .leaf (impl_sameNumbers_enc v155 v156 y) := by kernel_rfl
theorem impl_sameNumbers_fn (v155 : List Nat) (v156 : List Nat) (F : Fr) (h0 : St F [] F.H0) (hA : DVs.Ok F [] [.bslc (BR.root 0) (.f32 v155), .bslc (BR.root 1) (.f32 v156)]) {y : Bool} (hy : impl_sameNumbers_g v155 v156 = some y) : ∃ F' H', Fwd 0 F F' [] (impl_sameNumbers_enc v155 v156 y).2 ∧ FnOk Try.prog 74 (DVs.av F [.bslc (BR.root 0) (.f32 v155), .bslc (BR.root 1) (.f32 v156)]) F.H0 ((impl_sameNumbers_enc v155 v156 y).1.av F') H' ∧ St F' (impl_sameNumbers_enc v155 v156 y).2 H' ∧ (impl_sameNumbers_enc v155 v156 y).1.Ok F' (impl_sameNumbers_enc v155 v156 y).2 :=
  fn_fin tok impl_sameNumbers_hO mixed Try.func74 Try.call74 (by kernel_rfl) (LoopsOk_eq (l := []) (by kernel_rfl) trivial) (impl_sameNumbers_den v155 v156) hy h0 hA
noncomputable def impl_sameNumbers_F : DFn := fun args L =>
  match args with
  | [a1, a2] =>
    optT (rowF32 L a1) fun v155 =>
    optT (rowF32 L a2) fun v156 =>
    .call (impl_sameNumbers_g v155 v156) fun y => .leaf (.bool y, L)
  | _ => .fail
theorem impl_sameNumbers_Fok : COk Try.prog 74 impl_sameNumbers_F true := by
  intro F L H args r L' hs ha hr
  unfold impl_sameNumbers_F at hr
  split at hr
  · rename_i a1 a2
    obtain ⟨v155, hv155, hr⟩ := optT_run hr
    obtain ⟨v156, hv156, hr⟩ := optT_run hr
    simp only [Tree.run] at hr
    obtain ⟨y, hy, hr⟩ := Option.bind_eq_some_iff.1 hr
    simp only [Tree.run, Option.some.injEq, Prod.mk.injEq] at hr
    obtain ⟨rfl, rfl⟩ := hr
    exact call_ok0 hs (fun k => (([a1.av F, a2.av F] : List AV)[k]?).getD .top) [a1, a2] [.bslc (BR.root 0) (.f32 v155), .bslc (BR.root 1) (.f32 v156)] (fun F' h0 hi hρ => ⟨by simp [DVs.av, DV.av, BR.av, hρ], impl_sameNumbers_fn v155 v156 F' (st_nil hi) ⟨bslc_ok hi (by rw [h0, hρ]; exact rowF32_ok hs (DVs.okAt ha 0 rfl) hv155), bslc_ok hi (by rw [h0, hρ]; exact rowF32_ok hs (DVs.okAt ha 1 rfl) hv156), trivial⟩ hy⟩) rfl
  · cases hr
/-! impl.SameMatrix -/
noncomputable def impl_SameMatrix_LO (v149 : Int) (v150 : Int) (v151 : List Nat) (v152 : Int) (v153 : Int) (v154 : List Nat) : LOr := fun id e L =>
  match id with
  | _ => .fail
noncomputable def impl_SameMatrix_tab : List (FuncId × DFn × Bool) := [(74, impl_sameNumbers_F, true)]
theorem impl_SameMatrix_hO : OrcOk Try.prog (tabD impl_SameMatrix_tab) (tabM impl_SameMatrix_tab) := tabD_cons impl_sameNumbers_Fok (tabD_nil _)
noncomputable def impl_SameMatrix_T (v149 : Int) (v150 : Int) (v151 : List Nat) (v152 : Int) (v153 : Int) (v154 : List Nat) : Tree (Bool) :=
  (.br (decide (v149 = v152)) (
  (.br (decide (v150 = v153)) (
  (.call (impl_sameNumbers_g v151 v154) fun v174 =>
  .leaf v174)
  ) (
  .leaf false
  ))
  ) (
  .leaf false
  ))

noncomputable def impl_SameMatrix_g (v149 : Int) (v150 : Int) (v151 : List Nat) (v152 : Int) (v153 : Int) (v154 : List Nat) : Option (Bool) := (impl_SameMatrix_T v149 v150 v151 v152 v153 v154).run
def impl_SameMatrix_enc (v149 : Int) (v150 : Int) (v151 : List Nat) (v152 : Int) (v153 : Int) (v154 : List Nat) (y : Bool) : Rs := (.bool y, [])
theorem impl_SameMatrix_den (v149 : Int) (v150 : Int) (v151 : List Nat) (v152 : Int) (v153 : Int) (v154 : List Nat) : (den TT (tabD impl_SameMatrix_tab) (tabM impl_SameMatrix_tab) (impl_SameMatrix_LO v149 v150 v151 v152 v153 v154) (codeOf Try.f46) ([.agg [.int .i64 v149, .int .i64 v150, .bslc (BR.root 0) (.f32 v151)], .agg [.int .i64 v152, .int .i64 v153, .bslc (BR.root 1) (.f32 v154)]] ++ List.replicate (Try.f46.ntmps - ([.agg [.int .i64 v149, .int .i64 v150, .bslc (BR.root 0) (.f32 v151)], .agg [.int .i64 v152, .int .i64 v153, .bslc (BR.root 1) (.f32 v154)]] : List DV).length) .undef) []).bind (retD TT Try.f46.results.toList 0) = (impl_SameMatrix_T v149 v150 v151 v152 v153 v154).bind fun y => .leaf (impl_SameMatrix_enc v149 v150 v151 v152 v153 v154 y) := by kernel_rfl
theorem impl_SameMatrix_fn (v149 : Int) (v150 : Int) (v151 : List Nat) (v152 : Int) (v153 : Int) (v154 : List Nat) (F : Fr) (h0 : St F [] F.H0) (hA : DVs.Ok F [] [.agg [.int .i64 v149, .int .i64 v150, .bslc (BR.root 0) (.f32 v151)], .agg [.int .i64 v152, .int .i64 v153, .bslc (BR.root 1) (.f32 v154)]]) {y : Bool} (hy : impl_SameMatrix_g v149 v150 v151 v152 v153 v154 = some y) : ∃ F' H', Fwd 0 F F' [] (impl_SameMatrix_enc v149 v150 v151 v152 v153 v154 y).2 ∧ FnOk Try.prog 46 (DVs.av F [.agg [.int .i64 v149, .int .i64 v150, .bslc (BR.root 0) (.f32 v151)], .agg [.int .i64 v152, .int .i64 v153, .bslc (BR.root 1) (.f32 v154)]]) F.H0 ((impl_SameMatrix_enc v149 v150 v151 v152 v153 v154 y).1.av F') H' ∧ St F' (impl_SameMatrix_enc v149 v150 v151 v152 v153 v154 y).2 H' ∧ (impl_SameMatrix_enc v149 v150 v151 v152 v153 v154 y).1.Ok F' (impl_SameMatrix_enc v149 v150 v151 v152 v153 v154 y).2 :=
  fn_fin tok impl_SameMatrix_hO mixed Try.func46 Try.call46 (by kernel_rfl) (LoopsOk_eq (l := []) (by kernel_rfl) trivial) (impl_SameMatrix_den v149 v150 v151 v152 v153 v154) hy h0 hA
noncomputable def impl_SameMatrix_F : DFn := fun args L =>
  match args with
  | [.agg [.int .i64 v149, .int .i64 v150, a1], .agg [.int .i64 v152, .int .i64 v153, a2]] =>
    optT (rowF32 L a1) fun v151 =>
    optT (rowF32 L a2) fun v154 =>
    .call (impl_SameMatrix_g v149 v150 v151 v152 v153 v154) fun y => .leaf (.bool y, L)
  | _ => .fail
theorem impl_SameMatrix_Fok : COk Try.prog 46 impl_SameMatrix_F true := by
  intro F L H args r L' hs ha hr
  unfold impl_SameMatrix_F at hr
  split at hr
  · rename_i v149 v150 a1 v152 v153 a2
    obtain ⟨v151, hv151, hr⟩ := optT_run hr
    obtain ⟨v154, hv154, hr⟩ := optT_run hr
    simp only [Tree.run] at hr
    obtain ⟨y, hy, hr⟩ := Option.bind_eq_some_iff.1 hr
    simp only [Tree.run, Option.some.injEq, Prod.mk.injEq] at hr
    obtain ⟨rfl, rfl⟩ := hr
    exact call_ok0 hs (fun k => (([a1.av F, a2.av F] : List AV)[k]?).getD .top) [.agg [.int .i64 v149, .int .i64 v150, a1], .agg [.int .i64 v152, .int .i64 v153, a2]] [.agg [.int .i64 v149, .int .i64 v150, .bslc (BR.root 0) (.f32 v151)], .agg [.int .i64 v152, .int .i64 v153, .bslc (BR.root 1) (.f32 v154)]] (fun F' h0 hi hρ => ⟨by simp [DVs.av, DV.av, BR.av, hρ], impl_SameMatrix_fn v149 v150 v151 v152 v153 v154 F' (st_nil hi) ⟨⟨trivial, trivial, bslc_ok hi (by rw [h0, hρ]; exact rowF32_ok hs (DVs.okAt (DVs.okAt ha 0 rfl) 2 rfl) hv151), trivial⟩, ⟨trivial, trivial, bslc_ok hi (by rw [h0, hρ]; exact rowF32_ok hs (DVs.okAt (DVs.okAt ha 1 rfl) 2 rfl) hv154), trivial⟩, trivial⟩ hy⟩) rfl
  · cases hr
/-! impl.SameSheets$1 -/
noncomputable def impl_SameSheets_1_LO (v141 : ByteArray) (v142 : Int) (v143 : Int) (v144 : List Nat) (v145 : ByteArray) (v146 : Int) (v147 : Int) (v148 : List Nat) : LOr := fun id e L =>
  match id with
  | _ => .fail
noncomputable def impl_SameSheets_1_tab : List (FuncId × DFn × Bool) := [(46, impl_SameMatrix_F, true)]
theorem impl_SameSheets_1_hO : OrcOk Try.prog (tabD impl_SameSheets_1_tab) (tabM impl_SameSheets_1_tab) := tabD_cons impl_SameMatrix_Fok (tabD_nil _)
noncomputable def impl_SameSheets_1_T (v141 : ByteArray) (v142 : Int) (v143 : Int) (v144 : List Nat) (v145 : ByteArray) (v146 : Int) (v147 : Int) (v148 : List Nat) : Tree (Bool) :=
  (.br (v141.toList == v145.toList) (
  (.call (impl_SameMatrix_g v142 v143 v144 v146 v147 v148) fun v175 =>
  .leaf v175)
  ) (
  .leaf false
  ))

noncomputable def impl_SameSheets_1_g (v141 : ByteArray) (v142 : Int) (v143 : Int) (v144 : List Nat) (v145 : ByteArray) (v146 : Int) (v147 : Int) (v148 : List Nat) : Option (Bool) := (impl_SameSheets_1_T v141 v142 v143 v144 v145 v146 v147 v148).run
def impl_SameSheets_1_enc (v141 : ByteArray) (v142 : Int) (v143 : Int) (v144 : List Nat) (v145 : ByteArray) (v146 : Int) (v147 : Int) (v148 : List Nat) (y : Bool) : Rs := (.bool y, [])
theorem impl_SameSheets_1_den (v141 : ByteArray) (v142 : Int) (v143 : Int) (v144 : List Nat) (v145 : ByteArray) (v146 : Int) (v147 : Int) (v148 : List Nat) : (den TT (tabD impl_SameSheets_1_tab) (tabM impl_SameSheets_1_tab) (impl_SameSheets_1_LO v141 v142 v143 v144 v145 v146 v147 v148) (codeOf Try.f45) ([.agg [.str v141, .int .i64 v142, .int .i64 v143, .bslc (BR.root 0) (.f32 v144)], .agg [.str v145, .int .i64 v146, .int .i64 v147, .bslc (BR.root 1) (.f32 v148)]] ++ List.replicate (Try.f45.ntmps - ([.agg [.str v141, .int .i64 v142, .int .i64 v143, .bslc (BR.root 0) (.f32 v144)], .agg [.str v145, .int .i64 v146, .int .i64 v147, .bslc (BR.root 1) (.f32 v148)]] : List DV).length) .undef) []).bind (retD TT Try.f45.results.toList 0) = (impl_SameSheets_1_T v141 v142 v143 v144 v145 v146 v147 v148).bind fun y => .leaf (impl_SameSheets_1_enc v141 v142 v143 v144 v145 v146 v147 v148 y) := by kernel_rfl
theorem impl_SameSheets_1_fn (v141 : ByteArray) (v142 : Int) (v143 : Int) (v144 : List Nat) (v145 : ByteArray) (v146 : Int) (v147 : Int) (v148 : List Nat) (F : Fr) (h0 : St F [] F.H0) (hA : DVs.Ok F [] [.agg [.str v141, .int .i64 v142, .int .i64 v143, .bslc (BR.root 0) (.f32 v144)], .agg [.str v145, .int .i64 v146, .int .i64 v147, .bslc (BR.root 1) (.f32 v148)]]) {y : Bool} (hy : impl_SameSheets_1_g v141 v142 v143 v144 v145 v146 v147 v148 = some y) : ∃ F' H', Fwd 0 F F' [] (impl_SameSheets_1_enc v141 v142 v143 v144 v145 v146 v147 v148 y).2 ∧ FnOk Try.prog 45 (DVs.av F [.agg [.str v141, .int .i64 v142, .int .i64 v143, .bslc (BR.root 0) (.f32 v144)], .agg [.str v145, .int .i64 v146, .int .i64 v147, .bslc (BR.root 1) (.f32 v148)]]) F.H0 ((impl_SameSheets_1_enc v141 v142 v143 v144 v145 v146 v147 v148 y).1.av F') H' ∧ St F' (impl_SameSheets_1_enc v141 v142 v143 v144 v145 v146 v147 v148 y).2 H' ∧ (impl_SameSheets_1_enc v141 v142 v143 v144 v145 v146 v147 v148 y).1.Ok F' (impl_SameSheets_1_enc v141 v142 v143 v144 v145 v146 v147 v148 y).2 :=
  fn_fin tok impl_SameSheets_1_hO mixed Try.func45 Try.call45 (by kernel_rfl) (LoopsOk_eq (l := []) (by kernel_rfl) trivial) (impl_SameSheets_1_den v141 v142 v143 v144 v145 v146 v147 v148) hy h0 hA
noncomputable def impl_SameSheets_1_F : DFn := fun args L =>
  match args with
  | [.agg [.str v141, .int .i64 v142, .int .i64 v143, a1], .agg [.str v145, .int .i64 v146, .int .i64 v147, a2]] =>
    optT (rowF32 L a1) fun v144 =>
    optT (rowF32 L a2) fun v148 =>
    .call (impl_SameSheets_1_g v141 v142 v143 v144 v145 v146 v147 v148) fun y => .leaf (.bool y, L)
  | _ => .fail
theorem impl_SameSheets_1_Fok : COk Try.prog 45 impl_SameSheets_1_F true := by
  intro F L H args r L' hs ha hr
  unfold impl_SameSheets_1_F at hr
  split at hr
  · rename_i v141 v142 v143 a1 v145 v146 v147 a2
    obtain ⟨v144, hv144, hr⟩ := optT_run hr
    obtain ⟨v148, hv148, hr⟩ := optT_run hr
    simp only [Tree.run] at hr
    obtain ⟨y, hy, hr⟩ := Option.bind_eq_some_iff.1 hr
    simp only [Tree.run, Option.some.injEq, Prod.mk.injEq] at hr
    obtain ⟨rfl, rfl⟩ := hr
    exact call_ok0 hs (fun k => (([a1.av F, a2.av F] : List AV)[k]?).getD .top) [.agg [.str v141, .int .i64 v142, .int .i64 v143, a1], .agg [.str v145, .int .i64 v146, .int .i64 v147, a2]] [.agg [.str v141, .int .i64 v142, .int .i64 v143, .bslc (BR.root 0) (.f32 v144)], .agg [.str v145, .int .i64 v146, .int .i64 v147, .bslc (BR.root 1) (.f32 v148)]] (fun F' h0 hi hρ => ⟨by simp [DVs.av, DV.av, BR.av, hρ], impl_SameSheets_1_fn v141 v142 v143 v144 v145 v146 v147 v148 F' (st_nil hi) ⟨⟨trivial, trivial, trivial, bslc_ok hi (by rw [h0, hρ]; exact rowF32_ok hs (DVs.okAt (DVs.okAt ha 0 rfl) 3 rfl) hv144), trivial⟩, ⟨trivial, trivial, trivial, bslc_ok hi (by rw [h0, hρ]; exact rowF32_ok hs (DVs.okAt (DVs.okAt ha 1 rfl) 3 rfl) hv148), trivial⟩, trivial⟩ hy⟩) rfl
  · cases hr
/-! slices.EqualFunc[list of impl.Sheet,list of impl.Sheet,impl.Sheet,impl.Sheet] -/
noncomputable def slices_EqualFunc_impl_Sheet_impl_Sheet_impl_Sheet_impl_Sheet_nst_l0_T (v130 : List ByteArray) (v131 : List Int) (v132 : List Int) (v133 : List (List Nat)) (v134 : List Nat) (v135 : List ByteArray) (v136 : List Int) (v137 : List Int) (v138 : List (List Nat)) (v139 : List Nat) (s : Int) : Tree ((Int) ⊕ ((Unit) ⊕ (Unit))) :=
  (.br (decide (s < (((v130).length : Nat) : Int))) (
  (.grd (inb s ((v130).length)) <|
  (.grd (inb s ((v135).length)) <|
  (.call (impl_SameSheets_1_g (nth v130 (Int.toNat s)) (nth v131 (Int.toNat s)) (nth v132 (Int.toNat s)) (nget v133 (nth v134 (Int.toNat s))) (nth v135 (Int.toNat s)) (nth v136 (Int.toNat s)) (nth v137 (Int.toNat s)) (nget v138 (nth v139 (Int.toNat s)))) fun v180 =>
  (.br (!v180) (
  .leaf (.inr (.inl ()))
  ) (
  .leaf (.inl (IntKind.i64.wrap (s + (1 : Int))))
  )))))
  ) (
  .leaf (.inr (.inr ()))
  ))

noncomputable def slices_EqualFunc_impl_Sheet_impl_Sheet_impl_Sheet_impl_Sheet_nst_l0_g (v130 : List ByteArray) (v131 : List Int) (v132 : List Int) (v133 : List (List Nat)) (v134 : List Nat) (v135 : List ByteArray) (v136 : List Int) (v137 : List Int) (v138 : List (List Nat)) (v139 : List Nat) (s0 : Int) : Option ((Unit) ⊕ (Unit)) := whileM (fun s => (slices_EqualFunc_impl_Sheet_impl_Sheet_impl_Sheet_impl_Sheet_nst_l0_T v130 v131 v132 v133 v134 v135 v136 v137 v138 v139 s).run) s0
def slices_EqualFunc_impl_Sheet_impl_Sheet_impl_Sheet_impl_Sheet_nst_l0_E (v130 : List ByteArray) (v131 : List Int) (v132 : List Int) (v133 : List (List Nat)) (v134 : List Nat) (v135 : List ByteArray) (v136 : List Int) (v137 : List Int) (v138 : List (List Nat)) (v139 : List Nat) (s : Int) : Sd := ([tp,.nest 1 0 4 ((v135).length),.fn 45 [],tp,tp,tp,tp,tp,tp,tp,tp,tp,tp,tp,tp,.nest 0 0 4 ((v130).length),.int .i64 (((v130).length : Nat) : Int),.int .i64 s,tp,tp,tp,tp,tp,tp,tp,tp,tp,tp,tp,tp,tp,tp], [.nest [.pl (.str v130), .pl (.i64 v131), .pl (.i64 v132), .sl (.f32 v133) v134] false 0, .nest [.pl (.str v135), .pl (.i64 v136), .pl (.i64 v137), .sl (.f32 v138) v139] false 0])
def slices_EqualFunc_impl_Sheet_impl_Sheet_impl_Sheet_impl_Sheet_nst_l0_X (v130 : List ByteArray) (v131 : List Int) (v132 : List Int) (v133 : List (List Nat)) (v134 : List Nat) (v135 : List ByteArray) (v136 : List Int) (v137 : List Int) (v138 : List (List Nat)) (v139 : List Nat) (x : (Unit) ⊕ (Unit)) : Out := (match x with | .inl x => (.ret, [tp,tp,tp,tp,tp,tp,.lit false,tp,tp,tp,tp,tp,tp,tp,tp,tp,tp,tp,tp,tp,tp,tp,tp,tp,tp,tp,tp,tp,tp,tp,tp,tp], [.nest [.pl (.str v130), .pl (.i64 v131), .pl (.i64 v132), .sl (.f32 v133) v134] false 0, .nest [.pl (.str v135), .pl (.i64 v136), .pl (.i64 v137), .sl (.f32 v138) v139] false 0]) | .inr x => (.normal, [tp,tp,tp,tp,tp,tp,tp,tp,tp,tp,tp,tp,tp,tp,tp,tp,tp,tp,tp,tp,tp,tp,tp,tp,tp,tp,tp,tp,tp,tp,tp,tp], [.nest [.pl (.str v130), .pl (.i64 v131), .pl (.i64 v132), .sl (.f32 v133) v134] false 0, .nest [.pl (.str v135), .pl (.i64 v136), .pl (.i64 v137), .sl (.f32 v138) v139] false 0]))
def slices_EqualFunc_impl_Sheet_impl_Sheet_impl_Sheet_impl_Sheet_nst_l0_kill : List Nat := KL true [1,2,12,3,14]
def slices_EqualFunc_impl_Sheet_impl_Sheet_impl_Sheet_impl_Sheet_nst_l0_nx : Exit → List Nat
  | .exit 0 => KL true [32]
  | .ret => KL true [6,1,25]
  | _ => []
noncomputable def slices_EqualFunc_impl_Sheet_impl_Sheet_impl_Sheet_impl_Sheet_nst_LO (v130 : List ByteArray) (v131 : List Int) (v132 : List Int) (v133 : List (List Nat)) (v134 : List Nat) (v135 : List ByteArray) (v136 : List Int) (v137 : List Int) (v138 : List (List Nat)) (v139 : List Nat) : LOr := fun id e L =>
  match id with
  | 0 => .need (normA 2 slices_EqualFunc_impl_Sheet_impl_Sheet_impl_Sheet_impl_Sheet_nst_l0_kill e L = some (slices_EqualFunc_impl_Sheet_impl_Sheet_impl_Sheet_impl_Sheet_nst_l0_E v130 v131 v132 v133 v134 v135 v136 v137 v138 v139 (gI (vAt e 17)))) (.call (slices_EqualFunc_impl_Sheet_impl_Sheet_impl_Sheet_impl_Sheet_nst_l0_g v130 v131 v132 v133 v134 v135 v136 v137 v138 v139 (gI (vAt e 17))) fun x => .sum x (fun b0 => .leaf (slices_EqualFunc_impl_Sheet_impl_Sheet_impl_Sheet_impl_Sheet_nst_l0_X v130 v131 v132 v133 v134 v135 v136 v137 v138 v139 (.inl b0))) (fun c0 => .leaf (slices_EqualFunc_impl_Sheet_impl_Sheet_impl_Sheet_impl_Sheet_nst_l0_X v130 v131 v132 v133 v134 v135 v136 v137 v138 v139 (.inr c0))))
  | _ => .fail
noncomputable def slices_EqualFunc_impl_Sheet_impl_Sheet_impl_Sheet_impl_Sheet_nst_tab : List (FuncId × DFn × Bool) := [(45, impl_SameSheets_1_F, true)]
theorem slices_EqualFunc_impl_Sheet_impl_Sheet_impl_Sheet_impl_Sheet_nst_hO : OrcOk Try.prog (tabD slices_EqualFunc_impl_Sheet_impl_Sheet_impl_Sheet_impl_Sheet_nst_tab) (tabM slices_EqualFunc_impl_Sheet_impl_Sheet_impl_Sheet_impl_Sheet_nst_tab) := tabD_cons impl_SameSheets_1_Fok (tabD_nil _)
theorem slices_EqualFunc_impl_Sheet_impl_Sheet_impl_Sheet_impl_Sheet_nst_l0_be (v130 : List ByteArray) (v131 : List Int) (v132 : List Int) (v133 : List (List Nat)) (v134 : List Nat) (v135 : List ByteArray) (v136 : List Int) (v137 : List Int) (v138 : List (List Nat)) (v139 : List Nat) (s : Int) : bodyT TT (tabD slices_EqualFunc_impl_Sheet_impl_Sheet_impl_Sheet_impl_Sheet_nst_tab) (tabM slices_EqualFunc_impl_Sheet_impl_Sheet_impl_Sheet_impl_Sheet_nst_tab) (slices_EqualFunc_impl_Sheet_impl_Sheet_impl_Sheet_impl_Sheet_nst_LO v130 v131 v132 v133 v134 v135 v136 v137 v138 v139) 2 slices_EqualFunc_impl_Sheet_impl_Sheet_impl_Sheet_impl_Sheet_nst_l0_kill slices_EqualFunc_impl_Sheet_impl_Sheet_impl_Sheet_impl_Sheet_nst_l0_nx (bodyOf Try.f44 0) 0 (slices_EqualFunc_impl_Sheet_impl_Sheet_impl_Sheet_impl_Sheet_nst_l0_E v130 v131 v132 v133 v134 v135 v136 v137 v138 v139 s) = (slices_EqualFunc_impl_Sheet_impl_Sheet_impl_Sheet_impl_Sheet_nst_l0_T v130 v131 v132 v133 v134 v135 v136 v137 v138 v139 s).bind fun y => .leaf (outS (slices_EqualFunc_impl_Sheet_impl_Sheet_impl_Sheet_impl_Sheet_nst_l0_E v130 v131 v132 v133 v134 v135 v136 v137 v138 v139) (slices_EqualFunc_impl_Sheet_impl_Sheet_impl_Sheet_impl_Sheet_nst_l0_X v130 v131 v132 v133 v134 v135 v136 v137 v138 v139) y) := by kernel_rfl
theorem slices_EqualFunc_impl_Sheet_impl_Sheet_impl_Sheet_impl_Sheet_nst_l0_ok (v130 : List ByteArray) (v131 : List Int) (v132 : List Int) (v133 : List (List Nat)) (v134 : List Nat) (v135 : List ByteArray) (v136 : List Int) (v137 : List Int) (v138 : List (List Nat)) (v139 : List Nat) : LSound Try.prog 2 (slices_EqualFunc_impl_Sheet_impl_Sheet_impl_Sheet_impl_Sheet_nst_LO v130 v131 v132 v133 v134 v135 v136 v137 v138 v139) 0 (bodyOf Try.f44 0) := by
  intro e L out h
  exact lo_ok (E := slices_EqualFunc_impl_Sheet_impl_Sheet_impl_Sheet_impl_Sheet_nst_l0_E v130 v131 v132 v133 v134 v135 v136 v137 v138 v139) (gT := slices_EqualFunc_impl_Sheet_impl_Sheet_impl_Sheet_impl_Sheet_nst_l0_T v130 v131 v132 v133 v134 v135 v136 v137 v138 v139) (X := slices_EqualFunc_impl_Sheet_impl_Sheet_impl_Sheet_impl_Sheet_nst_l0_X v130 v131 v132 v133 v134 v135 v136 v137 v138 v139) (s0 := (gI (vAt e 17))) tok slices_EqualFunc_impl_Sheet_impl_Sheet_impl_Sheet_impl_Sheet_nst_hO mixed (LoopsOk_eq (l := []) (by kernel_rfl) trivial) (slices_EqualFunc_impl_Sheet_impl_Sheet_impl_Sheet_impl_Sheet_nst_l0_be v130 v131 v132 v133 v134 v135 v136 v137 v138 v139) rfl (by intro x; (cases x with | inl b => rfl | inr x => exact rfl)) h
noncomputable def slices_EqualFunc_impl_Sheet_impl_Sheet_impl_Sheet_impl_Sheet_nst_T (v130 : List ByteArray) (v131 : List Int) (v132 : List Int) (v133 : List (List Nat)) (v134 : List Nat) (v135 : List ByteArray) (v136 : List Int) (v137 : List Int) (v138 : List (List Nat)) (v139 : List Nat) : Tree (Bool) :=
  (.br (!decide ((((v130).length : Nat) : Int) = (((v135).length : Nat) : Int))) (
  .leaf false
  ) (
  (.need (some (slices_EqualFunc_impl_Sheet_impl_Sheet_impl_Sheet_impl_Sheet_nst_l0_E v130 v131 v132 v133 v134 v135 v136 v137 v138 v139 (0 : Int)) = some (slices_EqualFunc_impl_Sheet_impl_Sheet_impl_Sheet_impl_Sheet_nst_l0_E v130 v131 v132 v133 v134 v135 v136 v137 v138 v139 (0 : Int))) <|
  (.call (slices_EqualFunc_impl_Sheet_impl_Sheet_impl_Sheet_impl_Sheet_nst_l0_g v130 v131 v132 v133 v134 v135 v136 v137 v138 v139 (0 : Int)) fun v181 =>
  (.sum v181 (fun v182 =>
  .leaf false
  ) (fun v183 =>
  .leaf true
  ))))
  ))

noncomputable def slices_EqualFunc_impl_Sheet_impl_Sheet_impl_Sheet_impl_Sheet_nst_g (v130 : List ByteArray) (v131 : List Int) (v132 : List Int) (v133 : List (List Nat)) (v134 : List Nat) (v135 : List ByteArray) (v136 : List Int) (v137 : List Int) (v138 : List (List Nat)) (v139 : List Nat) : Option (Bool) := (slices_EqualFunc_impl_Sheet_impl_Sheet_impl_Sheet_impl_Sheet_nst_T v130 v131 v132 v133 v134 v135 v136 v137 v138 v139).run
def slices_EqualFunc_impl_Sheet_impl_Sheet_impl_Sheet_impl_Sheet_nst_enc (v130 : List ByteArray) (v131 : List Int) (v132 : List Int) (v133 : List (List Nat)) (v134 : List Nat) (v135 : List ByteArray) (v136 : List Int) (v137 : List Int) (v138 : List (List Nat)) (v139 : List Nat) (y : Bool) : Rs := (.bool y, [.nest [.pl (.str v130), .pl (.i64 v131), .pl (.i64 v132), .sl (.f32 v133) v134] false 0, .nest [.pl (.str v135), .pl (.i64 v136), .pl (.i64 v137), .sl (.f32 v138) v139] false 0])
theorem slices_EqualFunc_impl_Sheet_impl_Sheet_impl_Sheet_impl_Sheet_nst_den (v130 : List ByteArray) (v131 : List Int) (v132 : List Int) (v133 : List (List Nat)) (v134 : List Nat) (v135 : List ByteArray) (v136 : List Int) (v137 : List Int) (v138 : List (List Nat)) (v139 : List Nat) : (den TT (tabD slices_EqualFunc_impl_Sheet_impl_Sheet_impl_Sheet_impl_Sheet_nst_tab) (tabM slices_EqualFunc_impl_Sheet_impl_Sheet_impl_Sheet_impl_Sheet_nst_tab) (slices_EqualFunc_impl_Sheet_impl_Sheet_impl_Sheet_impl_Sheet_nst_LO v130 v131 v132 v133 v134 v135 v136 v137 v138 v139) (codeOf Try.f44) ([.nest 0 0 4 ((v130).length), .nest 1 0 4 ((v135).length), .fn 45 []] ++ List.replicate (Try.f44.ntmps - ([.nest 0 0 4 ((v130).length), .nest 1 0 4 ((v135).length), .fn 45 []] : List DV).length) .undef) [.nest [.pl (.str v130), .pl (.i64 v131), .pl (.i64 v132), .sl (.f32 v133) v134] false 0, .nest [.pl (.str v135), .pl (.i64 v136), .pl (.i64 v137), .sl (.f32 v138) v139] false 0]).bind (retD TT Try.f44.results.toList 2) = (slices_EqualFunc_impl_Sheet_impl_Sheet_impl_Sheet_impl_Sheet_nst_T v130 v131 v132 v133 v134 v135 v136 v137 v138 v139).bind fun y => .leaf (slices_EqualFunc_impl_Sheet_impl_Sheet_impl_Sheet_impl_Sheet_nst_enc v130 v131 v132 v133 v134 v135 v136 v137 v138 v139 y) := by kernel_rfl
theorem slices_EqualFunc_impl_Sheet_impl_Sheet_impl_Sheet_impl_Sheet_nst_fn (v130 : List ByteArray) (v131 : List Int) (v132 : List Int) (v133 : List (List Nat)) (v134 : List Nat) (v135 : List ByteArray) (v136 : List Int) (v137 : List Int) (v138 : List (List Nat)) (v139 : List Nat) (F : Fr) (h0 : St F [.nest [.pl (.str v130), .pl (.i64 v131), .pl (.i64 v132), .sl (.f32 v133) v134] false 0, .nest [.pl (.str v135), .pl (.i64 v136), .pl (.i64 v137), .sl (.f32 v138) v139] false 0] F.H0) (hA : DVs.Ok F [.nest [.pl (.str v130), .pl (.i64 v131), .pl (.i64 v132), .sl (.f32 v133) v134] false 0, .nest [.pl (.str v135), .pl (.i64 v136), .pl (.i64 v137), .sl (.f32 v138) v139] false 0] [.nest 0 0 4 ((v130).length), .nest 1 0 4 ((v135).length), .fn 45 []]) {y : Bool} (hy : slices_EqualFunc_impl_Sheet_impl_Sheet_impl_Sheet_impl_Sheet_nst_g v130 v131 v132 v133 v134 v135 v136 v137 v138 v139 = some y) : ∃ F' H', Fwd 2 F F' [.nest [.pl (.str v130), .pl (.i64 v131), .pl (.i64 v132), .sl (.f32 v133) v134] false 0, .nest [.pl (.str v135), .pl (.i64 v136), .pl (.i64 v137), .sl (.f32 v138) v139] false 0] (slices_EqualFunc_impl_Sheet_impl_Sheet_impl_Sheet_impl_Sheet_nst_enc v130 v131 v132 v133 v134 v135 v136 v137 v138 v139 y).2 ∧ FnOk Try.prog 44 (DVs.av F [.nest 0 0 4 ((v130).length), .nest 1 0 4 ((v135).length), .fn 45 []]) F.H0 ((slices_EqualFunc_impl_Sheet_impl_Sheet_impl_Sheet_impl_Sheet_nst_enc v130 v131 v132 v133 v134 v135 v136 v137 v138 v139 y).1.av F') H' ∧ St F' (slices_EqualFunc_impl_Sheet_impl_Sheet_impl_Sheet_impl_Sheet_nst_enc v130 v131 v132 v133 v134 v135 v136 v137 v138 v139 y).2 H' ∧ (slices_EqualFunc_impl_Sheet_impl_Sheet_impl_Sheet_impl_Sheet_nst_enc v130 v131 v132 v133 v134 v135 v136 v137 v138 v139 y).1.Ok F' (slices_EqualFunc_impl_Sheet_impl_Sheet_impl_Sheet_impl_Sheet_nst_enc v130 v131 v132 v133 v134 v135 v136 v137 v138 v139 y).2 :=
  fn_fin tok slices_EqualFunc_impl_Sheet_impl_Sheet_impl_Sheet_impl_Sheet_nst_hO mixed Try.func44 Try.call44 (by kernel_rfl) (LoopsOk_eq (l := [(0, bodyOf Try.f44 0)]) (by kernel_rfl) ⟨slices_EqualFunc_impl_Sheet_impl_Sheet_impl_Sheet_impl_Sheet_nst_l0_ok v130 v131 v132 v133 v134 v135 v136 v137 v138 v139, trivial⟩) (slices_EqualFunc_impl_Sheet_impl_Sheet_impl_Sheet_impl_Sheet_nst_den v130 v131 v132 v133 v134 v135 v136 v137 v138 v139) hy h0 hA
noncomputable def slices_EqualFunc_impl_Sheet_impl_Sheet_impl_Sheet_impl_Sheet_nst_F : DFn := fun args L =>
  match args with
  | [a1, a2, .fn 45 []] =>
    optT (nestN L false 4 a1) fun qn0 =>
    (match qn0.2 with
    | [.pl (.str v130), .pl (.i64 v131), .pl (.i64 v132), .sl (.f32 v133) v134] =>
    optT (nestN L false 4 a2) fun qn1 =>
    (match qn1.2 with
    | [.pl (.str v135), .pl (.i64 v136), .pl (.i64 v137), .sl (.f32 v138) v139] =>
    (match sepB [qn0.1, qn1.1] [] with
    | true =>
    .call (slices_EqualFunc_impl_Sheet_impl_Sheet_impl_Sheet_impl_Sheet_nst_g v130 v131 v132 v133 v134 v135 v136 v137 v138 v139) fun y => .grd (decide ((v130).length = (v130).length)) (.grd (decide ((v135).length = (v135).length)) (.leaf (.bool y, setB L [(qn0.1, .nest [.pl (.str v130), .pl (.i64 v131), .pl (.i64 v132), .sl (.f32 v133) v134] false (verAt L qn0.1)), (qn1.1, .nest [.pl (.str v135), .pl (.i64 v136), .pl (.i64 v137), .sl (.f32 v138) v139] false (verAt L qn1.1))] ++ [])))
    | false => .fail)
    | _ => .fail)
    | _ => .fail)
  | _ => .fail
theorem slices_EqualFunc_impl_Sheet_impl_Sheet_impl_Sheet_impl_Sheet_nst_Fok : COk Try.prog 44 slices_EqualFunc_impl_Sheet_impl_Sheet_impl_Sheet_impl_Sheet_nst_F false := by
  intro F L H args r L' hs ha hr
  unfold slices_EqualFunc_impl_Sheet_impl_Sheet_impl_Sheet_impl_Sheet_nst_F at hr
  split at hr
  · rename_i a1 a2
    obtain ⟨⟨jn0, cn0⟩, hn0, hr⟩ := optT_run hr
    simp only at hr
    split at hr
    · rename_i v130 v131 v132 v133 v134
      obtain ⟨hne0, hnu0, hnl0, hnv0, hnm0, hno0⟩ := nestN_spec hs (DVs.okAt ha 0 rfl) hn0
      obtain ⟨⟨jn1, cn1⟩, hn1, hr⟩ := optT_run hr
      simp only at hr
      split at hr
      · rename_i v135 v136 v137 v138 v139
        obtain ⟨hne1, hnu1, hnl1, hnv1, hnm1, hno1⟩ := nestN_spec hs (DVs.okAt ha 1 rfl) hn1
        split at hr
        · rename_i hsep
          obtain ⟨hnd, hsepv⟩ := sepB_spec hsep
          simp only [Tree.run] at hr
          obtain ⟨y, hy, hr⟩ := Option.bind_eq_some_iff.1 hr
          try simp only [Tree.run] at hr
          obtain ⟨hl0, hr⟩ := ite_run hr
          obtain ⟨hl1, hr⟩ := ite_run hr
          simp only [Option.some.injEq, Prod.mk.injEq] at hr
          obtain ⟨rfl, rfl⟩ := hr
          exact mutG_ok hs [a1, a2] ⟨(DVs.okAt ha 0 rfl), (DVs.okAt ha 1 rfl), trivial⟩ [a1, a2, .fn 45 []] [.nest 0 0 4 ((v130).length), .nest 1 0 4 ((v135).length), .fn 45 []] [jn0, jn1] [verAt L jn0, verAt L jn1] [.nest [.pl (.str v130), .pl (.i64 v131), .pl (.i64 v132), .sl (.f32 v133) v134] false 0, .nest [.pl (.str v135), .pl (.i64 v136), .pl (.i64 v137), .sl (.f32 v138) v139] false 0] [.nest [.pl (.str v130), .pl (.i64 v131), .pl (.i64 v132), .sl (.f32 v133) v134] false 0, .nest [.pl (.str v135), .pl (.i64 v136), .pl (.i64 v137), .sl (.f32 v138) v139] false 0] [.nest [.pl (.str v130), .pl (.i64 v131), .pl (.i64 v132), .sl (.f32 v133) v134] false (verAt L jn0), .nest [.pl (.str v135), .pl (.i64 v136), .pl (.i64 v137), .sl (.f32 v138) v139] false (verAt L jn1)] [] hnd rfl rfl (fun j hj => by
              simp at hj
              rcases hj with rfl | rfl
              · exact ex_nest hne0
              · exact ex_nest hne1) (fun j hj => by
              simp at hj
              rcases hj with rfl | rfl
              · exact reach_refs (by simp [DVs.refs, DV.refs, hnu0])
              · exact reach_refs (by simp [DVs.refs, DV.refs, hnu1])) (fun F' h0 hρ ab hpl hS => by
              have ab0 := ab 0 _ rfl; have ab1 := ab 1 _ rfl;
              have hnx0 : a1.av F = (.nest 0 0 4 ((v130).length) : DV).av F' := nestN_av (hpl 0 _ rfl) hnv0
              have hnx1 : a2.av F = (.nest 1 0 4 ((v135).length) : DV).av F' := nestN_av (hpl 1 _ rfl) hnv1
              refine ⟨fun i j b' h1 h2 => ?_, by simp [DBlk.blk, DVs.av, DV.av, BR.av, hρ, Row.len, hnx0, hnx1, ab0, ab0, ab1, ab1], fun hst => slices_EqualFunc_impl_Sheet_impl_Sheet_impl_Sheet_impl_Sheet_nst_fn v130 v131 v132 v133 v134 v135 v136 v137 v138 v139 F' hst ⟨(nest_ok0 (i := 0) rfl rfl hnm0), (nest_ok0 (i := 1) rfl rfl hnm1), trivial, trivial⟩ hy⟩
              rcases i with _ | _ | i
              · simp at h1 h2; subst h1; subst h2; obtain ⟨ver_, hv_⟩ := hne0; exact ⟨_, hv_, .nest _ _ _ _, nest_blk (hpl 0 _ rfl) _ _ _ _, hno0 _ _⟩
              · simp at h1 h2; subst h1; subst h2; obtain ⟨ver_, hv_⟩ := hne1; exact ⟨_, hv_, .nest _ _ _ _, nest_blk (hpl 1 _ rfl) _ _ _ _, hno1 _ _⟩
              · simp at h1) rfl rfl (fun i j b b' h1 h2 h3 => by
              rcases i with _ | _ | i
              · simp at h1; subst h1; cases h3; exact growN hne0 (by first | exact of_decide_eq_true hl0 | rfl) rfl h2
              · simp at h1; subst h1; cases h3; exact growN hne1 (by first | exact of_decide_eq_true hl1 | rfl) rfl h2
              · simp at h1)
        · cases hr
      · cases hr
    · cases hr
  · cases hr
/-! impl.SameSheets -/
noncomputable def impl_SameSheets_nst_LO (v120 : List ByteArray) (v121 : List Int) (v122 : List Int) (v123 : List (List Nat)) (v124 : List Nat) (v125 : List ByteArray) (v126 : List Int) (v127 : List Int) (v128 : List (List Nat)) (v129 : List Nat) : LOr := fun id e L =>
  match id with
  | _ => .fail
noncomputable def impl_SameSheets_nst_tab : List (FuncId × DFn × Bool) := [(44, slices_EqualFunc_impl_Sheet_impl_Sheet_impl_Sheet_impl_Sheet_nst_F, false)]
theorem impl_SameSheets_nst_hO : OrcOk Try.prog (tabD impl_SameSheets_nst_tab) (tabM impl_SameSheets_nst_tab) := tabD_cons slices_EqualFunc_impl_Sheet_impl_Sheet_impl_Sheet_impl_Sheet_nst_Fok (tabD_nil _)
noncomputable def impl_SameSheets_nst_T (v120 : List ByteArray) (v121 : List Int) (v122 : List Int) (v123 : List (List Nat)) (v124 : List Nat) (v125 : List ByteArray) (v126 : List Int) (v127 : List Int) (v128 : List (List Nat)) (v129 : List Nat) : Tree (Bool) :=
  (.call (slices_EqualFunc_impl_Sheet_impl_Sheet_impl_Sheet_impl_Sheet_nst_g v120 v121 v122 v123 v124 v125 v126 v127 v128 v129) fun v184 =>
  (.grd (decide ((v120).length = (v120).length)) <|
  (.grd (decide ((v125).length = (v125).length)) <|
  .leaf v184)))

noncomputable def impl_SameSheets_nst_g (v120 : List ByteArray) (v121 : List Int) (v122 : List Int) (v123 : List (List Nat)) (v124 : List Nat) (v125 : List ByteArray) (v126 : List Int) (v127 : List Int) (v128 : List (List Nat)) (v129 : List Nat) : Option (Bool) := (impl_SameSheets_nst_T v120 v121 v122 v123 v124 v125 v126 v127 v128 v129).run
def impl_SameSheets_nst_enc (v120 : List ByteArray) (v121 : List Int) (v122 : List Int) (v123 : List (List Nat)) (v124 : List Nat) (v125 : List ByteArray) (v126 : List Int) (v127 : List Int) (v128 : List (List Nat)) (v129 : List Nat) (y : Bool) : Rs := (.bool y, [.nest [.pl (.str v120), .pl (.i64 v121), .pl (.i64 v122), .sl (.f32 v123) v124] false 0, .nest [.pl (.str v125), .pl (.i64 v126), .pl (.i64 v127), .sl (.f32 v128) v129] false 0])
theorem impl_SameSheets_nst_den (v120 : List ByteArray) (v121 : List Int) (v122 : List Int) (v123 : List (List Nat)) (v124 : List Nat) (v125 : List ByteArray) (v126 : List Int) (v127 : List Int) (v128 : List (List Nat)) (v129 : List Nat) : (den TT (tabD impl_SameSheets_nst_tab) (tabM impl_SameSheets_nst_tab) (impl_SameSheets_nst_LO v120 v121 v122 v123 v124 v125 v126 v127 v128 v129) (codeOf Try.f21) ([.nest 0 0 4 ((v120).length), .nest 1 0 4 ((v125).length)] ++ List.replicate (Try.f21.ntmps - ([.nest 0 0 4 ((v120).length), .nest 1 0 4 ((v125).length)] : List DV).length) .undef) [.nest [.pl (.str v120), .pl (.i64 v121), .pl (.i64 v122), .sl (.f32 v123) v124] false 0, .nest [.pl (.str v125), .pl (.i64 v126), .pl (.i64 v127), .sl (.f32 v128) v129] false 0]).bind (retD TT Try.f21.results.toList 2) = (impl_SameSheets_nst_T v120 v121 v122 v123 v124 v125 v126 v127 v128 v129).bind fun y => .leaf (impl_SameSheets_nst_enc v120 v121 v122 v123 v124 v125 v126 v127 v128 v129 y) := by kernel_rfl
theorem impl_SameSheets_nst_fn (v120 : List ByteArray) (v121 : List Int) (v122 : List Int) (v123 : List (List Nat)) (v124 : List Nat) (v125 : List ByteArray) (v126 : List Int) (v127 : List Int) (v128 : List (List Nat)) (v129 : List Nat) (F : Fr) (h0 : St F [.nest [.pl (.str v120), .pl (.i64 v121), .pl (.i64 v122), .sl (.f32 v123) v124] false 0, .nest [.pl (.str v125), .pl (.i64 v126), .pl (.i64 v127), .sl (.f32 v128) v129] false 0] F.H0) (hA : DVs.Ok F [.nest [.pl (.str v120), .pl (.i64 v121), .pl (.i64 v122), .sl (.f32 v123) v124] false 0, .nest [.pl (.str v125), .pl (.i64 v126), .pl (.i64 v127), .sl (.f32 v128) v129] false 0] [.nest 0 0 4 ((v120).length), .nest 1 0 4 ((v125).length)]) {y : Bool} (hy : impl_SameSheets_nst_g v120 v121 v122 v123 v124 v125 v126 v127 v128 v129 = some y) : ∃ F' H', Fwd 2 F F' [.nest [.pl (.str v120), .pl (.i64 v121), .pl (.i64 v122), .sl (.f32 v123) v124] false 0, .nest [.pl (.str v125), .pl (.i64 v126), .pl (.i64 v127), .sl (.f32 v128) v129] false 0] (impl_SameSheets_nst_enc v120 v121 v122 v123 v124 v125 v126 v127 v128 v129 y).2 ∧ FnOk Try.prog 21 (DVs.av F [.nest 0 0 4 ((v120).length), .nest 1 0 4 ((v125).length)]) F.H0 ((impl_SameSheets_nst_enc v120 v121 v122 v123 v124 v125 v126 v127 v128 v129 y).1.av F') H' ∧ St F' (impl_SameSheets_nst_enc v120 v121 v122 v123 v124 v125 v126 v127 v128 v129 y).2 H' ∧ (impl_SameSheets_nst_enc v120 v121 v122 v123 v124 v125 v126 v127 v128 v129 y).1.Ok F' (impl_SameSheets_nst_enc v120 v121 v122 v123 v124 v125 v126 v127 v128 v129 y).2 :=
  fn_fin tok impl_SameSheets_nst_hO mixed Try.func21 Try.call21 (by kernel_rfl) (LoopsOk_eq (l := []) (by kernel_rfl) trivial) (impl_SameSheets_nst_den v120 v121 v122 v123 v124 v125 v126 v127 v128 v129) hy h0 hA
noncomputable def impl_SameSheets_nst_F : DFn := fun args L =>
  match args with
  | [a1, a2] =>
    optT (nestN L false 4 a1) fun qn0 =>
    (match qn0.2 with
    | [.pl (.str v120), .pl (.i64 v121), .pl (.i64 v122), .sl (.f32 v123) v124] =>
    optT (nestN L false 4 a2) fun qn1 =>
    (match qn1.2 with
    | [.pl (.str v125), .pl (.i64 v126), .pl (.i64 v127), .sl (.f32 v128) v129] =>
    (match sepB [qn0.1, qn1.1] [] with
    | true =>
    .call (impl_SameSheets_nst_g v120 v121 v122 v123 v124 v125 v126 v127 v128 v129) fun y => .grd (decide ((v120).length = (v120).length)) (.grd (decide ((v125).length = (v125).length)) (.leaf (.bool y, setB L [(qn0.1, .nest [.pl (.str v120), .pl (.i64 v121), .pl (.i64 v122), .sl (.f32 v123) v124] false (verAt L qn0.1)), (qn1.1, .nest [.pl (.str v125), .pl (.i64 v126), .pl (.i64 v127), .sl (.f32 v128) v129] false (verAt L qn1.1))] ++ [])))
    | false => .fail)
    | _ => .fail)
    | _ => .fail)
  | _ => .fail
theorem impl_SameSheets_nst_Fok : COk Try.prog 21 impl_SameSheets_nst_F false := by
  intro F L H args r L' hs ha hr
  unfold impl_SameSheets_nst_F at hr
  split at hr
  · rename_i a1 a2
    obtain ⟨⟨jn0, cn0⟩, hn0, hr⟩ := optT_run hr
    simp only at hr
    split at hr
    · rename_i v120 v121 v122 v123 v124
      obtain ⟨hne0, hnu0, hnl0, hnv0, hnm0, hno0⟩ := nestN_spec hs (DVs.okAt ha 0 rfl) hn0
      obtain ⟨⟨jn1, cn1⟩, hn1, hr⟩ := optT_run hr
      simp only at hr
      split at hr
      · rename_i v125 v126 v127 v128 v129
        obtain ⟨hne1, hnu1, hnl1, hnv1, hnm1, hno1⟩ := nestN_spec hs (DVs.okAt ha 1 rfl) hn1
        split at hr
        · rename_i hsep
          obtain ⟨hnd, hsepv⟩ := sepB_spec hsep
          simp only [Tree.run] at hr
          obtain ⟨y, hy, hr⟩ := Option.bind_eq_some_iff.1 hr
          try simp only [Tree.run] at hr
          obtain ⟨hl0, hr⟩ := ite_run hr
          obtain ⟨hl1, hr⟩ := ite_run hr
          simp only [Option.some.injEq, Prod.mk.injEq] at hr
          obtain ⟨rfl, rfl⟩ := hr
          exact mutG_ok hs [a1, a2] ⟨(DVs.okAt ha 0 rfl), (DVs.okAt ha 1 rfl), trivial⟩ [a1, a2] [.nest 0 0 4 ((v120).length), .nest 1 0 4 ((v125).length)] [jn0, jn1] [verAt L jn0, verAt L jn1] [.nest [.pl (.str v120), .pl (.i64 v121), .pl (.i64 v122), .sl (.f32 v123) v124] false 0, .nest [.pl (.str v125), .pl (.i64 v126), .pl (.i64 v127), .sl (.f32 v128) v129] false 0] [.nest [.pl (.str v120), .pl (.i64 v121), .pl (.i64 v122), .sl (.f32 v123) v124] false 0, .nest [.pl (.str v125), .pl (.i64 v126), .pl (.i64 v127), .sl (.f32 v128) v129] false 0] [.nest [.pl (.str v120), .pl (.i64 v121), .pl (.i64 v122), .sl (.f32 v123) v124] false (verAt L jn0), .nest [.pl (.str v125), .pl (.i64 v126), .pl (.i64 v127), .sl (.f32 v128) v129] false (verAt L jn1)] [] hnd rfl rfl (fun j hj => by
              simp at hj
              rcases hj with rfl | rfl
              · exact ex_nest hne0
              · exact ex_nest hne1) (fun j hj => by
              simp at hj
              rcases hj with rfl | rfl
              · exact reach_refs (by simp [DVs.refs, DV.refs, hnu0])
              · exact reach_refs (by simp [DVs.refs, DV.refs, hnu1])) (fun F' h0 hρ ab hpl hS => by
              have ab0 := ab 0 _ rfl; have ab1 := ab 1 _ rfl;
              have hnx0 : a1.av F = (.nest 0 0 4 ((v120).length) : DV).av F' := nestN_av (hpl 0 _ rfl) hnv0
              have hnx1 : a2.av F = (.nest 1 0 4 ((v125).length) : DV).av F' := nestN_av (hpl 1 _ rfl) hnv1
              refine ⟨fun i j b' h1 h2 => ?_, by simp [DBlk.blk, DVs.av, DV.av, BR.av, hρ, Row.len, hnx0, hnx1, ab0, ab0, ab1, ab1], fun hst => impl_SameSheets_nst_fn v120 v121 v122 v123 v124 v125 v126 v127 v128 v129 F' hst ⟨(nest_ok0 (i := 0) rfl rfl hnm0), (nest_ok0 (i := 1) rfl rfl hnm1), trivial⟩ hy⟩
              rcases i with _ | _ | i
              · simp at h1 h2; subst h1; subst h2; obtain ⟨ver_, hv_⟩ := hne0; exact ⟨_, hv_, .nest _ _ _ _, nest_blk (hpl 0 _ rfl) _ _ _ _, hno0 _ _⟩
              · simp at h1 h2; subst h1; subst h2; obtain ⟨ver_, hv_⟩ := hne1; exact ⟨_, hv_, .nest _ _ _ _, nest_blk (hpl 1 _ rfl) _ _ _ _, hno1 _ _⟩
              · simp at h1) rfl rfl (fun i j b b' h1 h2 h3 => by
              rcases i with _ | _ | i
              · simp at h1; subst h1; cases h3; exact growN hne0 (by first | exact of_decide_eq_true hl0 | rfl) rfl h2
              · simp at h1; subst h1; cases h3; exact growN hne1 (by first | exact of_decide_eq_true hl1 | rfl) rfl h2
              · simp at h1)
        · cases hr
      · cases hr
    · cases hr
  · cases hr
/-! laws.sameFloat -/
noncomputable def laws_sameFloat_LO (v215 : Nat) (v216 : Nat) : LOr := fun id e L =>
  match id with
  | _ => .fail
noncomputable def laws_sameFloat_tab : List (FuncId × DFn × Bool) := []
theorem laws_sameFloat_hO : OrcOk Try.prog (tabD laws_sameFloat_tab) (tabM laws_sameFloat_tab) := tabD_nil _
noncomputable def laws_sameFloat_T (v215 : Nat) (v216 : Nat) : Tree (Bool) :=
  (.br (!feq .f64 v215 v215) (
  (.br (!feq .f64 v215 v215) (
  .leaf (!feq .f64 v216 v216)
  ) (
  .leaf false
  ))
  ) (
  (.br (!feq .f64 v216 v216) (
  (.br (!feq .f64 v215 v215) (
  .leaf (!feq .f64 v216 v216)
  ) (
  .leaf false
  ))
  ) (
  (.br (feq .f64 v215 (0 : Nat)) (
  (.br (feq .f64 v216 (0 : Nat)) (
  .leaf ((fgrt .f64 (fdiv .f64 (4607182418800017408 : Nat) v215) (0 : Nat)) == (fgrt .f64 (fdiv .f64 (4607182418800017408 : Nat) v216) (0 : Nat)))
  ) (
  .leaf (feq .f64 v215 v216)
  ))
  ) (
  .leaf (feq .f64 v215 v216)
  ))
  ))
  ))

noncomputable def laws_sameFloat_g (v215 : Nat) (v216 : Nat) : Option (Bool) := (laws_sameFloat_T v215 v216).run
def laws_sameFloat_enc (v215 : Nat) (v216 : Nat) (y : Bool) : Rs := (.bool y, [])
theorem laws_sameFloat_den (v215 : Nat) (v216 : Nat) : (den TT (tabD laws_sameFloat_tab) (tabM laws_sameFloat_tab) (laws_sameFloat_LO v215 v216) (codeOf Try.f85) ([.flt .f64 v215, .flt .f64 v216] ++ List.replicate (Try.f85.ntmps - ([.flt .f64 v215, .flt .f64 v216] : List DV).length) .undef) []).bind (retD TT Try.f85.results.toList 0) = (laws_sameFloat_T v215 v216).bind fun y => .leaf (laws_sameFloat_enc v215 v216 y) := by kernel_rfl
theorem laws_sameFloat_fn (v215 : Nat) (v216 : Nat) (F : Fr) (h0 : St F [] F.H0) (hA : DVs.Ok F [] [.flt .f64 v215, .flt .f64 v216]) {y : Bool} (hy : laws_sameFloat_g v215 v216 = some y) : ∃ F' H', Fwd 0 F F' [] (laws_sameFloat_enc v215 v216 y).2 ∧ FnOk Try.prog 85 (DVs.av F [.flt .f64 v215, .flt .f64 v216]) F.H0 ((laws_sameFloat_enc v215 v216 y).1.av F') H' ∧ St F' (laws_sameFloat_enc v215 v216 y).2 H' ∧ (laws_sameFloat_enc v215 v216 y).1.Ok F' (laws_sameFloat_enc v215 v216 y).2 :=
  fn_fin tok laws_sameFloat_hO mixed Try.func85 Try.call85 (by kernel_rfl) (LoopsOk_eq (l := []) (by kernel_rfl) trivial) (laws_sameFloat_den v215 v216) hy h0 hA
def laws_sameFloat_v (v215 : Nat) (v216 : Nat) : Bool :=
  if (!feq .f64 v215 v215) = true then (
  if (!feq .f64 v215 v215) = true then (
  !feq .f64 v216 v216
  ) else (
  false
  )
  ) else (
  if (!feq .f64 v216 v216) = true then (
  if (!feq .f64 v215 v215) = true then (
  !feq .f64 v216 v216
  ) else (
  false
  )
  ) else (
  if (feq .f64 v215 (0 : Nat)) = true then (
  if (feq .f64 v216 (0 : Nat)) = true then (
  (fgrt .f64 (fdiv .f64 (4607182418800017408 : Nat) v215) (0 : Nat)) == (fgrt .f64 (fdiv .f64 (4607182418800017408 : Nat) v216) (0 : Nat))
  ) else (
  feq .f64 v215 v216
  )
  ) else (
  feq .f64 v215 v216
  )
  )
  )
theorem laws_sameFloat_tot (v215 : Nat) (v216 : Nat) : laws_sameFloat_g v215 v216 = some (laws_sameFloat_v v215 v216) := by
  unfold laws_sameFloat_g laws_sameFloat_T laws_sameFloat_v
  simp only [Tree.run]
  repeat' (first | rfl | split)
noncomputable def laws_sameFloat_F : DFn := fun args L =>
  match args with
  | [.flt .f64 v215, .flt .f64 v216] =>
    .leaf (.bool (laws_sameFloat_v v215 v216), L)
  | _ => .fail
theorem laws_sameFloat_Fok : COk Try.prog 85 laws_sameFloat_F true := by
  intro F L H args r L' hs ha hr
  unfold laws_sameFloat_F at hr
  split at hr
  · rename_i v215 v216
    have hy := laws_sameFloat_tot v215 v216
    generalize laws_sameFloat_v v215 v216 = y at hy hr
    simp only [Tree.run, Option.some.injEq, Prod.mk.injEq] at hr
    obtain ⟨rfl, rfl⟩ := hr
    exact call_ok0 hs (fun k => (([] : List AV)[k]?).getD .top) [.flt .f64 v215, .flt .f64 v216] [.flt .f64 v215, .flt .f64 v216] (fun F' h0 hi hρ => ⟨by simp [DVs.av, DV.av, BR.av, hρ], laws_sameFloat_fn v215 v216 F' (st_nil hi) ⟨trivial, trivial, trivial⟩ hy⟩) rfl
  · cases hr
/-! laws.eqFloat32S -/
noncomputable def laws_eqFloat32S_l0_T (v212 : List Nat) (v213 : List Nat) (s : Int) : Tree ((Int) ⊕ ((Unit) ⊕ (Unit))) :=
  (.br (decide (s < ((v212.length : Nat) : Int))) (
  (.grd (inb s v212.length) <|
  (.grd (inb s v213.length) <|
  (.br (!(laws_sameFloat_v (wid (nth v212 (Int.toNat s))) (wid (nth v213 (Int.toNat s))))) (
  .leaf (.inr (.inl ()))
  ) (
  .leaf (.inl (IntKind.i64.wrap (s + (1 : Int))))
  ))))
  ) (
  .leaf (.inr (.inr ()))
  ))

noncomputable def laws_eqFloat32S_l0_g (v212 : List Nat) (v213 : List Nat) (s0 : Int) : Option ((Unit) ⊕ (Unit)) := whileM (fun s => (laws_eqFloat32S_l0_T v212 v213 s).run) s0
def laws_eqFloat32S_l0_E (v212 : List Nat) (v213 : List Nat) (s : Int) : Sd := ([.bslc (BR.root 0) (.f32 v212),.bslc (BR.root 1) (.f32 v213),tp,tp,tp,.int .i64 s,tp,tp,tp,tp,tp,tp,tp,tp,tp,tp,tp,tp,tp,tp,tp,tp,tp,tp,tp,tp,tp,tp,tp], [])
def laws_eqFloat32S_l0_X (v212 : List Nat) (v213 : List Nat) (x : (Unit) ⊕ (Unit)) : Out := (match x with | .inl x => (.ret, [tp,tp,tp,tp,.lit false,tp,tp,tp,tp,tp,tp,tp,tp,tp,tp,tp,tp,tp,tp,tp,tp,tp,tp,tp,tp,tp,tp,tp,tp], []) | .inr x => (.normal, [tp,tp,tp,tp,tp,tp,tp,tp,tp,tp,tp,tp,tp,tp,tp,tp,tp,tp,tp,tp,tp,tp,tp,tp,tp,tp,tp,tp,tp], []))
def laws_eqFloat32S_l0_kill : List Nat := KL true [0,2,3,1,23]
def laws_eqFloat32S_l0_nx : Exit → List Nat
  | .exit 0 => KL true [29]
  | .ret => KL true [4,1,24]
  | _ => []
noncomputable def laws_eqFloat32S_LO (v212 : List Nat) (v213 : List Nat) : LOr := fun id e L =>
  match id with
  | 0 => .need (normA 0 laws_eqFloat32S_l0_kill e L = some (laws_eqFloat32S_l0_E v212 v213 (gI (vAt e 5)))) (.call (laws_eqFloat32S_l0_g v212 v213 (gI (vAt e 5))) fun x => .sum x (fun b0 => .leaf (laws_eqFloat32S_l0_X v212 v213 (.inl b0))) (fun c0 => .leaf (laws_eqFloat32S_l0_X v212 v213 (.inr c0))))
  | _ => .fail
noncomputable def laws_eqFloat32S_tab : List (FuncId × DFn × Bool) := [(85, laws_sameFloat_F, true)]
theorem laws_eqFloat32S_hO : OrcOk Try.prog (tabD laws_eqFloat32S_tab) (tabM laws_eqFloat32S_tab) := tabD_cons laws_sameFloat_Fok (tabD_nil _)
theorem laws_eqFloat32S_l0_be (v212 : List Nat) (v213 : List Nat) (s : Int) : bodyT TT (tabD laws_eqFloat32S_tab) (tabM laws_eqFloat32S_tab) (laws_eqFloat32S_LO v212 v213) 0 laws_eqFloat32S_l0_kill laws_eqFloat32S_l0_nx (bodyOf Try.f68 0) 0 (laws_eqFloat32S_l0_E v212 v213 s) = (laws_eqFloat32S_l0_T v212 v213 s).bind fun y => .leaf (outS (laws_eqFloat32S_l0_E v212 v213) (laws_eqFloat32S_l0_X v212 v213) y) := by kernel_rfl
theorem laws_eqFloat32S_l0_ok (v212 : List Nat) (v213 : List Nat) : LSound Try.prog 0 (laws_eqFloat32S_LO v212 v213) 0 (bodyOf Try.f68 0) := by
  intro e L out h
  exact lo_ok (E := laws_eqFloat32S_l0_E v212 v213) (gT := laws_eqFloat32S_l0_T v212 v213) (X := laws_eqFloat32S_l0_X v212 v213) (s0 := (gI (vAt e 5))) tok laws_eqFloat32S_hO mixed (LoopsOk_eq (l := []) (by kernel_rfl) trivial) (laws_eqFloat32S_l0_be v212 v213) rfl (by intro x; (cases x with | inl b => rfl | inr x => exact rfl)) h
noncomputable def laws_eqFloat32S_T (v212 : List Nat) (v213 : List Nat) : Tree (Bool) :=
  (.br (!decide (((v212.length : Nat) : Int) = ((v213.length : Nat) : Int))) (
  .leaf false
  ) (
  (.need (some (laws_eqFloat32S_l0_E v212 v213 (0 : Int)) = some (laws_eqFloat32S_l0_E v212 v213 (0 : Int))) <|
  (.call (laws_eqFloat32S_l0_g v212 v213 (0 : Int)) fun v219 =>
  (.sum v219 (fun v220 =>
  .leaf false
  ) (fun v221 =>
  .leaf true
  ))))
  ))

noncomputable def laws_eqFloat32S_g (v212 : List Nat) (v213 : List Nat) : Option (Bool) := (laws_eqFloat32S_T v212 v213).run
def laws_eqFloat32S_enc (v212 : List Nat) (v213 : List Nat) (y : Bool) : Rs := (.bool y, [])
theorem laws_eqFloat32S_den (v212 : List Nat) (v213 : List Nat) : (den TT (tabD laws_eqFloat32S_tab) (tabM laws_eqFloat32S_tab) (laws_eqFloat32S_LO v212 v213) (codeOf Try.f68) ([.bslc (BR.root 0) (.f32 v212), .bslc (BR.root 1) (.f32 v213)] ++ List.replicate (Try.f68.ntmps - ([.bslc (BR.root 0) (.f32 v212), .bslc (BR.root 1) (.f32 v213)] : List DV).length) .undef) []).bind (retD TT Try.f68.results.toList 0) = (laws_eqFloat32S_T v212 v213).bind fun y => .leaf (laws_eqFloat32S_enc v212 v213 y) := by kernel_rfl
theorem laws_eqFloat32S_fn (v212 : List Nat) (v213 : List Nat) (F : Fr) (h0 : St F [] F.H0) (hA : DVs.Ok F [] [.bslc (BR.root 0) (.f32 v212), .bslc (BR.root 1) (.f32 v213)]) {y : Bool} (hy : laws_eqFloat32S_g v212 v213 = some y) : ∃ F' H', Fwd 0 F F' [] (laws_eqFloat32S_enc v212 v213 y).2 ∧ FnOk Try.prog 68 (DVs.av F [.bslc (BR.root 0) (.f32 v212), .bslc (BR.root 1) (.f32 v213)]) F.H0 ((laws_eqFloat32S_enc v212 v213 y).1.av F') H' ∧ St F' (laws_eqFloat32S_enc v212 v213 y).2 H' ∧ (laws_eqFloat32S_enc v212 v213 y).1.Ok F' (laws_eqFloat32S_enc v212 v213 y).2 :=
  fn_fin tok laws_eqFloat32S_hO mixed Try.func68 Try.call68 (by kernel_rfl) (LoopsOk_eq (l := [(0, bodyOf Try.f68 0)]) (by kernel_rfl) ⟨laws_eqFloat32S_l0_ok v212 v213, trivial⟩) (laws_eqFloat32S_den v212 v213) hy h0 hA
noncomputable def laws_eqFloat32S_F : DFn := fun args L =>
  match args with
  | [a1, a2] =>
    optT (rowF32 L a1) fun v212 =>
    optT (rowF32 L a2) fun v213 =>
    .call (laws_eqFloat32S_g v212 v213) fun y => .leaf (.bool y, L)
  | _ => .fail
theorem laws_eqFloat32S_Fok : COk Try.prog 68 laws_eqFloat32S_F true := by
  intro F L H args r L' hs ha hr
  unfold laws_eqFloat32S_F at hr
  split at hr
  · rename_i a1 a2
    obtain ⟨v212, hv212, hr⟩ := optT_run hr
    obtain ⟨v213, hv213, hr⟩ := optT_run hr
    simp only [Tree.run] at hr
    obtain ⟨y, hy, hr⟩ := Option.bind_eq_some_iff.1 hr
    simp only [Tree.run, Option.some.injEq, Prod.mk.injEq] at hr
    obtain ⟨rfl, rfl⟩ := hr
    exact call_ok0 hs (fun k => (([a1.av F, a2.av F] : List AV)[k]?).getD .top) [a1, a2] [.bslc (BR.root 0) (.f32 v212), .bslc (BR.root 1) (.f32 v213)] (fun F' h0 hi hρ => ⟨by simp [DVs.av, DV.av, BR.av, hρ], laws_eqFloat32S_fn v212 v213 F' (st_nil hi) ⟨bslc_ok hi (by rw [h0, hρ]; exact rowF32_ok hs (DVs.okAt ha 0 rfl) hv212), bslc_ok hi (by rw [h0, hρ]; exact rowF32_ok hs (DVs.okAt ha 1 rfl) hv213), trivial⟩ hy⟩) rfl
  · cases hr
/-! laws.eqMatrix -/
noncomputable def laws_eqMatrix_LO (v206 : Int) (v207 : Int) (v208 : List Nat) (v209 : Int) (v210 : Int) (v211 : List Nat) : LOr := fun id e L =>
  match id with
  | _ => .fail
noncomputable def laws_eqMatrix_tab : List (FuncId × DFn × Bool) := [(68, laws_eqFloat32S_F, true)]
theorem laws_eqMatrix_hO : OrcOk Try.prog (tabD laws_eqMatrix_tab) (tabM laws_eqMatrix_tab) := tabD_cons laws_eqFloat32S_Fok (tabD_nil _)
noncomputable def laws_eqMatrix_T (v206 : Int) (v207 : Int) (v208 : List Nat) (v209 : Int) (v210 : Int) (v211 : List Nat) : Tree (Bool) :=
  (.br (!decide (v206 = v209)) (
  .leaf false
  ) (
  (.br (!decide (v207 = v210)) (
  .leaf false
  ) (
  (.call (laws_eqFloat32S_g v208 v211) fun v222 =>
  (.br (!v222) (
  .leaf false
  ) (
  .leaf true
  )))
  ))
  ))

noncomputable def laws_eqMatrix_g (v206 : Int) (v207 : Int) (v208 : List Nat) (v209 : Int) (v210 : Int) (v211 : List Nat) : Option (Bool) := (laws_eqMatrix_T v206 v207 v208 v209 v210 v211).run
def laws_eqMatrix_enc (v206 : Int) (v207 : Int) (v208 : List Nat) (v209 : Int) (v210 : Int) (v211 : List Nat) (y : Bool) : Rs := (.bool y, [])
theorem laws_eqMatrix_den (v206 : Int) (v207 : Int) (v208 : List Nat) (v209 : Int) (v210 : Int) (v211 : List Nat) : (den TT (tabD laws_eqMatrix_tab) (tabM laws_eqMatrix_tab) (laws_eqMatrix_LO v206 v207 v208 v209 v210 v211) (codeOf Try.f38) ([.agg [.int .i64 v206, .int .i64 v207, .bslc (BR.root 0) (.f32 v208)], .agg [.int .i64 v209, .int .i64 v210, .bslc (BR.root 1) (.f32 v211)]] ++ List.replicate (Try.f38.ntmps - ([.agg [.int .i64 v206, .int .i64 v207, .bslc (BR.root 0) (.f32 v208)], .agg [.int .i64 v209, .int .i64 v210, .bslc (BR.root 1) (.f32 v211)]] : List DV).length) .undef) []).bind (retD TT Try.f38.results.toList 0) = (laws_eqMatrix_T v206 v207 v208 v209 v210 v211).bind fun y => .leaf (laws_eqMatrix_enc v206 v207 v208 v209 v210 v211 y) := by kernel_rfl
theorem laws_eqMatrix_fn (v206 : Int) (v207 : Int) (v208 : List Nat) (v209 : Int) (v210 : Int) (v211 : List Nat) (F : Fr) (h0 : St F [] F.H0) (hA : DVs.Ok F [] [.agg [.int .i64 v206, .int .i64 v207, .bslc (BR.root 0) (.f32 v208)], .agg [.int .i64 v209, .int .i64 v210, .bslc (BR.root 1) (.f32 v211)]]) {y : Bool} (hy : laws_eqMatrix_g v206 v207 v208 v209 v210 v211 = some y) : ∃ F' H', Fwd 0 F F' [] (laws_eqMatrix_enc v206 v207 v208 v209 v210 v211 y).2 ∧ FnOk Try.prog 38 (DVs.av F [.agg [.int .i64 v206, .int .i64 v207, .bslc (BR.root 0) (.f32 v208)], .agg [.int .i64 v209, .int .i64 v210, .bslc (BR.root 1) (.f32 v211)]]) F.H0 ((laws_eqMatrix_enc v206 v207 v208 v209 v210 v211 y).1.av F') H' ∧ St F' (laws_eqMatrix_enc v206 v207 v208 v209 v210 v211 y).2 H' ∧ (laws_eqMatrix_enc v206 v207 v208 v209 v210 v211 y).1.Ok F' (laws_eqMatrix_enc v206 v207 v208 v209 v210 v211 y).2 :=
  fn_fin tok laws_eqMatrix_hO mixed Try.func38 Try.call38 (by kernel_rfl) (LoopsOk_eq (l := []) (by kernel_rfl) trivial) (laws_eqMatrix_den v206 v207 v208 v209 v210 v211) hy h0 hA
noncomputable def laws_eqMatrix_F : DFn := fun args L =>
  match args with
  | [.agg [.int .i64 v206, .int .i64 v207, a1], .agg [.int .i64 v209, .int .i64 v210, a2]] =>
    optT (rowF32 L a1) fun v208 =>
    optT (rowF32 L a2) fun v211 =>
    .call (laws_eqMatrix_g v206 v207 v208 v209 v210 v211) fun y => .leaf (.bool y, L)
  | _ => .fail
theorem laws_eqMatrix_Fok : COk Try.prog 38 laws_eqMatrix_F true := by
  intro F L H args r L' hs ha hr
  unfold laws_eqMatrix_F at hr
  split at hr
  · rename_i v206 v207 a1 v209 v210 a2
    obtain ⟨v208, hv208, hr⟩ := optT_run hr
    obtain ⟨v211, hv211, hr⟩ := optT_run hr
    simp only [Tree.run] at hr
    obtain ⟨y, hy, hr⟩ := Option.bind_eq_some_iff.1 hr
    simp only [Tree.run, Option.some.injEq, Prod.mk.injEq] at hr
    obtain ⟨rfl, rfl⟩ := hr
    exact call_ok0 hs (fun k => (([a1.av F, a2.av F] : List AV)[k]?).getD .top) [.agg [.int .i64 v206, .int .i64 v207, a1], .agg [.int .i64 v209, .int .i64 v210, a2]] [.agg [.int .i64 v206, .int .i64 v207, .bslc (BR.root 0) (.f32 v208)], .agg [.int .i64 v209, .int .i64 v210, .bslc (BR.root 1) (.f32 v211)]] (fun F' h0 hi hρ => ⟨by simp [DVs.av, DV.av, BR.av, hρ], laws_eqMatrix_fn v206 v207 v208 v209 v210 v211 F' (st_nil hi) ⟨⟨trivial, trivial, bslc_ok hi (by rw [h0, hρ]; exact rowF32_ok hs (DVs.okAt (DVs.okAt ha 0 rfl) 2 rfl) hv208), trivial⟩, ⟨trivial, trivial, bslc_ok hi (by rw [h0, hρ]; exact rowF32_ok hs (DVs.okAt (DVs.okAt ha 1 rfl) 2 rfl) hv211), trivial⟩, trivial⟩ hy⟩) rfl
  · cases hr
/-! laws.eqSheet -/
noncomputable def laws_eqSheet_LO (v198 : ByteArray) (v199 : Int) (v200 : Int) (v201 : List Nat) (v202 : ByteArray) (v203 : Int) (v204 : Int) (v205 : List Nat) : LOr := fun id e L =>
  match id with
  | _ => .fail
noncomputable def laws_eqSheet_tab : List (FuncId × DFn × Bool) := [(38, laws_eqMatrix_F, true)]
theorem laws_eqSheet_hO : OrcOk Try.prog (tabD laws_eqSheet_tab) (tabM laws_eqSheet_tab) := tabD_cons laws_eqMatrix_Fok (tabD_nil _)
noncomputable def laws_eqSheet_T (v198 : ByteArray) (v199 : Int) (v200 : Int) (v201 : List Nat) (v202 : ByteArray) (v203 : Int) (v204 : Int) (v205 : List Nat) : Tree (Bool) :=
  (.br (!(v198.toList == v202.toList)) (
  .leaf false
  ) (
  (.call (laws_eqMatrix_g v199 v200 v201 v203 v204 v205) fun v223 =>
  (.br (!v223) (
  .leaf false
  ) (
  .leaf true
  )))
  ))

noncomputable def laws_eqSheet_g (v198 : ByteArray) (v199 : Int) (v200 : Int) (v201 : List Nat) (v202 : ByteArray) (v203 : Int) (v204 : Int) (v205 : List Nat) : Option (Bool) := (laws_eqSheet_T v198 v199 v200 v201 v202 v203 v204 v205).run
def laws_eqSheet_enc (v198 : ByteArray) (v199 : Int) (v200 : Int) (v201 : List Nat) (v202 : ByteArray) (v203 : Int) (v204 : Int) (v205 : List Nat) (y : Bool) : Rs := (.bool y, [])
theorem laws_eqSheet_den (v198 : ByteArray) (v199 : Int) (v200 : Int) (v201 : List Nat) (v202 : ByteArray) (v203 : Int) (v204 : Int) (v205 : List Nat) : (den TT (tabD laws_eqSheet_tab) (tabM laws_eqSheet_tab) (laws_eqSheet_LO v198 v199 v200 v201 v202 v203 v204 v205) (codeOf Try.f13) ([.agg [.str v198, .int .i64 v199, .int .i64 v200, .bslc (BR.root 0) (.f32 v201)], .agg [.str v202, .int .i64 v203, .int .i64 v204, .bslc (BR.root 1) (.f32 v205)]] ++ List.replicate (Try.f13.ntmps - ([.agg [.str v198, .int .i64 v199, .int .i64 v200, .bslc (BR.root 0) (.f32 v201)], .agg [.str v202, .int .i64 v203, .int .i64 v204, .bslc (BR.root 1) (.f32 v205)]] : List DV).length) .undef) []).bind (retD TT Try.f13.results.toList 0) = (laws_eqSheet_T v198 v199 v200 v201 v202 v203 v204 v205).bind fun y => .leaf (laws_eqSheet_enc v198 v199 v200 v201 v202 v203 v204 v205 y) := by kernel_rfl
theorem laws_eqSheet_fn (v198 : ByteArray) (v199 : Int) (v200 : Int) (v201 : List Nat) (v202 : ByteArray) (v203 : Int) (v204 : Int) (v205 : List Nat) (F : Fr) (h0 : St F [] F.H0) (hA : DVs.Ok F [] [.agg [.str v198, .int .i64 v199, .int .i64 v200, .bslc (BR.root 0) (.f32 v201)], .agg [.str v202, .int .i64 v203, .int .i64 v204, .bslc (BR.root 1) (.f32 v205)]]) {y : Bool} (hy : laws_eqSheet_g v198 v199 v200 v201 v202 v203 v204 v205 = some y) : ∃ F' H', Fwd 0 F F' [] (laws_eqSheet_enc v198 v199 v200 v201 v202 v203 v204 v205 y).2 ∧ FnOk Try.prog 13 (DVs.av F [.agg [.str v198, .int .i64 v199, .int .i64 v200, .bslc (BR.root 0) (.f32 v201)], .agg [.str v202, .int .i64 v203, .int .i64 v204, .bslc (BR.root 1) (.f32 v205)]]) F.H0 ((laws_eqSheet_enc v198 v199 v200 v201 v202 v203 v204 v205 y).1.av F') H' ∧ St F' (laws_eqSheet_enc v198 v199 v200 v201 v202 v203 v204 v205 y).2 H' ∧ (laws_eqSheet_enc v198 v199 v200 v201 v202 v203 v204 v205 y).1.Ok F' (laws_eqSheet_enc v198 v199 v200 v201 v202 v203 v204 v205 y).2 :=
  fn_fin tok laws_eqSheet_hO mixed Try.func13 Try.call13 (by kernel_rfl) (LoopsOk_eq (l := []) (by kernel_rfl) trivial) (laws_eqSheet_den v198 v199 v200 v201 v202 v203 v204 v205) hy h0 hA
noncomputable def laws_eqSheet_F : DFn := fun args L =>
  match args with
  | [.agg [.str v198, .int .i64 v199, .int .i64 v200, a1], .agg [.str v202, .int .i64 v203, .int .i64 v204, a2]] =>
    optT (rowF32 L a1) fun v201 =>
    optT (rowF32 L a2) fun v205 =>
    .call (laws_eqSheet_g v198 v199 v200 v201 v202 v203 v204 v205) fun y => .leaf (.bool y, L)
  | _ => .fail
theorem laws_eqSheet_Fok : COk Try.prog 13 laws_eqSheet_F true := by
  intro F L H args r L' hs ha hr
  unfold laws_eqSheet_F at hr
  split at hr
  · rename_i v198 v199 v200 a1 v202 v203 v204 a2
    obtain ⟨v201, hv201, hr⟩ := optT_run hr
    obtain ⟨v205, hv205, hr⟩ := optT_run hr
    simp only [Tree.run] at hr
    obtain ⟨y, hy, hr⟩ := Option.bind_eq_some_iff.1 hr
    simp only [Tree.run, Option.some.injEq, Prod.mk.injEq] at hr
    obtain ⟨rfl, rfl⟩ := hr
    exact call_ok0 hs (fun k => (([a1.av F, a2.av F] : List AV)[k]?).getD .top) [.agg [.str v198, .int .i64 v199, .int .i64 v200, a1], .agg [.str v202, .int .i64 v203, .int .i64 v204, a2]] [.agg [.str v198, .int .i64 v199, .int .i64 v200, .bslc (BR.root 0) (.f32 v201)], .agg [.str v202, .int .i64 v203, .int .i64 v204, .bslc (BR.root 1) (.f32 v205)]] (fun F' h0 hi hρ => ⟨by simp [DVs.av, DV.av, BR.av, hρ], laws_eqSheet_fn v198 v199 v200 v201 v202 v203 v204 v205 F' (st_nil hi) ⟨⟨trivial, trivial, trivial, bslc_ok hi (by rw [h0, hρ]; exact rowF32_ok hs (DVs.okAt (DVs.okAt ha 0 rfl) 3 rfl) hv201), trivial⟩, ⟨trivial, trivial, trivial, bslc_ok hi (by rw [h0, hρ]; exact rowF32_ok hs (DVs.okAt (DVs.okAt ha 1 rfl) 3 rfl) hv205), trivial⟩, trivial⟩ hy⟩) rfl
  · cases hr
/-! laws.eqSheetS -/
noncomputable def laws_eqSheetS_nst_l0_T (v187 : List ByteArray) (v188 : List Int) (v189 : List Int) (v190 : List (List Nat)) (v191 : List Nat) (v192 : List ByteArray) (v193 : List Int) (v194 : List Int) (v195 : List (List Nat)) (v196 : List Nat) (s : Int) : Tree ((Int) ⊕ ((Unit) ⊕ (Unit))) :=
  (.br (decide (s < (((v187).length : Nat) : Int))) (
  (.grd (inb s ((v187).length)) <|
  (.grd (inb s ((v192).length)) <|
  (.call (laws_eqSheet_g (nth v187 (Int.toNat s)) (nth v188 (Int.toNat s)) (nth v189 (Int.toNat s)) (nget v190 (nth v191 (Int.toNat s))) (nth v192 (Int.toNat s)) (nth v193 (Int.toNat s)) (nth v194 (Int.toNat s)) (nget v195 (nth v196 (Int.toNat s)))) fun v228 =>
  (.br (!v228) (
  .leaf (.inr (.inl ()))
  ) (
  .leaf (.inl (IntKind.i64.wrap (s + (1 : Int))))
  )))))
  ) (
  .leaf (.inr (.inr ()))
  ))

noncomputable def laws_eqSheetS_nst_l0_g (v187 : List ByteArray) (v188 : List Int) (v189 : List Int) (v190 : List (List Nat)) (v191 : List Nat) (v192 : List ByteArray) (v193 : List Int) (v194 : List Int) (v195 : List (List Nat)) (v196 : List Nat) (s0 : Int) : Option ((Unit) ⊕ (Unit)) := whileM (fun s => (laws_eqSheetS_nst_l0_T v187 v188 v189 v190 v191 v192 v193 v194 v195 v196 s).run) s0
def laws_eqSheetS_nst_l0_E (v187 : List ByteArray) (v188 : List Int) (v189 : List Int) (v190 : List (List Nat)) (v191 : List Nat) (v192 : List ByteArray) (v193 : List Int) (v194 : List Int) (v195 : List (List Nat)) (v196 : List Nat) (s : Int) : Sd := ([.nest 0 0 4 ((v187).length),.nest 1 0 4 ((v192).length),tp,tp,tp,.int .i64 s,tp,tp,tp,tp,tp,tp,tp,tp,tp,tp,tp,tp,tp,tp,tp,tp,tp,tp,tp,tp,tp], [.nest [.pl (.str v187), .pl (.i64 v188), .pl (.i64 v189), .sl (.f32 v190) v191] false 0, .nest [.pl (.str v192), .pl (.i64 v193), .pl (.i64 v194), .sl (.f32 v195) v196] false 0])
def laws_eqSheetS_nst_l0_X (v187 : List ByteArray) (v188 : List Int) (v189 : List Int) (v190 : List (List Nat)) (v191 : List Nat) (v192 : List ByteArray) (v193 : List Int) (v194 : List Int) (v195 : List (List Nat)) (v196 : List Nat) (x : (Unit) ⊕ (Unit)) : Out := (match x with | .inl x => (.ret, [tp,tp,tp,tp,.lit false,tp,tp,tp,tp,tp,tp,tp,tp,tp,tp,tp,tp,tp,tp,tp,tp,tp,tp,tp,tp,tp,tp], [.nest [.pl (.str v187), .pl (.i64 v188), .pl (.i64 v189), .sl (.f32 v190) v191] false 0, .nest [.pl (.str v192), .pl (.i64 v193), .pl (.i64 v194), .sl (.f32 v195) v196] false 0]) | .inr x => (.normal, [tp,tp,tp,tp,tp,tp,tp,tp,tp,tp,tp,tp,tp,tp,tp,tp,tp,tp,tp,tp,tp,tp,tp,tp,tp,tp,tp], [.nest [.pl (.str v187), .pl (.i64 v188), .pl (.i64 v189), .sl (.f32 v190) v191] false 0, .nest [.pl (.str v192), .pl (.i64 v193), .pl (.i64 v194), .sl (.f32 v195) v196] false 0]))
def laws_eqSheetS_nst_l0_kill : List Nat := KL true [0,2,3,1,21]
def laws_eqSheetS_nst_l0_nx : Exit → List Nat
  | .exit 0 => KL true [27]
  | .ret => KL true [4,1,22]
  | _ => []
noncomputable def laws_eqSheetS_nst_LO (v187 : List ByteArray) (v188 : List Int) (v189 : List Int) (v190 : List (List Nat)) (v191 : List Nat) (v192 : List ByteArray) (v193 : List Int) (v194 : List Int) (v195 : List (List Nat)) (v196 : List Nat) : LOr := fun id e L =>
  match id with
  | 0 => .need (normA 2 laws_eqSheetS_nst_l0_kill e L = some (laws_eqSheetS_nst_l0_E v187 v188 v189 v190 v191 v192 v193 v194 v195 v196 (gI (vAt e 5)))) (.call (laws_eqSheetS_nst_l0_g v187 v188 v189 v190 v191 v192 v193 v194 v195 v196 (gI (vAt e 5))) fun x => .sum x (fun b0 => .leaf (laws_eqSheetS_nst_l0_X v187 v188 v189 v190 v191 v192 v193 v194 v195 v196 (.inl b0))) (fun c0 => .leaf (laws_eqSheetS_nst_l0_X v187 v188 v189 v190 v191 v192 v193 v194 v195 v196 (.inr c0))))
  | _ => .fail
noncomputable def laws_eqSheetS_nst_tab : List (FuncId × DFn × Bool) := [(13, laws_eqSheet_F, true)]
theorem laws_eqSheetS_nst_hO : OrcOk Try.prog (tabD laws_eqSheetS_nst_tab) (tabM laws_eqSheetS_nst_tab) := tabD_cons laws_eqSheet_Fok (tabD_nil _)
theorem laws_eqSheetS_nst_l0_be (v187 : List ByteArray) (v188 : List Int) (v189 : List Int) (v190 : List (List Nat)) (v191 : List Nat) (v192 : List ByteArray) (v193 : List Int) (v194 : List Int) (v195 : List (List Nat)) (v196 : List Nat) (s : Int) : bodyT TT (tabD laws_eqSheetS_nst_tab) (tabM laws_eqSheetS_nst_tab) (laws_eqSheetS_nst_LO v187 v188 v189 v190 v191 v192 v193 v194 v195 v196) 2 laws_eqSheetS_nst_l0_kill laws_eqSheetS_nst_l0_nx (bodyOf Try.f22 0) 0 (laws_eqSheetS_nst_l0_E v187 v188 v189 v190 v191 v192 v193 v194 v195 v196 s) = (laws_eqSheetS_nst_l0_T v187 v188 v189 v190 v191 v192 v193 v194 v195 v196 s).bind fun y => .leaf (outS (laws_eqSheetS_nst_l0_E v187 v188 v189 v190 v191 v192 v193 v194 v195 v196) (laws_eqSheetS_nst_l0_X v187 v188 v189 v190 v191 v192 v193 v194 v195 v196) y) := by kernel_rfl
theorem laws_eqSheetS_nst_l0_ok (v187 : List ByteArray) (v188 : List Int) (v189 : List Int) (v190 : List (List Nat)) (v191 : List Nat) (v192 : List ByteArray) (v193 : List Int) (v194 : List Int) (v195 : List (List Nat)) (v196 : List Nat) : LSound Try.prog 2 (laws_eqSheetS_nst_LO v187 v188 v189 v190 v191 v192 v193 v194 v195 v196) 0 (bodyOf Try.f22 0) := by
  intro e L out h
  exact lo_ok (E := laws_eqSheetS_nst_l0_E v187 v188 v189 v190 v191 v192 v193 v194 v195 v196) (gT := laws_eqSheetS_nst_l0_T v187 v188 v189 v190 v191 v192 v193 v194 v195 v196) (X := laws_eqSheetS_nst_l0_X v187 v188 v189 v190 v191 v192 v193 v194 v195 v196) (s0 := (gI (vAt e 5))) tok laws_eqSheetS_nst_hO mixed (LoopsOk_eq (l := []) (by kernel_rfl) trivial) (laws_eqSheetS_nst_l0_be v187 v188 v189 v190 v191 v192 v193 v194 v195 v196) rfl (by intro x; (cases x with | inl b => rfl | inr x => exact rfl)) h
noncomputable def laws_eqSheetS_nst_T (v187 : List ByteArray) (v188 : List Int) (v189 : List Int) (v190 : List (List Nat)) (v191 : List Nat) (v192 : List ByteArray) (v193 : List Int) (v194 : List Int) (v195 : List (List Nat)) (v196 : List Nat) : Tree (Bool) :=
  (.br (!decide ((((v187).length : Nat) : Int) = (((v192).length : Nat) : Int))) (
  .leaf false
  ) (
  (.need (some (laws_eqSheetS_nst_l0_E v187 v188 v189 v190 v191 v192 v193 v194 v195 v196 (0 : Int)) = some (laws_eqSheetS_nst_l0_E v187 v188 v189 v190 v191 v192 v193 v194 v195 v196 (0 : Int))) <|
  (.call (laws_eqSheetS_nst_l0_g v187 v188 v189 v190 v191 v192 v193 v194 v195 v196 (0 : Int)) fun v229 =>
  (.sum v229 (fun v230 =>
  .leaf false
  ) (fun v231 =>
  .leaf true
  ))))
  ))

noncomputable def laws_eqSheetS_nst_g (v187 : List ByteArray) (v188 : List Int) (v189 : List Int) (v190 : List (List Nat)) (v191 : List Nat) (v192 : List ByteArray) (v193 : List Int) (v194 : List Int) (v195 : List (List Nat)) (v196 : List Nat) : Option (Bool) := (laws_eqSheetS_nst_T v187 v188 v189 v190 v191 v192 v193 v194 v195 v196).run
def laws_eqSheetS_nst_enc (v187 : List ByteArray) (v188 : List Int) (v189 : List Int) (v190 : List (List Nat)) (v191 : List Nat) (v192 : List ByteArray) (v193 : List Int) (v194 : List Int) (v195 : List (List Nat)) (v196 : List Nat) (y : Bool) : Rs := (.bool y, [.nest [.pl (.str v187), .pl (.i64 v188), .pl (.i64 v189), .sl (.f32 v190) v191] false 0, .nest [.pl (.str v192), .pl (.i64 v193), .pl (.i64 v194), .sl (.f32 v195) v196] false 0])
theorem laws_eqSheetS_nst_den (v187 : List ByteArray) (v188 : List Int) (v189 : List Int) (v190 : List (List Nat)) (v191 : List Nat) (v192 : List ByteArray) (v193 : List Int) (v194 : List Int) (v195 : List (List Nat)) (v196 : List Nat) : (den TT (tabD laws_eqSheetS_nst_tab) (tabM laws_eqSheetS_nst_tab) (laws_eqSheetS_nst_LO v187 v188 v189 v190 v191 v192 v193 v194 v195 v196) (codeOf Try.f22) ([.nest 0 0 4 ((v187).length), .nest 1 0 4 ((v192).length)] ++ List.replicate (Try.f22.ntmps - ([.nest 0 0 4 ((v187).length), .nest 1 0 4 ((v192).length)] : List DV).length) .undef) [.nest [.pl (.str v187), .pl (.i64 v188), .pl (.i64 v189), .sl (.f32 v190) v191] false 0, .nest [.pl (.str v192), .pl (.i64 v193), .pl (.i64 v194), .sl (.f32 v195) v196] false 0]).bind (retD TT Try.f22.results.toList 2) = (laws_eqSheetS_nst_T v187 v188 v189 v190 v191 v192 v193 v194 v195 v196).bind fun y => .leaf (laws_eqSheetS_nst_enc v187 v188 v189 v190 v191 v192 v193 v194 v195 v196 y) := by kernel_rfl
theorem laws_eqSheetS_nst_fn (v187 : List ByteArray) (v188 : List Int) (v189 : List Int) (v190 : List (List Nat)) (v191 : List Nat) (v192 : List ByteArray) (v193 : List Int) (v194 : List Int) (v195 : List (List Nat)) (v196 : List Nat) (F : Fr) (h0 : St F [.nest [.pl (.str v187), .pl (.i64 v188), .pl (.i64 v189), .sl (.f32 v190) v191] false 0, .nest [.pl (.str v192), .pl (.i64 v193), .pl (.i64 v194), .sl (.f32 v195) v196] false 0] F.H0) (hA : DVs.Ok F [.nest [.pl (.str v187), .pl (.i64 v188), .pl (.i64 v189), .sl (.f32 v190) v191] false 0, .nest [.pl (.str v192), .pl (.i64 v193), .pl (.i64 v194), .sl (.f32 v195) v196] false 0] [.nest 0 0 4 ((v187).length), .nest 1 0 4 ((v192).length)]) {y : Bool} (hy : laws_eqSheetS_nst_g v187 v188 v189 v190 v191 v192 v193 v194 v195 v196 = some y) : ∃ F' H', Fwd 2 F F' [.nest [.pl (.str v187), .pl (.i64 v188), .pl (.i64 v189), .sl (.f32 v190) v191] false 0, .nest [.pl (.str v192), .pl (.i64 v193), .pl (.i64 v194), .sl (.f32 v195) v196] false 0] (laws_eqSheetS_nst_enc v187 v188 v189 v190 v191 v192 v193 v194 v195 v196 y).2 ∧ FnOk Try.prog 22 (DVs.av F [.nest 0 0 4 ((v187).length), .nest 1 0 4 ((v192).length)]) F.H0 ((laws_eqSheetS_nst_enc v187 v188 v189 v190 v191 v192 v193 v194 v195 v196 y).1.av F') H' ∧ St F' (laws_eqSheetS_nst_enc v187 v188 v189 v190 v191 v192 v193 v194 v195 v196 y).2 H' ∧ (laws_eqSheetS_nst_enc v187 v188 v189 v190 v191 v192 v193 v194 v195 v196 y).1.Ok F' (laws_eqSheetS_nst_enc v187 v188 v189 v190 v191 v192 v193 v194 v195 v196 y).2 :=
  fn_fin tok laws_eqSheetS_nst_hO mixed Try.func22 Try.call22 (by kernel_rfl) (LoopsOk_eq (l := [(0, bodyOf Try.f22 0)]) (by kernel_rfl) ⟨laws_eqSheetS_nst_l0_ok v187 v188 v189 v190 v191 v192 v193 v194 v195 v196, trivial⟩) (laws_eqSheetS_nst_den v187 v188 v189 v190 v191 v192 v193 v194 v195 v196) hy h0 hA
noncomputable def laws_eqSheetS_nst_F : DFn := fun args L =>
  match args with
  | [a1, a2] =>
    optT (nestN L false 4 a1) fun qn0 =>
    (match qn0.2 with
    | [.pl (.str v187), .pl (.i64 v188), .pl (.i64 v189), .sl (.f32 v190) v191] =>
    optT (nestN L false 4 a2) fun qn1 =>
    (match qn1.2 with
    | [.pl (.str v192), .pl (.i64 v193), .pl (.i64 v194), .sl (.f32 v195) v196] =>
    (match sepB [qn0.1, qn1.1] [] with
    | true =>
    .call (laws_eqSheetS_nst_g v187 v188 v189 v190 v191 v192 v193 v194 v195 v196) fun y => .grd (decide ((v187).length = (v187).length)) (.grd (decide ((v192).length = (v192).length)) (.leaf (.bool y, setB L [(qn0.1, .nest [.pl (.str v187), .pl (.i64 v188), .pl (.i64 v189), .sl (.f32 v190) v191] false (verAt L qn0.1)), (qn1.1, .nest [.pl (.str v192), .pl (.i64 v193), .pl (.i64 v194), .sl (.f32 v195) v196] false (verAt L qn1.1))] ++ [])))
    | false => .fail)
    | _ => .fail)
    | _ => .fail)
  | _ => .fail
theorem laws_eqSheetS_nst_Fok : COk Try.prog 22 laws_eqSheetS_nst_F false := by
  intro F L H args r L' hs ha hr
  unfold laws_eqSheetS_nst_F at hr
  split at hr
  · rename_i a1 a2
    obtain ⟨⟨jn0, cn0⟩, hn0, hr⟩ := optT_run hr
    simp only at hr
    split at hr
    · rename_i v187 v188 v189 v190 v191
      obtain ⟨hne0, hnu0, hnl0, hnv0, hnm0, hno0⟩ := nestN_spec hs (DVs.okAt ha 0 rfl) hn0
      obtain ⟨⟨jn1, cn1⟩, hn1, hr⟩ := optT_run hr
      simp only at hr
      split at hr
      · rename_i v192 v193 v194 v195 v196
        obtain ⟨hne1, hnu1, hnl1, hnv1, hnm1, hno1⟩ := nestN_spec hs (DVs.okAt ha 1 rfl) hn1
        split at hr
        · rename_i hsep
          obtain ⟨hnd, hsepv⟩ := sepB_spec hsep
          simp only [Tree.run] at hr
          obtain ⟨y, hy, hr⟩ := Option.bind_eq_some_iff.1 hr
          try simp only [Tree.run] at hr
          obtain ⟨hl0, hr⟩ := ite_run hr
          obtain ⟨hl1, hr⟩ := ite_run hr
          simp only [Option.some.injEq, Prod.mk.injEq] at hr
          obtain ⟨rfl, rfl⟩ := hr
          exact mutG_ok hs [a1, a2] ⟨(DVs.okAt ha 0 rfl), (DVs.okAt ha 1 rfl), trivial⟩ [a1, a2] [.nest 0 0 4 ((v187).length), .nest 1 0 4 ((v192).length)] [jn0, jn1] [verAt L jn0, verAt L jn1] [.nest [.pl (.str v187), .pl (.i64 v188), .pl (.i64 v189), .sl (.f32 v190) v191] false 0, .nest [.pl (.str v192), .pl (.i64 v193), .pl (.i64 v194), .sl (.f32 v195) v196] false 0] [.nest [.pl (.str v187), .pl (.i64 v188), .pl (.i64 v189), .sl (.f32 v190) v191] false 0, .nest [.pl (.str v192), .pl (.i64 v193), .pl (.i64 v194), .sl (.f32 v195) v196] false 0] [.nest [.pl (.str v187), .pl (.i64 v188), .pl (.i64 v189), .sl (.f32 v190) v191] false (verAt L jn0), .nest [.pl (.str v192), .pl (.i64 v193), .pl (.i64 v194), .sl (.f32 v195) v196] false (verAt L jn1)] [] hnd rfl rfl (fun j hj => by
              simp at hj
              rcases hj with rfl | rfl
              · exact ex_nest hne0
              · exact ex_nest hne1) (fun j hj => by
              simp at hj
              rcases hj with rfl | rfl
              · exact reach_refs (by simp [DVs.refs, DV.refs, hnu0])
              · exact reach_refs (by simp [DVs.refs, DV.refs, hnu1])) (fun F' h0 hρ ab hpl hS => by
              have ab0 := ab 0 _ rfl; have ab1 := ab 1 _ rfl;
              have hnx0 : a1.av F = (.nest 0 0 4 ((v187).length) : DV).av F' := nestN_av (hpl 0 _ rfl) hnv0
              have hnx1 : a2.av F = (.nest 1 0 4 ((v192).length) : DV).av F' := nestN_av (hpl 1 _ rfl) hnv1
              refine ⟨fun i j b' h1 h2 => ?_, by simp [DBlk.blk, DVs.av, DV.av, BR.av, hρ, Row.len, hnx0, hnx1, ab0, ab0, ab1, ab1], fun hst => laws_eqSheetS_nst_fn v187 v188 v189 v190 v191 v192 v193 v194 v195 v196 F' hst ⟨(nest_ok0 (i := 0) rfl rfl hnm0), (nest_ok0 (i := 1) rfl rfl hnm1), trivial⟩ hy⟩
              rcases i with _ | _ | i
              · simp at h1 h2; subst h1; subst h2; obtain ⟨ver_, hv_⟩ := hne0; exact ⟨_, hv_, .nest _ _ _ _, nest_blk (hpl 0 _ rfl) _ _ _ _, hno0 _ _⟩
              · simp at h1 h2; subst h1; subst h2; obtain ⟨ver_, hv_⟩ := hne1; exact ⟨_, hv_, .nest _ _ _ _, nest_blk (hpl 1 _ rfl) _ _ _ _, hno1 _ _⟩
              · simp at h1) rfl rfl (fun i j b b' h1 h2 h3 => by
              rcases i with _ | _ | i
              · simp at h1; subst h1; cases h3; exact growN hne0 (by first | exact of_decide_eq_true hl0 | rfl) rfl h2
              · simp at h1; subst h1; cases h3; exact growN hne1 (by first | exact of_decide_eq_true hl1 | rfl) rfl h2
              · simp at h1)
        · cases hr
      · cases hr
    · cases hr
  · cases hr
/-! laws.FnExactSameSheets -/
noncomputable def laws_FnExactSameSheets_LO (v1 : List ByteArray) (v2 : List Int) (v3 : List Int) (v4 : List (List Nat)) (v5 : List ByteArray) (v6 : List Int) (v7 : List Int) (v8 : List (List Nat)) : LOr := fun id e L =>
  match id with
  | _ => .fail
noncomputable def laws_FnExactSameSheets_tab : List (FuncId × DFn × Bool) := [(18, laws_szSheetS_F, true), (20, laws_toSheetS_F, true), (19, spec_SameSheets_nst_F, false), (21, impl_SameSheets_nst_F, false), (22, laws_eqSheetS_nst_F, false)]
theorem laws_FnExactSameSheets_hO : OrcOk Try.prog (tabD laws_FnExactSameSheets_tab) (tabM laws_FnExactSameSheets_tab) := tabD_cons laws_szSheetS_Fok (tabD_cons laws_toSheetS_Fok (tabD_cons spec_SameSheets_nst_Fok (tabD_cons impl_SameSheets_nst_Fok (tabD_cons laws_eqSheetS_nst_Fok (tabD_nil _)))))
noncomputable def laws_FnExactSameSheets_T (v1 : List ByteArray) (v2 : List Int) (v3 : List Int) (v4 : List (List Nat)) (v5 : List ByteArray) (v6 : List Int) (v7 : List Int) (v8 : List (List Nat)) : Tree (Bool) :=
  (.call (laws_szSheetS_g v1 v2 v3 v4 (1048576 : Int)) fun v34 =>
  (.br (decide (v34 < (0 : Int))) (
  .leaf true
  ) (
  (.call (laws_szSheetS_g v5 v6 v7 v8 v34) fun v35 =>
  (.br (decide (v35 < (0 : Int))) (
  .leaf true
  ) (
  (.call (laws_toSheetS_g v1 v2 v3 v4) fun v73 =>
  (.call (laws_toSheetS_g v5 v6 v7 v8) fun v74 =>
  (.call (spec_SameSheets_nst_g v73.1 v73.2.1 v73.2.2.1 v73.2.2.2.1 v73.2.2.2.2 v74.1 v74.2.1 v74.2.2.1 v74.2.2.2.1 v74.2.2.2.2) fun v117 =>
  (.grd (decide ((v73.1).length = (v73.1).length)) <|
  (.grd (decide ((v74.1).length = (v74.1).length)) <|
  (.call (laws_toSheetS_g v1 v2 v3 v4) fun v118 =>
  (.call (laws_toSheetS_g v5 v6 v7 v8) fun v119 =>
  (.call (impl_SameSheets_nst_g v118.1 v118.2.1 v118.2.2.1 v118.2.2.2.1 v118.2.2.2.2 v119.1 v119.2.1 v119.2.2.1 v119.2.2.2.1 v119.2.2.2.2) fun v185 =>
  (.grd (decide ((v118.1).length = (v118.1).length)) <|
  (.grd (decide ((v119.1).length = (v119.1).length)) <|
  (.br (!(v185 == v117)) (
  .leaf false
  ) (
  (.call (laws_toSheetS_g v1 v2 v3 v4) fun v186 =>
  (.call (laws_eqSheetS_nst_g v118.1 v118.2.1 v118.2.2.1 v118.2.2.2.1 v118.2.2.2.2 v186.1 v186.2.1 v186.2.2.1 v186.2.2.2.1 v186.2.2.2.2) fun v232 =>
  (.grd (decide ((v118.1).length = (v118.1).length)) <|
  (.grd (decide ((v186.1).length = (v186.1).length)) <|
  (.br (!v232) (
  .leaf false
  ) (
  (.call (laws_toSheetS_g v5 v6 v7 v8) fun v233 =>
  (.call (laws_eqSheetS_nst_g v119.1 v119.2.1 v119.2.2.1 v119.2.2.2.1 v119.2.2.2.2 v233.1 v233.2.1 v233.2.2.1 v233.2.2.2.1 v233.2.2.2.2) fun v234 =>
  (.grd (decide ((v119.1).length = (v119.1).length)) <|
  (.grd (decide ((v233.1).length = (v233.1).length)) <|
  (.br (!v234) (
  .leaf false
  ) (
  .leaf true
  ))))))
  ))))))
  ))))))))))))
  )))
  )))

noncomputable def laws_FnExactSameSheets_g (v1 : List ByteArray) (v2 : List Int) (v3 : List Int) (v4 : List (List Nat)) (v5 : List ByteArray) (v6 : List Int) (v7 : List Int) (v8 : List (List Nat)) : Option (Bool) := (laws_FnExactSameSheets_T v1 v2 v3 v4 v5 v6 v7 v8).run
def laws_FnExactSameSheets_enc (v1 : List ByteArray) (v2 : List Int) (v3 : List Int) (v4 : List (List Nat)) (v5 : List ByteArray) (v6 : List Int) (v7 : List Int) (v8 : List (List Nat)) (y : Bool) : Rs := (.bool y, [])
theorem laws_FnExactSameSheets_den (v1 : List ByteArray) (v2 : List Int) (v3 : List Int) (v4 : List (List Nat)) (v5 : List ByteArray) (v6 : List Int) (v7 : List Int) (v8 : List (List Nat)) : (den TT (tabD laws_FnExactSameSheets_tab) (tabM laws_FnExactSameSheets_tab) (laws_FnExactSameSheets_LO v1 v2 v3 v4 v5 v6 v7 v8) (codeOf Try.f5) ([.rns 0 [.pl (.str v1), .pl (.i64 v2), .pl (.i64 v3), .sl (.f32 v4)], .rns 1 [.pl (.str v5), .pl (.i64 v6), .pl (.i64 v7), .sl (.f32 v8)]] ++ List.replicate (Try.f5.ntmps - ([.rns 0 [.pl (.str v1), .pl (.i64 v2), .pl (.i64 v3), .sl (.f32 v4)], .rns 1 [.pl (.str v5), .pl (.i64 v6), .pl (.i64 v7), .sl (.f32 v8)]] : List DV).length) .undef) []).bind (retD TT Try.f5.results.toList 0) = (laws_FnExactSameSheets_T v1 v2 v3 v4 v5 v6 v7 v8).bind fun y => .leaf (laws_FnExactSameSheets_enc v1 v2 v3 v4 v5 v6 v7 v8 y) := by kernel_rfl
theorem laws_FnExactSameSheets_fn (v1 : List ByteArray) (v2 : List Int) (v3 : List Int) (v4 : List (List Nat)) (v5 : List ByteArray) (v6 : List Int) (v7 : List Int) (v8 : List (List Nat)) (F : Fr) (h0 : St F [] F.H0) (hA : DVs.Ok F [] [.rns 0 [.pl (.str v1), .pl (.i64 v2), .pl (.i64 v3), .sl (.f32 v4)], .rns 1 [.pl (.str v5), .pl (.i64 v6), .pl (.i64 v7), .sl (.f32 v8)]]) {y : Bool} (hy : laws_FnExactSameSheets_g v1 v2 v3 v4 v5 v6 v7 v8 = some y) : ∃ F' H', Fwd 0 F F' [] (laws_FnExactSameSheets_enc v1 v2 v3 v4 v5 v6 v7 v8 y).2 ∧ FnOk Try.prog 5 (DVs.av F [.rns 0 [.pl (.str v1), .pl (.i64 v2), .pl (.i64 v3), .sl (.f32 v4)], .rns 1 [.pl (.str v5), .pl (.i64 v6), .pl (.i64 v7), .sl (.f32 v8)]]) F.H0 ((laws_FnExactSameSheets_enc v1 v2 v3 v4 v5 v6 v7 v8 y).1.av F') H' ∧ St F' (laws_FnExactSameSheets_enc v1 v2 v3 v4 v5 v6 v7 v8 y).2 H' ∧ (laws_FnExactSameSheets_enc v1 v2 v3 v4 v5 v6 v7 v8 y).1.Ok F' (laws_FnExactSameSheets_enc v1 v2 v3 v4 v5 v6 v7 v8 y).2 :=
  fn_fin tok laws_FnExactSameSheets_hO mixed Try.func5 Try.call5 (by kernel_rfl) (LoopsOk_eq (l := []) (by kernel_rfl) trivial) (laws_FnExactSameSheets_den v1 v2 v3 v4 v5 v6 v7 v8) hy h0 hA
/-! laws.szFloat32S -/
noncomputable def laws_szFloat32S_len_LO (v259 : Nat) (v260 : Int) : LOr := fun id e L =>
  match id with
  | _ => .fail
noncomputable def laws_szFloat32S_len_tab : List (FuncId × DFn × Bool) := []
theorem laws_szFloat32S_len_hO : OrcOk Try.prog (tabD laws_szFloat32S_len_tab) (tabM laws_szFloat32S_len_tab) := tabD_nil _
noncomputable def laws_szFloat32S_len_T (v259 : Nat) (v260 : Int) : Tree (Int) :=
  (.br (decide (IntKind.i64.wrap (v260 - ((v259 : Nat) : Int)) < (0 : Int))) (
  .leaf (-1 : Int)
  ) (
  .leaf (IntKind.i64.wrap (v260 - ((v259 : Nat) : Int)))
  ))

noncomputable def laws_szFloat32S_len_g (v259 : Nat) (v260 : Int) : Option (Int) := (laws_szFloat32S_len_T v259 v260).run
def laws_szFloat32S_len_enc (v259 : Nat) (v260 : Int) (y : Int) : Rs := (.int .i64 y, [])
theorem laws_szFloat32S_len_den (v259 : Nat) (v260 : Int) : (den TT (tabD laws_szFloat32S_len_tab) (tabM laws_szFloat32S_len_tab) (laws_szFloat32S_len_LO v259 v260) (codeOf Try.f59) ([.hslc (BR.root 0) v259, .int .i64 v260] ++ List.replicate (Try.f59.ntmps - ([.hslc (BR.root 0) v259, .int .i64 v260] : List DV).length) .undef) []).bind (retD TT Try.f59.results.toList 0) = (laws_szFloat32S_len_T v259 v260).bind fun y => .leaf (laws_szFloat32S_len_enc v259 v260 y) := by kernel_rfl
theorem laws_szFloat32S_len_fn (v259 : Nat) (v260 : Int) (F : Fr) (h0 : St F [] F.H0) (hA : DVs.Ok F [] [.hslc (BR.root 0) v259, .int .i64 v260]) {y : Int} (hy : laws_szFloat32S_len_g v259 v260 = some y) : ∃ F' H', Fwd 0 F F' [] (laws_szFloat32S_len_enc v259 v260 y).2 ∧ FnOk Try.prog 59 (DVs.av F [.hslc (BR.root 0) v259, .int .i64 v260]) F.H0 ((laws_szFloat32S_len_enc v259 v260 y).1.av F') H' ∧ St F' (laws_szFloat32S_len_enc v259 v260 y).2 H' ∧ (laws_szFloat32S_len_enc v259 v260 y).1.Ok F' (laws_szFloat32S_len_enc v259 v260 y).2 :=
  fn_fin tok laws_szFloat32S_len_hO mixed Try.func59 Try.call59 (by kernel_rfl) (LoopsOk_eq (l := []) (by kernel_rfl) trivial) (laws_szFloat32S_len_den v259 v260) hy h0 hA
def laws_szFloat32S_len_v (v259 : Nat) (v260 : Int) : Int :=
  if (decide (IntKind.i64.wrap (v260 - ((v259 : Nat) : Int)) < (0 : Int))) = true then (
  (-1 : Int)
  ) else (
  IntKind.i64.wrap (v260 - ((v259 : Nat) : Int))
  )
theorem laws_szFloat32S_len_tot (v259 : Nat) (v260 : Int) : laws_szFloat32S_len_g v259 v260 = some (laws_szFloat32S_len_v v259 v260) := by
  unfold laws_szFloat32S_len_g laws_szFloat32S_len_T laws_szFloat32S_len_v
  simp only [Tree.run]
  repeat' (first | rfl | split)
noncomputable def laws_szFloat32S_len_F : DFn := fun args L =>
  match args with
  | [a1, .int .i64 v260] =>
    optT (lenV L a1) fun v259 =>
    .leaf (.int .i64 (laws_szFloat32S_len_v v259 v260), L)
  | _ => .fail
theorem laws_szFloat32S_len_Fok : COk Try.prog 59 laws_szFloat32S_len_F true := by
  intro F L H args r L' hs ha hr
  unfold laws_szFloat32S_len_F at hr
  split at hr
  · rename_i a1 v260
    obtain ⟨v259, hv259, hr⟩ := optT_run hr
    have hy := laws_szFloat32S_len_tot v259 v260
    generalize laws_szFloat32S_len_v v259 v260 = y at hy hr
    simp only [Tree.run, Option.some.injEq, Prod.mk.injEq] at hr
    obtain ⟨rfl, rfl⟩ := hr
    exact call_ok0 hs (fun k => (([a1.av F] : List AV)[k]?).getD .top) [a1, .int .i64 v260] [.hslc (BR.root 0) v259, .int .i64 v260] (fun F' h0 hi hρ => ⟨by simp [DVs.av, DV.av, BR.av, hρ], laws_szFloat32S_len_fn v259 v260 F' (st_nil hi) ⟨hslc_ok hi (by rw [h0, hρ]; exact lenV_ok hs (DVs.okAt ha 0 rfl) hv259), trivial, trivial⟩ hy⟩) rfl
  · cases hr
/-! laws.szMatrix -/
noncomputable def laws_szMatrix_len_LO (v255 : Int) (v256 : Int) (v257 : Nat) (v258 : Int) : LOr := fun id e L =>
  match id with
  | _ => .fail
noncomputable def laws_szMatrix_len_tab : List (FuncId × DFn × Bool) := [(59, laws_szFloat32S_len_F, true)]
theorem laws_szMatrix_len_hO : OrcOk Try.prog (tabD laws_szMatrix_len_tab) (tabM laws_szMatrix_len_tab) := tabD_cons laws_szFloat32S_len_Fok (tabD_nil _)
noncomputable def laws_szMatrix_len_T (v257 : Nat) (v258 : Int) : Tree (Int) :=
  (.br (decide ((laws_szFloat32S_len_v v257 v258) < (0 : Int))) (
  .leaf (-1 : Int)
  ) (
  .leaf (laws_szFloat32S_len_v v257 v258)
  ))

noncomputable def laws_szMatrix_len_g (v257 : Nat) (v258 : Int) : Option (Int) := (laws_szMatrix_len_T v257 v258).run
def laws_szMatrix_len_enc (v255 : Int) (v256 : Int) (v257 : Nat) (v258 : Int) (y : Int) : Rs := (.int .i64 y, [])
theorem laws_szMatrix_len_den (v255 : Int) (v256 : Int) (v257 : Nat) (v258 : Int) : (den TT (tabD laws_szMatrix_len_tab) (tabM laws_szMatrix_len_tab) (laws_szMatrix_len_LO v255 v256 v257 v258) (codeOf Try.f33) ([.agg [.int .i64 v255, .int .i64 v256, .hslc (BR.root 0) v257], .int .i64 v258] ++ List.replicate (Try.f33.ntmps - ([.agg [.int .i64 v255, .int .i64 v256, .hslc (BR.root 0) v257], .int .i64 v258] : List DV).length) .undef) []).bind (retD TT Try.f33.results.toList 0) = (laws_szMatrix_len_T v257 v258).bind fun y => .leaf (laws_szMatrix_len_enc v255 v256 v257 v258 y) := by kernel_rfl
theorem laws_szMatrix_len_fn (v255 : Int) (v256 : Int) (v257 : Nat) (v258 : Int) (F : Fr) (h0 : St F [] F.H0) (hA : DVs.Ok F [] [.agg [.int .i64 v255, .int .i64 v256, .hslc (BR.root 0) v257], .int .i64 v258]) {y : Int} (hy : laws_szMatrix_len_g v257 v258 = some y) : ∃ F' H', Fwd 0 F F' [] (laws_szMatrix_len_enc v255 v256 v257 v258 y).2 ∧ FnOk Try.prog 33 (DVs.av F [.agg [.int .i64 v255, .int .i64 v256, .hslc (BR.root 0) v257], .int .i64 v258]) F.H0 ((laws_szMatrix_len_enc v255 v256 v257 v258 y).1.av F') H' ∧ St F' (laws_szMatrix_len_enc v255 v256 v257 v258 y).2 H' ∧ (laws_szMatrix_len_enc v255 v256 v257 v258 y).1.Ok F' (laws_szMatrix_len_enc v255 v256 v257 v258 y).2 :=
  fn_fin tok laws_szMatrix_len_hO mixed Try.func33 Try.call33 (by kernel_rfl) (LoopsOk_eq (l := []) (by kernel_rfl) trivial) (laws_szMatrix_len_den v255 v256 v257 v258) hy h0 hA
def laws_szMatrix_len_v (v257 : Nat) (v258 : Int) : Int :=
  if (decide ((laws_szFloat32S_len_v v257 v258) < (0 : Int))) = true then (
  (-1 : Int)
  ) else (
  (laws_szFloat32S_len_v v257 v258)
  )
theorem laws_szMatrix_len_tot (v257 : Nat) (v258 : Int) : laws_szMatrix_len_g v257 v258 = some (laws_szMatrix_len_v v257 v258) := by
  unfold laws_szMatrix_len_g laws_szMatrix_len_T laws_szMatrix_len_v
  simp only [Tree.run]
  repeat' (first | rfl | split)
noncomputable def laws_szMatrix_len_F : DFn := fun args L =>
  match args with
  | [.agg [.int .i64 v255, .int .i64 v256, a1], .int .i64 v258] =>
    optT (lenV L a1) fun v257 =>
    .leaf (.int .i64 (laws_szMatrix_len_v v257 v258), L)
  | _ => .fail
theorem laws_szMatrix_len_Fok : COk Try.prog 33 laws_szMatrix_len_F true := by
  intro F L H args r L' hs ha hr
  unfold laws_szMatrix_len_F at hr
  split at hr
  · rename_i v255 v256 a1 v258
    obtain ⟨v257, hv257, hr⟩ := optT_run hr
    have hy := laws_szMatrix_len_tot v257 v258
    generalize laws_szMatrix_len_v v257 v258 = y at hy hr
    simp only [Tree.run, Option.some.injEq, Prod.mk.injEq] at hr
    obtain ⟨rfl, rfl⟩ := hr
    exact call_ok0 hs (fun k => (([a1.av F] : List AV)[k]?).getD .top) [.agg [.int .i64 v255, .int .i64 v256, a1], .int .i64 v258] [.agg [.int .i64 v255, .int .i64 v256, .hslc (BR.root 0) v257], .int .i64 v258] (fun F' h0 hi hρ => ⟨by simp [DVs.av, DV.av, BR.av, hρ], laws_szMatrix_len_fn v255 v256 v257 v258 F' (st_nil hi) ⟨⟨trivial, trivial, hslc_ok hi (by rw [h0, hρ]; exact lenV_ok hs (DVs.okAt (DVs.okAt ha 0 rfl) 2 rfl) hv257), trivial⟩, trivial, trivial⟩ hy⟩) rfl
  · cases hr
/-! laws.szSheet -/
noncomputable def laws_szSheet_len_LO (v250 : ByteArray) (v251 : Int) (v252 : Int) (v253 : Nat) (v254 : Int) : LOr := fun id e L =>
  match id with
  | _ => .fail
noncomputable def laws_szSheet_len_tab : List (FuncId × DFn × Bool) := [(33, laws_szMatrix_len_F, true)]
theorem laws_szSheet_len_hO : OrcOk Try.prog (tabD laws_szSheet_len_tab) (tabM laws_szSheet_len_tab) := tabD_cons laws_szMatrix_len_Fok (tabD_nil _)
noncomputable def laws_szSheet_len_T (v250 : ByteArray) (v253 : Nat) (v254 : Int) : Tree (Int) :=
  (.br (decide (IntKind.i64.wrap (v254 - ((v250.size : Nat) : Int)) < (0 : Int))) (
  .leaf (-1 : Int)
  ) (
  (.br (decide ((laws_szMatrix_len_v v253 (IntKind.i64.wrap (v254 - ((v250.size : Nat) : Int)))) < (0 : Int))) (
  .leaf (-1 : Int)
  ) (
  .leaf (laws_szMatrix_len_v v253 (IntKind.i64.wrap (v254 - ((v250.size : Nat) : Int))))
  ))
  ))

noncomputable def laws_szSheet_len_g (v250 : ByteArray) (v253 : Nat) (v254 : Int) : Option (Int) := (laws_szSheet_len_T v250 v253 v254).run
def laws_szSheet_len_enc (v250 : ByteArray) (v251 : Int) (v252 : Int) (v253 : Nat) (v254 : Int) (y : Int) : Rs := (.int .i64 y, [])
theorem laws_szSheet_len_den (v250 : ByteArray) (v251 : Int) (v252 : Int) (v253 : Nat) (v254 : Int) : (den TT (tabD laws_szSheet_len_tab) (tabM laws_szSheet_len_tab) (laws_szSheet_len_LO v250 v251 v252 v253 v254) (codeOf Try.f9) ([.agg [.str v250, .int .i64 v251, .int .i64 v252, .hslc (BR.root 0) v253], .int .i64 v254] ++ List.replicate (Try.f9.ntmps - ([.agg [.str v250, .int .i64 v251, .int .i64 v252, .hslc (BR.root 0) v253], .int .i64 v254] : List DV).length) .undef) []).bind (retD TT Try.f9.results.toList 0) = (laws_szSheet_len_T v250 v253 v254).bind fun y => .leaf (laws_szSheet_len_enc v250 v251 v252 v253 v254 y) := by kernel_rfl
theorem laws_szSheet_len_fn (v250 : ByteArray) (v251 : Int) (v252 : Int) (v253 : Nat) (v254 : Int) (F : Fr) (h0 : St F [] F.H0) (hA : DVs.Ok F [] [.agg [.str v250, .int .i64 v251, .int .i64 v252, .hslc (BR.root 0) v253], .int .i64 v254]) {y : Int} (hy : laws_szSheet_len_g v250 v253 v254 = some y) : ∃ F' H', Fwd 0 F F' [] (laws_szSheet_len_enc v250 v251 v252 v253 v254 y).2 ∧ FnOk Try.prog 9 (DVs.av F [.agg [.str v250, .int .i64 v251, .int .i64 v252, .hslc (BR.root 0) v253], .int .i64 v254]) F.H0 ((laws_szSheet_len_enc v250 v251 v252 v253 v254 y).1.av F') H' ∧ St F' (laws_szSheet_len_enc v250 v251 v252 v253 v254 y).2 H' ∧ (laws_szSheet_len_enc v250 v251 v252 v253 v254 y).1.Ok F' (laws_szSheet_len_enc v250 v251 v252 v253 v254 y).2 :=
  fn_fin tok laws_szSheet_len_hO mixed Try.func9 Try.call9 (by kernel_rfl) (LoopsOk_eq (l := []) (by kernel_rfl) trivial) (laws_szSheet_len_den v250 v251 v252 v253 v254) hy h0 hA
def laws_szSheet_len_v (v250 : ByteArray) (v253 : Nat) (v254 : Int) : Int :=
  if (decide (IntKind.i64.wrap (v254 - ((v250.size : Nat) : Int)) < (0 : Int))) = true then (
  (-1 : Int)
  ) else (
  if (decide ((laws_szMatrix_len_v v253 (IntKind.i64.wrap (v254 - ((v250.size : Nat) : Int)))) < (0 : Int))) = true then (
  (-1 : Int)
  ) else (
  (laws_szMatrix_len_v v253 (IntKind.i64.wrap (v254 - ((v250.size : Nat) : Int))))
  )
  )
theorem laws_szSheet_len_tot (v250 : ByteArray) (v253 : Nat) (v254 : Int) : laws_szSheet_len_g v250 v253 v254 = some (laws_szSheet_len_v v250 v253 v254) := by
  unfold laws_szSheet_len_g laws_szSheet_len_T laws_szSheet_len_v
  simp only [Tree.run]
  repeat' (first | rfl | split)
noncomputable def laws_szSheet_len_F : DFn := fun args L =>
  match args with
  | [.agg [.str v250, .int .i64 v251, .int .i64 v252, a1], .int .i64 v254] =>
    optT (lenV L a1) fun v253 =>
    .leaf (.int .i64 (laws_szSheet_len_v v250 v253 v254), L)
  | _ => .fail
theorem laws_szSheet_len_Fok : COk Try.prog 9 laws_szSheet_len_F true := by
  intro F L H args r L' hs ha hr
  unfold laws_szSheet_len_F at hr
  split at hr
  · rename_i v250 v251 v252 a1 v254
    obtain ⟨v253, hv253, hr⟩ := optT_run hr
    have hy := laws_szSheet_len_tot v250 v253 v254
    generalize laws_szSheet_len_v v250 v253 v254 = y at hy hr
    simp only [Tree.run, Option.some.injEq, Prod.mk.injEq] at hr
    obtain ⟨rfl, rfl⟩ := hr
    exact call_ok0 hs (fun k => (([a1.av F] : List AV)[k]?).getD .top) [.agg [.str v250, .int .i64 v251, .int .i64 v252, a1], .int .i64 v254] [.agg [.str v250, .int .i64 v251, .int .i64 v252, .hslc (BR.root 0) v253], .int .i64 v254] (fun F' h0 hi hρ => ⟨by simp [DVs.av, DV.av, BR.av, hρ], laws_szSheet_len_fn v250 v251 v252 v253 v254 F' (st_nil hi) ⟨⟨trivial, trivial, trivial, hslc_ok hi (by rw [h0, hρ]; exact lenV_ok hs (DVs.okAt (DVs.okAt ha 0 rfl) 3 rfl) hv253), trivial⟩, trivial, trivial⟩ hy⟩) rfl
  · cases hr
/-! laws.szSheetS -/
noncomputable def laws_szSheetS_len_l0_T (v243 : List ByteArray) (v246 : List Nat) (s : Int × Int) : Tree ((Int × Int) ⊕ ((Unit) ⊕ (Int))) :=
  (.br (decide (s.2 < ((v243.length : Nat) : Int))) (
  (.grd (inb s.2 v243.length) <|
  (.br (decide ((laws_szSheet_len_v (nth v243 (Int.toNat s.2)) (nth v246 (Int.toNat s.2)) s.1) < (0 : Int))) (
  .leaf (.inr (.inl ()))
  ) (
  .leaf (.inl ((laws_szSheet_len_v (nth v243 (Int.toNat s.2)) (nth v246 (Int.toNat s.2)) s.1), IntKind.i64.wrap (s.2 + (1 : Int))))
  )))
  ) (
  .leaf (.inr (.inr s.1))
  ))

noncomputable def laws_szSheetS_len_l0_g (v243 : List ByteArray) (v246 : List Nat) (s0 : Int × Int) : Option ((Unit) ⊕ (Int)) := whileM (fun s => (laws_szSheetS_len_l0_T v243 v246 s).run) s0
def laws_szSheetS_len_l0_E (v243 : List ByteArray) (v244 : List Int) (v245 : List Int) (v246 : List Nat) (v247 : Int) (s : Int × Int) : Sd := ([.rns 0 [.pl (.str v243), .pl (.i64 v244), .pl (.i64 v245), .ln v246],.int .i64 s.1,tp,tp,tp,.int .i64 s.2,tp,tp,tp,tp,tp,tp,tp,tp,tp,tp,tp,tp,tp,tp,tp,tp,tp,tp,tp,tp,tp], [])
def laws_szSheetS_len_l0_X (v243 : List ByteArray) (v244 : List Int) (v245 : List Int) (v246 : List Nat) (v247 : Int) (x : (Unit) ⊕ (Int)) : Out := (match x with | .inl x => (.ret, [tp,tp,tp,tp,.int .i64 (-1 : Int),tp,tp,tp,tp,tp,tp,tp,tp,tp,tp,tp,tp,tp,tp,tp,tp,tp,tp,tp,tp,tp,tp], []) | .inr x => (.normal, [tp,.int .i64 x,tp,tp,tp,tp,tp,tp,tp,tp,tp,tp,tp,tp,tp,tp,tp,tp,tp,tp,tp,tp,tp,tp,tp,tp,tp], []))
def laws_szSheetS_len_l0_kill : List Nat := KL true [0,2,3,1,21]
def laws_szSheetS_len_l0_nx : Exit → List Nat
  | .exit 0 => KL true [1,1,25]
  | .ret => KL true [4,1,22]
  | _ => []
noncomputable def laws_szSheetS_len_LO (v243 : List ByteArray) (v244 : List Int) (v245 : List Int) (v246 : List Nat) (v247 : Int) : LOr := fun id e L =>
  match id with
  | 0 => .need (normA 0 laws_szSheetS_len_l0_kill e L = some (laws_szSheetS_len_l0_E v243 v244 v245 v246 v247 ((gI (vAt e 1)), (gI (vAt e 5))))) (.call (laws_szSheetS_len_l0_g v243 v246 ((gI (vAt e 1)), (gI (vAt e 5)))) fun x => .sum x (fun b0 => .leaf (laws_szSheetS_len_l0_X v243 v244 v245 v246 v247 (.inl b0))) (fun c0 => .leaf (laws_szSheetS_len_l0_X v243 v244 v245 v246 v247 (.inr c0))))
  | _ => .fail
noncomputable def laws_szSheetS_len_tab : List (FuncId × DFn × Bool) := [(9, laws_szSheet_len_F, true)]
theorem laws_szSheetS_len_hO : OrcOk Try.prog (tabD laws_szSheetS_len_tab) (tabM laws_szSheetS_len_tab) := tabD_cons laws_szSheet_len_Fok (tabD_nil _)
theorem laws_szSheetS_len_l0_be (v243 : List ByteArray) (v244 : List Int) (v245 : List Int) (v246 : List Nat) (v247 : Int) (s : Int × Int) : bodyT TT (tabD laws_szSheetS_len_tab) (tabM laws_szSheetS_len_tab) (laws_szSheetS_len_LO v243 v244 v245 v246 v247) 0 laws_szSheetS_len_l0_kill laws_szSheetS_len_l0_nx (bodyOf Try.f18 0) 0 (laws_szSheetS_len_l0_E v243 v244 v245 v246 v247 s) = (laws_szSheetS_len_l0_T v243 v246 s).bind fun y => .leaf (outS (laws_szSheetS_len_l0_E v243 v244 v245 v246 v247) (laws_szSheetS_len_l0_X v243 v244 v245 v246 v247) y) := by kernel_rfl
theorem laws_szSheetS_len_l0_ok (v243 : List ByteArray) (v244 : List Int) (v245 : List Int) (v246 : List Nat) (v247 : Int) : LSound Try.prog 0 (laws_szSheetS_len_LO v243 v244 v245 v246 v247) 0 (bodyOf Try.f18 0) := by
  intro e L out h
  exact lo_ok (E := laws_szSheetS_len_l0_E v243 v244 v245 v246 v247) (gT := laws_szSheetS_len_l0_T v243 v246) (X := laws_szSheetS_len_l0_X v243 v244 v245 v246 v247) (s0 := ((gI (vAt e 1)), (gI (vAt e 5)))) tok laws_szSheetS_len_hO mixed (LoopsOk_eq (l := []) (by kernel_rfl) trivial) (laws_szSheetS_len_l0_be v243 v244 v245 v246 v247) rfl (by intro x; (cases x with | inl b => rfl | inr x => exact rfl)) h
noncomputable def laws_szSheetS_len_T (v243 : List ByteArray) (v244 : List Int) (v245 : List Int) (v246 : List Nat) (v247 : Int) : Tree (Int) :=
  (.br (decide (IntKind.i64.wrap (v247 - ((v243.length : Nat) : Int)) < (0 : Int))) (
  .leaf (-1 : Int)
  ) (
  (.need (some (laws_szSheetS_len_l0_E v243 v244 v245 v246 v247 (IntKind.i64.wrap (v247 - ((v243.length : Nat) : Int)), (0 : Int))) = some (laws_szSheetS_len_l0_E v243 v244 v245 v246 v247 (IntKind.i64.wrap (v247 - ((v243.length : Nat) : Int)), (0 : Int)))) <|
  (.call (laws_szSheetS_len_l0_g v243 v246 (IntKind.i64.wrap (v247 - ((v243.length : Nat) : Int)), (0 : Int))) fun v265 =>
  (.sum v265 (fun v266 =>
  .leaf (-1 : Int)
  ) (fun v267 =>
  .leaf v267
  ))))
  ))

noncomputable def laws_szSheetS_len_g (v243 : List ByteArray) (v244 : List Int) (v245 : List Int) (v246 : List Nat) (v247 : Int) : Option (Int) := (laws_szSheetS_len_T v243 v244 v245 v246 v247).run
def laws_szSheetS_len_enc (v243 : List ByteArray) (v244 : List Int) (v245 : List Int) (v246 : List Nat) (v247 : Int) (y : Int) : Rs := (.int .i64 y, [])
theorem laws_szSheetS_len_den (v243 : List ByteArray) (v244 : List Int) (v245 : List Int) (v246 : List Nat) (v247 : Int) : (den TT (tabD laws_szSheetS_len_tab) (tabM laws_szSheetS_len_tab) (laws_szSheetS_len_LO v243 v244 v245 v246 v247) (codeOf Try.f18) ([.rns 0 [.pl (.str v243), .pl (.i64 v244), .pl (.i64 v245), .ln v246], .int .i64 v247] ++ List.replicate (Try.f18.ntmps - ([.rns 0 [.pl (.str v243), .pl (.i64 v244), .pl (.i64 v245), .ln v246], .int .i64 v247] : List DV).length) .undef) []).bind (retD TT Try.f18.results.toList 0) = (laws_szSheetS_len_T v243 v244 v245 v246 v247).bind fun y => .leaf (laws_szSheetS_len_enc v243 v244 v245 v246 v247 y) := by kernel_rfl
theorem laws_szSheetS_len_fn (v243 : List ByteArray) (v244 : List Int) (v245 : List Int) (v246 : List Nat) (v247 : Int) (F : Fr) (h0 : St F [] F.H0) (hA : DVs.Ok F [] [.rns 0 [.pl (.str v243), .pl (.i64 v244), .pl (.i64 v245), .ln v246], .int .i64 v247]) {y : Int} (hy : laws_szSheetS_len_g v243 v244 v245 v246 v247 = some y) : ∃ F' H', Fwd 0 F F' [] (laws_szSheetS_len_enc v243 v244 v245 v246 v247 y).2 ∧ FnOk Try.prog 18 (DVs.av F [.rns 0 [.pl (.str v243), .pl (.i64 v244), .pl (.i64 v245), .ln v246], .int .i64 v247]) F.H0 ((laws_szSheetS_len_enc v243 v244 v245 v246 v247 y).1.av F') H' ∧ St F' (laws_szSheetS_len_enc v243 v244 v245 v246 v247 y).2 H' ∧ (laws_szSheetS_len_enc v243 v244 v245 v246 v247 y).1.Ok F' (laws_szSheetS_len_enc v243 v244 v245 v246 v247 y).2 :=
  fn_fin tok laws_szSheetS_len_hO mixed Try.func18 Try.call18 (by kernel_rfl) (LoopsOk_eq (l := [(0, bodyOf Try.f18 0)]) (by kernel_rfl) ⟨laws_szSheetS_len_l0_ok v243 v244 v245 v246 v247, trivial⟩) (laws_szSheetS_len_den v243 v244 v245 v246 v247) hy h0 hA
noncomputable def laws_szSheetS_len_F : DFn := fun args L =>
  match args with
  | [a1, .int .i64 v247] =>
    optT (rnsV a1) fun qr0 =>
    (match qr0.2 with
    | [.pl (.str v243), .pl (.i64 v244), .pl (.i64 v245), .ln v246] =>
    .call (laws_szSheetS_len_g v243 v244 v245 v246 v247) fun y => .leaf (.int .i64 y, L)
    | _ => .fail)
  | _ => .fail
theorem laws_szSheetS_len_Fok : COk Try.prog 18 laws_szSheetS_len_F true := by
  intro F L H args r L' hs ha hr
  unfold laws_szSheetS_len_F at hr
  split at hr
  · rename_i a1 v247
    obtain ⟨⟨nr0, cr0⟩, hv0, hr⟩ := optT_run hr
    simp only at hr
    split at hr
    · rename_i v243 v244 v245 v246
      have hrn0 := rnsV_ok hs (DVs.okAt ha 0 rfl) hv0
      have hra0 := rnsV_av (F := F) hv0
      simp only [Tree.run] at hr
      obtain ⟨y, hy, hr⟩ := Option.bind_eq_some_iff.1 hr
      simp only [Tree.run, Option.some.injEq, Prod.mk.injEq] at hr
      obtain ⟨rfl, rfl⟩ := hr
      exact call_ok0 hs (fun k => (([a1.av F] : List AV)[k]?).getD (F.ρ (k - 0 + nr0))) [a1, .int .i64 v247] [.rns 0 [.pl (.str v243), .pl (.i64 v244), .pl (.i64 v245), .ln v246], .int .i64 v247] (fun F' h0 hi hρ => ⟨by simp [DVs.av, DV.av, BR.av, hρ], laws_szSheetS_len_fn v243 v244 v245 v246 v247 F' (st_nil hi) ⟨(rns_ok (n := nr0) hi (by rw [h0]; exact hrn0) (by rw [hρ]; exact hra0) fun m => by rw [hρ]; exact (rho_far (g := fun k => F.ρ (k - 0 + nr0)) (by simp <;> omega)).trans (congrArg F.ρ (by omega))), trivial, trivial⟩ hy⟩) rfl
    · cases hr
  · cases hr
/-! laws.FnExactSameSheets -/
noncomputable def laws_FnExactSameSheets_len_LO (v235 : List ByteArray) (v236 : List Int) (v237 : List Int) (v238 : List Nat) (v239 : List ByteArray) (v240 : List Int) (v241 : List Int) (v242 : List Nat) : LOr := fun id e L =>
  match id with
  | _ => .fail
noncomputable def laws_FnExactSameSheets_len_tab : List (FuncId × DFn × Bool) := [(18, laws_szSheetS_len_F, true)]
theorem laws_FnExactSameSheets_len_hO : OrcOk Try.prog (tabD laws_FnExactSameSheets_len_tab) (tabM laws_FnExactSameSheets_len_tab) := tabD_cons laws_szSheetS_len_Fok (tabD_nil _)
noncomputable def laws_FnExactSameSheets_len_T (v235 : List ByteArray) (v236 : List Int) (v237 : List Int) (v238 : List Nat) (v239 : List ByteArray) (v240 : List Int) (v241 : List Int) (v242 : List Nat) : Tree (Bool) :=
  (.call (laws_szSheetS_len_g v235 v236 v237 v238 (1048576 : Int)) fun v268 =>
  (.br (decide (v268 < (0 : Int))) (
  .leaf true
  ) (
  (.call (laws_szSheetS_len_g v239 v240 v241 v242 v268) fun v269 =>
  (.br (decide (v269 < (0 : Int))) (
  .leaf true
  ) (
  .fail
  )))
  )))

noncomputable def laws_FnExactSameSheets_len_g (v235 : List ByteArray) (v236 : List Int) (v237 : List Int) (v238 : List Nat) (v239 : List ByteArray) (v240 : List Int) (v241 : List Int) (v242 : List Nat) : Option (Bool) := (laws_FnExactSameSheets_len_T v235 v236 v237 v238 v239 v240 v241 v242).run
def laws_FnExactSameSheets_len_enc (v235 : List ByteArray) (v236 : List Int) (v237 : List Int) (v238 : List Nat) (v239 : List ByteArray) (v240 : List Int) (v241 : List Int) (v242 : List Nat) (y : Bool) : Rs := (.bool y, [])
theorem laws_FnExactSameSheets_len_den (v235 : List ByteArray) (v236 : List Int) (v237 : List Int) (v238 : List Nat) (v239 : List ByteArray) (v240 : List Int) (v241 : List Int) (v242 : List Nat) : (den TT (tabD laws_FnExactSameSheets_len_tab) (tabM laws_FnExactSameSheets_len_tab) (laws_FnExactSameSheets_len_LO v235 v236 v237 v238 v239 v240 v241 v242) (codeOf Try.f5) ([.rns 0 [.pl (.str v235), .pl (.i64 v236), .pl (.i64 v237), .ln v238], .rns 1 [.pl (.str v239), .pl (.i64 v240), .pl (.i64 v241), .ln v242]] ++ List.replicate (Try.f5.ntmps - ([.rns 0 [.pl (.str v235), .pl (.i64 v236), .pl (.i64 v237), .ln v238], .rns 1 [.pl (.str v239), .pl (.i64 v240), .pl (.i64 v241), .ln v242]] : List DV).length) .undef) []).bind (retD TT Try.f5.results.toList 0) = (laws_FnExactSameSheets_len_T v235 v236 v237 v238 v239 v240 v241 v242).bind fun y => .leaf (laws_FnExactSameSheets_len_enc v235 v236 v237 v238 v239 v240 v241 v242 y) := by kernel_rfl
theorem laws_FnExactSameSheets_len_fn (v235 : List ByteArray) (v236 : List Int) (v237 : List Int) (v238 : List Nat) (v239 : List ByteArray) (v240 : List Int) (v241 : List Int) (v242 : List Nat) (F : Fr) (h0 : St F [] F.H0) (hA : DVs.Ok F [] [.rns 0 [.pl (.str v235), .pl (.i64 v236), .pl (.i64 v237), .ln v238], .rns 1 [.pl (.str v239), .pl (.i64 v240), .pl (.i64 v241), .ln v242]]) {y : Bool} (hy : laws_FnExactSameSheets_len_g v235 v236 v237 v238 v239 v240 v241 v242 = some y) : ∃ F' H', Fwd 0 F F' [] (laws_FnExactSameSheets_len_enc v235 v236 v237 v238 v239 v240 v241 v242 y).2 ∧ FnOk Try.prog 5 (DVs.av F [.rns 0 [.pl (.str v235), .pl (.i64 v236), .pl (.i64 v237), .ln v238], .rns 1 [.pl (.str v239), .pl (.i64 v240), .pl (.i64 v241), .ln v242]]) F.H0 ((laws_FnExactSameSheets_len_enc v235 v236 v237 v238 v239 v240 v241 v242 y).1.av F') H' ∧ St F' (laws_FnExactSameSheets_len_enc v235 v236 v237 v238 v239 v240 v241 v242 y).2 H' ∧ (laws_FnExactSameSheets_len_enc v235 v236 v237 v238 v239 v240 v241 v242 y).1.Ok F' (laws_FnExactSameSheets_len_enc v235 v236 v237 v238 v239 v240 v241 v242 y).2 :=
  fn_fin tok laws_FnExactSameSheets_len_hO mixed Try.func5 Try.call5 (by kernel_rfl) (LoopsOk_eq (l := []) (by kernel_rfl) trivial) (laws_FnExactSameSheets_len_den v235 v236 v237 v238 v239 v240 v241 v242) hy h0 hA
end Go.Proofs.Ythdmkdkbfhoahaa.AM
