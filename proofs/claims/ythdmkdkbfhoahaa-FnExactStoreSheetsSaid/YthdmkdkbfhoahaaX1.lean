/- Functions: what they come to. -/
import Derived.Test.YthdmkdkbfhoahaaBase
set_option maxRecDepth 100000
set_option maxHeartbeats 4000000
set_option linter.unusedSimpArgs false
set_option linter.unusedVariables false
namespace Go.Proofs.Ythdmkdkbfhoahaa.AM
open Go.Proofs
/-! laws.szFloat32S -/
noncomputable def laws_szFloat32S_LO (v21 : List Nat) (v22 : Int) : LOr := fun id e L =>
  match id with
  | _ => .fail
noncomputable def laws_szFloat32S_tab : List (FuncId × DFn × Bool) := []
theorem laws_szFloat32S_hO : OrcOk Try.prog (tabD laws_szFloat32S_tab) (tabM laws_szFloat32S_tab) := tabD_nil _
noncomputable def laws_szFloat32S_T (v21 : List Nat) (v22 : Int) : Tree (Int) :=
  (.br (decide (IntKind.i64.wrap (v22 - ((v21.length : Nat) : Int)) < (0 : Int))) (
  .leaf (-1 : Int)
  ) (
  .leaf (IntKind.i64.wrap (v22 - ((v21.length : Nat) : Int)))
  ))

noncomputable def laws_szFloat32S_g (v21 : List Nat) (v22 : Int) : Option (Int) := (laws_szFloat32S_T v21 v22).run
def laws_szFloat32S_enc (v21 : List Nat) (v22 : Int) (y : Int) : Rs := (.int .i64 y, [])
theorem laws_szFloat32S_den (v21 : List Nat) (v22 : Int) : (den TT (tabD laws_szFloat32S_tab) (tabM laws_szFloat32S_tab) (laws_szFloat32S_LO v21 v22) (codeOf Try.f59) ([.bslc (BR.root 0) (.f32 v21), .int .i64 v22] ++ List.replicate (Try.f59.ntmps - ([.bslc (BR.root 0) (.f32 v21), .int .i64 v22] : List DV).length) .undef) []).bind (retD TT Try.f59.results.toList 0) = (laws_szFloat32S_T v21 v22).bind fun y => .leaf (laws_szFloat32S_enc v21 v22 y) := by kernel_rfl
theorem laws_szFloat32S_fn (v21 : List Nat) (v22 : Int) (F : Fr) (h0 : St F [] F.H0) (hA : DVs.Ok F [] [.bslc (BR.root 0) (.f32 v21), .int .i64 v22]) {y : Int} (hy : laws_szFloat32S_g v21 v22 = some y) : ∃ F' H', Fwd 0 F F' [] (laws_szFloat32S_enc v21 v22 y).2 ∧ FnOk Try.prog 59 (DVs.av F [.bslc (BR.root 0) (.f32 v21), .int .i64 v22]) F.H0 ((laws_szFloat32S_enc v21 v22 y).1.av F') H' ∧ St F' (laws_szFloat32S_enc v21 v22 y).2 H' ∧ (laws_szFloat32S_enc v21 v22 y).1.Ok F' (laws_szFloat32S_enc v21 v22 y).2 :=
  fn_fin tok laws_szFloat32S_hO mixed Try.func59 Try.call59 (by kernel_rfl) (LoopsOk_eq (l := []) (by kernel_rfl) trivial) (laws_szFloat32S_den v21 v22) hy h0 hA
def laws_szFloat32S_v (v21 : List Nat) (v22 : Int) : Int :=
  if (decide (IntKind.i64.wrap (v22 - ((v21.length : Nat) : Int)) < (0 : Int))) = true then (
  (-1 : Int)
  ) else (
  IntKind.i64.wrap (v22 - ((v21.length : Nat) : Int))
  )
theorem laws_szFloat32S_tot (v21 : List Nat) (v22 : Int) : laws_szFloat32S_g v21 v22 = some (laws_szFloat32S_v v21 v22) := by
  unfold laws_szFloat32S_g laws_szFloat32S_T laws_szFloat32S_v
  simp only [Tree.run]
  repeat' (first | rfl | split)
noncomputable def laws_szFloat32S_F : DFn := fun args L =>
  match args with
  | [a1, .int .i64 v22] =>
    optT (rowF32 L a1) fun v21 =>
    .leaf (.int .i64 (laws_szFloat32S_v v21 v22), L)
  | _ => .fail
theorem laws_szFloat32S_Fok : COk Try.prog 59 laws_szFloat32S_F true := by
  intro F L H args r L' hs ha hr
  unfold laws_szFloat32S_F at hr
  split at hr
  · rename_i a1 v22
    obtain ⟨v21, hv21, hr⟩ := optT_run hr
    have hy := laws_szFloat32S_tot v21 v22
    generalize laws_szFloat32S_v v21 v22 = y at hy hr
    simp only [Tree.run, Option.some.injEq, Prod.mk.injEq] at hr
    obtain ⟨rfl, rfl⟩ := hr
    exact call_ok0 hs (fun k => (([a1.av F] : List AV)[k]?).getD .top) [a1, .int .i64 v22] [.bslc (BR.root 0) (.f32 v21), .int .i64 v22] (fun F' h0 hi hρ => ⟨by simp [DVs.av, DV.av, BR.av, hρ], laws_szFloat32S_fn v21 v22 F' (st_nil hi) ⟨bslc_ok hi (by rw [h0, hρ]; exact rowF32_ok hs (DVs.okAt ha 0 rfl) hv21), trivial, trivial⟩ hy⟩) rfl
  · cases hr
/-! laws.szMatrix -/
noncomputable def laws_szMatrix_LO (v17 : Int) (v18 : Int) (v19 : List Nat) (v20 : Int) : LOr := fun id e L =>
  match id with
  | _ => .fail
noncomputable def laws_szMatrix_tab : List (FuncId × DFn × Bool) := [(59, laws_szFloat32S_F, true)]
theorem laws_szMatrix_hO : OrcOk Try.prog (tabD laws_szMatrix_tab) (tabM laws_szMatrix_tab) := tabD_cons laws_szFloat32S_Fok (tabD_nil _)
noncomputable def laws_szMatrix_T (v19 : List Nat) (v20 : Int) : Tree (Int) :=
  (.br (decide ((laws_szFloat32S_v v19 v20) < (0 : Int))) (
  .leaf (-1 : Int)
  ) (
  .leaf (laws_szFloat32S_v v19 v20)
  ))

noncomputable def laws_szMatrix_g (v19 : List Nat) (v20 : Int) : Option (Int) := (laws_szMatrix_T v19 v20).run
def laws_szMatrix_enc (v17 : Int) (v18 : Int) (v19 : List Nat) (v20 : Int) (y : Int) : Rs := (.int .i64 y, [])
theorem laws_szMatrix_den (v17 : Int) (v18 : Int) (v19 : List Nat) (v20 : Int) : (den TT (tabD laws_szMatrix_tab) (tabM laws_szMatrix_tab) (laws_szMatrix_LO v17 v18 v19 v20) (codeOf Try.f33) ([.agg [.int .i64 v17, .int .i64 v18, .bslc (BR.root 0) (.f32 v19)], .int .i64 v20] ++ List.replicate (Try.f33.ntmps - ([.agg [.int .i64 v17, .int .i64 v18, .bslc (BR.root 0) (.f32 v19)], .int .i64 v20] : List DV).length) .undef) []).bind (retD TT Try.f33.results.toList 0) = (laws_szMatrix_T v19 v20).bind fun y => .leaf (laws_szMatrix_enc v17 v18 v19 v20 y) := by kernel_rfl
theorem laws_szMatrix_fn (v17 : Int) (v18 : Int) (v19 : List Nat) (v20 : Int) (F : Fr) (h0 : St F [] F.H0) (hA : DVs.Ok F [] [.agg [.int .i64 v17, .int .i64 v18, .bslc (BR.root 0) (.f32 v19)], .int .i64 v20]) {y : Int} (hy : laws_szMatrix_g v19 v20 = some y) : ∃ F' H', Fwd 0 F F' [] (laws_szMatrix_enc v17 v18 v19 v20 y).2 ∧ FnOk Try.prog 33 (DVs.av F [.agg [.int .i64 v17, .int .i64 v18, .bslc (BR.root 0) (.f32 v19)], .int .i64 v20]) F.H0 ((laws_szMatrix_enc v17 v18 v19 v20 y).1.av F') H' ∧ St F' (laws_szMatrix_enc v17 v18 v19 v20 y).2 H' ∧ (laws_szMatrix_enc v17 v18 v19 v20 y).1.Ok F' (laws_szMatrix_enc v17 v18 v19 v20 y).2 :=
  fn_fin tok laws_szMatrix_hO mixed Try.func33 Try.call33 (by kernel_rfl) (LoopsOk_eq (l := []) (by kernel_rfl) trivial) (laws_szMatrix_den v17 v18 v19 v20) hy h0 hA
def laws_szMatrix_v (v19 : List Nat) (v20 : Int) : Int :=
  if (decide ((laws_szFloat32S_v v19 v20) < (0 : Int))) = true then (
  (-1 : Int)
  ) else (
  (laws_szFloat32S_v v19 v20)
  )
theorem laws_szMatrix_tot (v19 : List Nat) (v20 : Int) : laws_szMatrix_g v19 v20 = some (laws_szMatrix_v v19 v20) := by
  unfold laws_szMatrix_g laws_szMatrix_T laws_szMatrix_v
  simp only [Tree.run]
  repeat' (first | rfl | split)
noncomputable def laws_szMatrix_F : DFn := fun args L =>
  match args with
  | [.agg [.int .i64 v17, .int .i64 v18, a1], .int .i64 v20] =>
    optT (rowF32 L a1) fun v19 =>
    .leaf (.int .i64 (laws_szMatrix_v v19 v20), L)
  | _ => .fail
theorem laws_szMatrix_Fok : COk Try.prog 33 laws_szMatrix_F true := by
  intro F L H args r L' hs ha hr
  unfold laws_szMatrix_F at hr
  split at hr
  · rename_i v17 v18 a1 v20
    obtain ⟨v19, hv19, hr⟩ := optT_run hr
    have hy := laws_szMatrix_tot v19 v20
    generalize laws_szMatrix_v v19 v20 = y at hy hr
    simp only [Tree.run, Option.some.injEq, Prod.mk.injEq] at hr
    obtain ⟨rfl, rfl⟩ := hr
    exact call_ok0 hs (fun k => (([a1.av F] : List AV)[k]?).getD .top) [.agg [.int .i64 v17, .int .i64 v18, a1], .int .i64 v20] [.agg [.int .i64 v17, .int .i64 v18, .bslc (BR.root 0) (.f32 v19)], .int .i64 v20] (fun F' h0 hi hρ => ⟨by simp [DVs.av, DV.av, BR.av, hρ], laws_szMatrix_fn v17 v18 v19 v20 F' (st_nil hi) ⟨⟨trivial, trivial, bslc_ok hi (by rw [h0, hρ]; exact rowF32_ok hs (DVs.okAt (DVs.okAt ha 0 rfl) 2 rfl) hv19), trivial⟩, trivial, trivial⟩ hy⟩) rfl
  · cases hr
/-! laws.szSheet -/
noncomputable def laws_szSheet_LO (v12 : ByteArray) (v13 : Int) (v14 : Int) (v15 : List Nat) (v16 : Int) : LOr := fun id e L =>
  match id with
  | _ => .fail
noncomputable def laws_szSheet_tab : List (FuncId × DFn × Bool) := [(33, laws_szMatrix_F, true)]
theorem laws_szSheet_hO : OrcOk Try.prog (tabD laws_szSheet_tab) (tabM laws_szSheet_tab) := tabD_cons laws_szMatrix_Fok (tabD_nil _)
noncomputable def laws_szSheet_T (v12 : ByteArray) (v15 : List Nat) (v16 : Int) : Tree (Int) :=
  (.br (decide (IntKind.i64.wrap (v16 - ((v12.size : Nat) : Int)) < (0 : Int))) (
  .leaf (-1 : Int)
  ) (
  (.br (decide ((laws_szMatrix_v v15 (IntKind.i64.wrap (v16 - ((v12.size : Nat) : Int)))) < (0 : Int))) (
  .leaf (-1 : Int)
  ) (
  .leaf (laws_szMatrix_v v15 (IntKind.i64.wrap (v16 - ((v12.size : Nat) : Int))))
  ))
  ))

noncomputable def laws_szSheet_g (v12 : ByteArray) (v15 : List Nat) (v16 : Int) : Option (Int) := (laws_szSheet_T v12 v15 v16).run
def laws_szSheet_enc (v12 : ByteArray) (v13 : Int) (v14 : Int) (v15 : List Nat) (v16 : Int) (y : Int) : Rs := (.int .i64 y, [])
theorem laws_szSheet_den (v12 : ByteArray) (v13 : Int) (v14 : Int) (v15 : List Nat) (v16 : Int) : (den TT (tabD laws_szSheet_tab) (tabM laws_szSheet_tab) (laws_szSheet_LO v12 v13 v14 v15 v16) (codeOf Try.f9) ([.agg [.str v12, .int .i64 v13, .int .i64 v14, .bslc (BR.root 0) (.f32 v15)], .int .i64 v16] ++ List.replicate (Try.f9.ntmps - ([.agg [.str v12, .int .i64 v13, .int .i64 v14, .bslc (BR.root 0) (.f32 v15)], .int .i64 v16] : List DV).length) .undef) []).bind (retD TT Try.f9.results.toList 0) = (laws_szSheet_T v12 v15 v16).bind fun y => .leaf (laws_szSheet_enc v12 v13 v14 v15 v16 y) := by kernel_rfl
theorem laws_szSheet_fn (v12 : ByteArray) (v13 : Int) (v14 : Int) (v15 : List Nat) (v16 : Int) (F : Fr) (h0 : St F [] F.H0) (hA : DVs.Ok F [] [.agg [.str v12, .int .i64 v13, .int .i64 v14, .bslc (BR.root 0) (.f32 v15)], .int .i64 v16]) {y : Int} (hy : laws_szSheet_g v12 v15 v16 = some y) : ∃ F' H', Fwd 0 F F' [] (laws_szSheet_enc v12 v13 v14 v15 v16 y).2 ∧ FnOk Try.prog 9 (DVs.av F [.agg [.str v12, .int .i64 v13, .int .i64 v14, .bslc (BR.root 0) (.f32 v15)], .int .i64 v16]) F.H0 ((laws_szSheet_enc v12 v13 v14 v15 v16 y).1.av F') H' ∧ St F' (laws_szSheet_enc v12 v13 v14 v15 v16 y).2 H' ∧ (laws_szSheet_enc v12 v13 v14 v15 v16 y).1.Ok F' (laws_szSheet_enc v12 v13 v14 v15 v16 y).2 :=
  fn_fin tok laws_szSheet_hO mixed Try.func9 Try.call9 (by kernel_rfl) (LoopsOk_eq (l := []) (by kernel_rfl) trivial) (laws_szSheet_den v12 v13 v14 v15 v16) hy h0 hA
def laws_szSheet_v (v12 : ByteArray) (v15 : List Nat) (v16 : Int) : Int :=
  if (decide (IntKind.i64.wrap (v16 - ((v12.size : Nat) : Int)) < (0 : Int))) = true then (
  (-1 : Int)
  ) else (
  if (decide ((laws_szMatrix_v v15 (IntKind.i64.wrap (v16 - ((v12.size : Nat) : Int)))) < (0 : Int))) = true then (
  (-1 : Int)
  ) else (
  (laws_szMatrix_v v15 (IntKind.i64.wrap (v16 - ((v12.size : Nat) : Int))))
  )
  )
theorem laws_szSheet_tot (v12 : ByteArray) (v15 : List Nat) (v16 : Int) : laws_szSheet_g v12 v15 v16 = some (laws_szSheet_v v12 v15 v16) := by
  unfold laws_szSheet_g laws_szSheet_T laws_szSheet_v
  simp only [Tree.run]
  repeat' (first | rfl | split)
noncomputable def laws_szSheet_F : DFn := fun args L =>
  match args with
  | [.agg [.str v12, .int .i64 v13, .int .i64 v14, a1], .int .i64 v16] =>
    optT (rowF32 L a1) fun v15 =>
    .leaf (.int .i64 (laws_szSheet_v v12 v15 v16), L)
  | _ => .fail
theorem laws_szSheet_Fok : COk Try.prog 9 laws_szSheet_F true := by
  intro F L H args r L' hs ha hr
  unfold laws_szSheet_F at hr
  split at hr
  · rename_i v12 v13 v14 a1 v16
    obtain ⟨v15, hv15, hr⟩ := optT_run hr
    have hy := laws_szSheet_tot v12 v15 v16
    generalize laws_szSheet_v v12 v15 v16 = y at hy hr
    simp only [Tree.run, Option.some.injEq, Prod.mk.injEq] at hr
    obtain ⟨rfl, rfl⟩ := hr
    exact call_ok0 hs (fun k => (([a1.av F] : List AV)[k]?).getD .top) [.agg [.str v12, .int .i64 v13, .int .i64 v14, a1], .int .i64 v16] [.agg [.str v12, .int .i64 v13, .int .i64 v14, .bslc (BR.root 0) (.f32 v15)], .int .i64 v16] (fun F' h0 hi hρ => ⟨by simp [DVs.av, DV.av, BR.av, hρ], laws_szSheet_fn v12 v13 v14 v15 v16 F' (st_nil hi) ⟨⟨trivial, trivial, trivial, bslc_ok hi (by rw [h0, hρ]; exact rowF32_ok hs (DVs.okAt (DVs.okAt ha 0 rfl) 3 rfl) hv15), trivial⟩, trivial, trivial⟩ hy⟩) rfl
  · cases hr
/-! laws.szSheetS -/
noncomputable def laws_szSheetS_l0_T (v5 : List ByteArray) (v8 : List (List Nat)) (s : Int × Int) : Tree ((Int × Int) ⊕ ((Unit) ⊕ (Int))) :=
  (.br (decide (s.2 < ((v5.length : Nat) : Int))) (
  (.grd (inb s.2 v5.length) <|
  (.br (decide ((laws_szSheet_v (nth v5 (Int.toNat s.2)) (nth v8 (Int.toNat s.2)) s.1) < (0 : Int))) (
  .leaf (.inr (.inl ()))
  ) (
  .leaf (.inl ((laws_szSheet_v (nth v5 (Int.toNat s.2)) (nth v8 (Int.toNat s.2)) s.1), IntKind.i64.wrap (s.2 + (1 : Int))))
  )))
  ) (
  .leaf (.inr (.inr s.1))
  ))

noncomputable def laws_szSheetS_l0_g (v5 : List ByteArray) (v8 : List (List Nat)) (s0 : Int × Int) : Option ((Unit) ⊕ (Int)) := whileM (fun s => (laws_szSheetS_l0_T v5 v8 s).run) s0
def laws_szSheetS_l0_E (v5 : List ByteArray) (v6 : List Int) (v7 : List Int) (v8 : List (List Nat)) (v9 : Int) (s : Int × Int) : Sd := ([.rns 0 [.pl (.str v5), .pl (.i64 v6), .pl (.i64 v7), .sl (.f32 v8)],.int .i64 s.1,tp,tp,tp,.int .i64 s.2,tp,tp,tp,tp,tp,tp,tp,tp,tp,tp,tp,tp,tp,tp,tp,tp,tp,tp,tp,tp,tp], [])
def laws_szSheetS_l0_X (v5 : List ByteArray) (v6 : List Int) (v7 : List Int) (v8 : List (List Nat)) (v9 : Int) (x : (Unit) ⊕ (Int)) : Out := (match x with | .inl x => (.ret, [tp,tp,tp,tp,.int .i64 (-1 : Int),tp,tp,tp,tp,tp,tp,tp,tp,tp,tp,tp,tp,tp,tp,tp,tp,tp,tp,tp,tp,tp,tp], []) | .inr x => (.normal, [tp,.int .i64 x,tp,tp,tp,tp,tp,tp,tp,tp,tp,tp,tp,tp,tp,tp,tp,tp,tp,tp,tp,tp,tp,tp,tp,tp,tp], []))
def laws_szSheetS_l0_kill : List Nat := KL true [0,2,3,1,21]
def laws_szSheetS_l0_nx : Exit → List Nat
  | .exit 0 => KL true [1,1,25]
  | .ret => KL true [4,1,22]
  | _ => []
noncomputable def laws_szSheetS_LO (v5 : List ByteArray) (v6 : List Int) (v7 : List Int) (v8 : List (List Nat)) (v9 : Int) : LOr := fun id e L =>
  match id with
  | 0 => .need (normA 0 laws_szSheetS_l0_kill e L = some (laws_szSheetS_l0_E v5 v6 v7 v8 v9 ((gI (vAt e 1)), (gI (vAt e 5))))) (.call (laws_szSheetS_l0_g v5 v8 ((gI (vAt e 1)), (gI (vAt e 5)))) fun x => .sum x (fun b0 => .leaf (laws_szSheetS_l0_X v5 v6 v7 v8 v9 (.inl b0))) (fun c0 => .leaf (laws_szSheetS_l0_X v5 v6 v7 v8 v9 (.inr c0))))
  | _ => .fail
noncomputable def laws_szSheetS_tab : List (FuncId × DFn × Bool) := [(9, laws_szSheet_F, true)]
theorem laws_szSheetS_hO : OrcOk Try.prog (tabD laws_szSheetS_tab) (tabM laws_szSheetS_tab) := tabD_cons laws_szSheet_Fok (tabD_nil _)
theorem laws_szSheetS_l0_be (v5 : List ByteArray) (v6 : List Int) (v7 : List Int) (v8 : List (List Nat)) (v9 : Int) (s : Int × Int) : bodyT TT (tabD laws_szSheetS_tab) (tabM laws_szSheetS_tab) (laws_szSheetS_LO v5 v6 v7 v8 v9) 0 laws_szSheetS_l0_kill laws_szSheetS_l0_nx (bodyOf Try.f18 0) 0 (laws_szSheetS_l0_E v5 v6 v7 v8 v9 s) = (laws_szSheetS_l0_T v5 v8 s).bind fun y => .leaf (outS (laws_szSheetS_l0_E v5 v6 v7 v8 v9) (laws_szSheetS_l0_X v5 v6 v7 v8 v9) y) := by kernel_rfl
theorem laws_szSheetS_l0_ok (v5 : List ByteArray) (v6 : List Int) (v7 : List Int) (v8 : List (List Nat)) (v9 : Int) : LSound Try.prog 0 (laws_szSheetS_LO v5 v6 v7 v8 v9) 0 (bodyOf Try.f18 0) := by
  intro e L out h
  exact lo_ok (E := laws_szSheetS_l0_E v5 v6 v7 v8 v9) (gT := laws_szSheetS_l0_T v5 v8) (X := laws_szSheetS_l0_X v5 v6 v7 v8 v9) (s0 := ((gI (vAt e 1)), (gI (vAt e 5)))) tok laws_szSheetS_hO mixed (LoopsOk_eq (l := []) (by kernel_rfl) trivial) (laws_szSheetS_l0_be v5 v6 v7 v8 v9) rfl (by intro x; (cases x with | inl b => rfl | inr x => exact rfl)) h
noncomputable def laws_szSheetS_T (v5 : List ByteArray) (v6 : List Int) (v7 : List Int) (v8 : List (List Nat)) (v9 : Int) : Tree (Int) :=
  (.br (decide (IntKind.i64.wrap (v9 - ((v5.length : Nat) : Int)) < (0 : Int))) (
  .leaf (-1 : Int)
  ) (
  (.need (some (laws_szSheetS_l0_E v5 v6 v7 v8 v9 (IntKind.i64.wrap (v9 - ((v5.length : Nat) : Int)), (0 : Int))) = some (laws_szSheetS_l0_E v5 v6 v7 v8 v9 (IntKind.i64.wrap (v9 - ((v5.length : Nat) : Int)), (0 : Int)))) <|
  (.call (laws_szSheetS_l0_g v5 v8 (IntKind.i64.wrap (v9 - ((v5.length : Nat) : Int)), (0 : Int))) fun v27 =>
  (.sum v27 (fun v28 =>
  .leaf (-1 : Int)
  ) (fun v29 =>
  .leaf v29
  ))))
  ))

noncomputable def laws_szSheetS_g (v5 : List ByteArray) (v6 : List Int) (v7 : List Int) (v8 : List (List Nat)) (v9 : Int) : Option (Int) := (laws_szSheetS_T v5 v6 v7 v8 v9).run
def laws_szSheetS_enc (v5 : List ByteArray) (v6 : List Int) (v7 : List Int) (v8 : List (List Nat)) (v9 : Int) (y : Int) : Rs := (.int .i64 y, [])
theorem laws_szSheetS_den (v5 : List ByteArray) (v6 : List Int) (v7 : List Int) (v8 : List (List Nat)) (v9 : Int) : (den TT (tabD laws_szSheetS_tab) (tabM laws_szSheetS_tab) (laws_szSheetS_LO v5 v6 v7 v8 v9) (codeOf Try.f18) ([.rns 0 [.pl (.str v5), .pl (.i64 v6), .pl (.i64 v7), .sl (.f32 v8)], .int .i64 v9] ++ List.replicate (Try.f18.ntmps - ([.rns 0 [.pl (.str v5), .pl (.i64 v6), .pl (.i64 v7), .sl (.f32 v8)], .int .i64 v9] : List DV).length) .undef) []).bind (retD TT Try.f18.results.toList 0) = (laws_szSheetS_T v5 v6 v7 v8 v9).bind fun y => .leaf (laws_szSheetS_enc v5 v6 v7 v8 v9 y) := by kernel_rfl
theorem laws_szSheetS_fn (v5 : List ByteArray) (v6 : List Int) (v7 : List Int) (v8 : List (List Nat)) (v9 : Int) (F : Fr) (h0 : St F [] F.H0) (hA : DVs.Ok F [] [.rns 0 [.pl (.str v5), .pl (.i64 v6), .pl (.i64 v7), .sl (.f32 v8)], .int .i64 v9]) {y : Int} (hy : laws_szSheetS_g v5 v6 v7 v8 v9 = some y) : ∃ F' H', Fwd 0 F F' [] (laws_szSheetS_enc v5 v6 v7 v8 v9 y).2 ∧ FnOk Try.prog 18 (DVs.av F [.rns 0 [.pl (.str v5), .pl (.i64 v6), .pl (.i64 v7), .sl (.f32 v8)], .int .i64 v9]) F.H0 ((laws_szSheetS_enc v5 v6 v7 v8 v9 y).1.av F') H' ∧ St F' (laws_szSheetS_enc v5 v6 v7 v8 v9 y).2 H' ∧ (laws_szSheetS_enc v5 v6 v7 v8 v9 y).1.Ok F' (laws_szSheetS_enc v5 v6 v7 v8 v9 y).2 :=
  fn_fin tok laws_szSheetS_hO mixed Try.func18 Try.call18 (by kernel_rfl) (LoopsOk_eq (l := [(0, bodyOf Try.f18 0)]) (by kernel_rfl) ⟨laws_szSheetS_l0_ok v5 v6 v7 v8 v9, trivial⟩) (laws_szSheetS_den v5 v6 v7 v8 v9) hy h0 hA
noncomputable def laws_szSheetS_F : DFn := fun args L =>
  match args with
  | [a1, .int .i64 v9] =>
    optT (rnsV a1) fun qr0 =>
    (match qr0.2 with
    | [.pl (.str v5), .pl (.i64 v6), .pl (.i64 v7), .sl (.f32 v8)] =>
    .call (laws_szSheetS_g v5 v6 v7 v8 v9) fun y => .leaf (.int .i64 y, L)
    | _ => .fail)
  | _ => .fail
theorem laws_szSheetS_Fok : COk Try.prog 18 laws_szSheetS_F true := by
  intro F L H args r L' hs ha hr
  unfold laws_szSheetS_F at hr
  split at hr
  · rename_i a1 v9
    obtain ⟨⟨nr0, cr0⟩, hv0, hr⟩ := optT_run hr
    simp only at hr
    split at hr
    · rename_i v5 v6 v7 v8
      have hrn0 := rnsV_ok hs (DVs.okAt ha 0 rfl) hv0
      have hra0 := rnsV_av (F := F) hv0
      simp only [Tree.run] at hr
      obtain ⟨y, hy, hr⟩ := Option.bind_eq_some_iff.1 hr
      simp only [Tree.run, Option.some.injEq, Prod.mk.injEq] at hr
      obtain ⟨rfl, rfl⟩ := hr
      exact call_ok0 hs (fun k => (([a1.av F] : List AV)[k]?).getD (F.ρ (k - 0 + nr0))) [a1, .int .i64 v9] [.rns 0 [.pl (.str v5), .pl (.i64 v6), .pl (.i64 v7), .sl (.f32 v8)], .int .i64 v9] (fun F' h0 hi hρ => ⟨by simp [DVs.av, DV.av, BR.av, hρ], laws_szSheetS_fn v5 v6 v7 v8 v9 F' (st_nil hi) ⟨(rns_ok (n := nr0) hi (by rw [h0]; exact hrn0) (by rw [hρ]; exact hra0) fun m => by rw [hρ]; exact (rho_far (g := fun k => F.ρ (k - 0 + nr0)) (by simp <;> omega)).trans (congrArg F.ρ (by omega))), trivial, trivial⟩ hy⟩) rfl
    · cases hr
  · cases hr
/-! laws.toFloat32S -/
noncomputable def laws_toFloat32S_l0_T (v43 : List Nat) (s : Int × (List Nat)) : Tree ((Int × (List Nat)) ⊕ ((List Nat))) :=
  (.br (decide (s.1 < ((v43.length : Nat) : Int))) (
  (.grd (inb s.1 v43.length) <|
  (.grd (inb s.1 ((s.2).length)) <|
  .leaf (.inl (IntKind.i64.wrap (s.1 + (1 : Int)), List.set s.2 (Int.toNat s.1) (nth v43 (Int.toNat s.1))))))
  ) (
  .leaf (.inr s.2)
  ))

noncomputable def laws_toFloat32S_l0_g (v43 : List Nat) (s0 : Int × (List Nat)) : Option ((List Nat)) := whileM (fun s => (laws_toFloat32S_l0_T v43 s).run) s0
def laws_toFloat32S_l0_E (v43 : List Nat) (s : Int × (List Nat)) : Sd := ([.bslc (BR.root 0) (.f32 v43),tp,tp,.own 0 0 ((s.2).length),.int .i64 s.1,tp,tp,tp,tp,tp,tp,tp,tp,tp,tp,tp,tp,tp,tp,tp,tp,tp], [.row (.f32 s.2) 0])
def laws_toFloat32S_l0_X (v43 : List Nat) (x : (List Nat)) : Out := (.normal, [tp,tp,tp,.own 0 0 ((x).length),tp,tp,tp,tp,tp,tp,tp,tp,tp,tp,tp,tp,tp,tp,tp,tp,tp,tp], [.row (.f32 x) 0])
def laws_toFloat32S_l0_kill : List Nat := KL true [0,1,2,2,17]
def laws_toFloat32S_l0_nx : Exit → List Nat
  | .exit 0 => KL true [3,1,18]
  | .ret => KL true [2,1,19]
  | _ => []
noncomputable def laws_toFloat32S_LO (v43 : List Nat) : LOr := fun id e L =>
  match id with
  | 0 => .need (normA 0 laws_toFloat32S_l0_kill e L = some (laws_toFloat32S_l0_E v43 ((gI (vAt e 4)), (gRF L (vAt e 3))))) (.call (laws_toFloat32S_l0_g v43 ((gI (vAt e 4)), (gRF L (vAt e 3)))) fun x => .leaf (laws_toFloat32S_l0_X v43 x))
  | _ => .fail
noncomputable def laws_toFloat32S_tab : List (FuncId × DFn × Bool) := []
theorem laws_toFloat32S_hO : OrcOk Try.prog (tabD laws_toFloat32S_tab) (tabM laws_toFloat32S_tab) := tabD_nil _
theorem laws_toFloat32S_l0_be (v43 : List Nat) (s : Int × (List Nat)) : bodyT TT (tabD laws_toFloat32S_tab) (tabM laws_toFloat32S_tab) (laws_toFloat32S_LO v43) 0 laws_toFloat32S_l0_kill laws_toFloat32S_l0_nx (bodyOf Try.f64 0) 0 (laws_toFloat32S_l0_E v43 s) = (laws_toFloat32S_l0_T v43 s).bind fun y => .leaf (outS (laws_toFloat32S_l0_E v43) (laws_toFloat32S_l0_X v43) y) := by kernel_rfl
theorem laws_toFloat32S_l0_ok (v43 : List Nat) : LSound Try.prog 0 (laws_toFloat32S_LO v43) 0 (bodyOf Try.f64 0) := by
  intro e L out h
  exact lo_ok (E := laws_toFloat32S_l0_E v43) (gT := laws_toFloat32S_l0_T v43) (X := laws_toFloat32S_l0_X v43) (s0 := ((gI (vAt e 4)), (gRF L (vAt e 3)))) tok laws_toFloat32S_hO mixed (LoopsOk_eq (l := []) (by kernel_rfl) trivial) (laws_toFloat32S_l0_be v43) rfl (by intro x; rfl) h
noncomputable def laws_toFloat32S_T (v43 : List Nat) : Tree ((List Nat)) :=
  (.need (((v43.length : Nat) : Int) = ((v43.length : Nat) : Int)) <|
  (.grd (inb ((v43.length : Nat) : Int) (maxN + 1)) <|
  (.need (some (laws_toFloat32S_l0_E v43 ((0 : Int), List.replicate (Int.toNat ((v43.length : Nat) : Int)) (0 : Nat))) = some (laws_toFloat32S_l0_E v43 ((0 : Int), List.replicate (Int.toNat ((v43.length : Nat) : Int)) (0 : Nat)))) <|
  (.call (laws_toFloat32S_l0_g v43 ((0 : Int), List.replicate (Int.toNat ((v43.length : Nat) : Int)) (0 : Nat))) fun v49 =>
  .leaf v49))))

noncomputable def laws_toFloat32S_g (v43 : List Nat) : Option ((List Nat)) := (laws_toFloat32S_T v43).run
def laws_toFloat32S_enc (v43 : List Nat) (y : (List Nat)) : Rs := (.own 0 0 ((y).length), [.row (.f32 y) 0])
theorem laws_toFloat32S_den (v43 : List Nat) : (den TT (tabD laws_toFloat32S_tab) (tabM laws_toFloat32S_tab) (laws_toFloat32S_LO v43) (codeOf Try.f64) ([.bslc (BR.root 0) (.f32 v43)] ++ List.replicate (Try.f64.ntmps - ([.bslc (BR.root 0) (.f32 v43)] : List DV).length) .undef) []).bind (retD TT Try.f64.results.toList 0) = (laws_toFloat32S_T v43).bind fun y => .leaf (laws_toFloat32S_enc v43 y) := by kernel_rfl
theorem laws_toFloat32S_fn (v43 : List Nat) (F : Fr) (h0 : St F [] F.H0) (hA : DVs.Ok F [] [.bslc (BR.root 0) (.f32 v43)]) {y : (List Nat)} (hy : laws_toFloat32S_g v43 = some y) : ∃ F' H', Fwd 0 F F' [] (laws_toFloat32S_enc v43 y).2 ∧ FnOk Try.prog 64 (DVs.av F [.bslc (BR.root 0) (.f32 v43)]) F.H0 ((laws_toFloat32S_enc v43 y).1.av F') H' ∧ St F' (laws_toFloat32S_enc v43 y).2 H' ∧ (laws_toFloat32S_enc v43 y).1.Ok F' (laws_toFloat32S_enc v43 y).2 :=
  fn_fin tok laws_toFloat32S_hO mixed Try.func64 Try.call64 (by kernel_rfl) (LoopsOk_eq (l := [(0, bodyOf Try.f64 0)]) (by kernel_rfl) ⟨laws_toFloat32S_l0_ok v43, trivial⟩) (laws_toFloat32S_den v43) hy h0 hA
noncomputable def laws_toFloat32S_F : DFn := fun args L =>
  match args with
  | [a1] =>
    optT (rowF32 L a1) fun v43 =>
    .call (laws_toFloat32S_g v43) fun y => .leaf (.own (L.length + 0) 0 ((y).length), L ++ [.row (.f32 y) 0])
  | _ => .fail
theorem laws_toFloat32S_Fok : COk Try.prog 64 laws_toFloat32S_F true := by
  intro F L H args r L' hs ha hr
  unfold laws_toFloat32S_F at hr
  split at hr
  · rename_i a1
    obtain ⟨v43, hv43, hr⟩ := optT_run hr
    simp only [Tree.run] at hr
    obtain ⟨y, hy, hr⟩ := Option.bind_eq_some_iff.1 hr
    simp only [Tree.run, Option.some.injEq, Prod.mk.injEq] at hr
    obtain ⟨rfl, rfl⟩ := hr
    exact call_ok1 hs (fun k => (([a1.av F] : List AV)[k]?).getD .top) [a1] [.bslc (BR.root 0) (.f32 v43)] (fun F' h0 hi hρ => ⟨by simp [DVs.av, DV.av, BR.av, hρ], laws_toFloat32S_fn v43 F' (st_nil hi) ⟨bslc_ok hi (by rw [h0, hρ]; exact rowF32_ok hs (DVs.okAt ha 0 rfl) hv43), trivial⟩ hy⟩) rfl rfl
  · cases hr
/-! laws.toMatrix -/
noncomputable def laws_toMatrix_LO (v40 : Int) (v41 : Int) (v42 : List Nat) : LOr := fun id e L =>
  match id with
  | _ => .fail
noncomputable def laws_toMatrix_tab : List (FuncId × DFn × Bool) := [(64, laws_toFloat32S_F, true)]
theorem laws_toMatrix_hO : OrcOk Try.prog (tabD laws_toMatrix_tab) (tabM laws_toMatrix_tab) := tabD_cons laws_toFloat32S_Fok (tabD_nil _)
noncomputable def laws_toMatrix_T (v40 : Int) (v41 : Int) (v42 : List Nat) : Tree (Int × Int × (List Nat)) :=
  (.call (laws_toFloat32S_g v42) fun v50 =>
  .leaf (v40, v41, v50))

noncomputable def laws_toMatrix_g (v40 : Int) (v41 : Int) (v42 : List Nat) : Option (Int × Int × (List Nat)) := (laws_toMatrix_T v40 v41 v42).run
def laws_toMatrix_enc (v40 : Int) (v41 : Int) (v42 : List Nat) (y : Int × Int × (List Nat)) : Rs := (.agg [.int .i64 y.1, .int .i64 y.2.1, .own 0 0 ((y.2.2).length)], [.row (.f32 y.2.2) 0])
theorem laws_toMatrix_den (v40 : Int) (v41 : Int) (v42 : List Nat) : (den TT (tabD laws_toMatrix_tab) (tabM laws_toMatrix_tab) (laws_toMatrix_LO v40 v41 v42) (codeOf Try.f36) ([.agg [.int .i64 v40, .int .i64 v41, .bslc (BR.root 0) (.f32 v42)]] ++ List.replicate (Try.f36.ntmps - ([.agg [.int .i64 v40, .int .i64 v41, .bslc (BR.root 0) (.f32 v42)]] : List DV).length) .undef) []).bind (retD TT Try.f36.results.toList 0) = (laws_toMatrix_T v40 v41 v42).bind fun y => .leaf (laws_toMatrix_enc v40 v41 v42 y) := by kernel_rfl
theorem laws_toMatrix_fn (v40 : Int) (v41 : Int) (v42 : List Nat) (F : Fr) (h0 : St F [] F.H0) (hA : DVs.Ok F [] [.agg [.int .i64 v40, .int .i64 v41, .bslc (BR.root 0) (.f32 v42)]]) {y : Int × Int × (List Nat)} (hy : laws_toMatrix_g v40 v41 v42 = some y) : ∃ F' H', Fwd 0 F F' [] (laws_toMatrix_enc v40 v41 v42 y).2 ∧ FnOk Try.prog 36 (DVs.av F [.agg [.int .i64 v40, .int .i64 v41, .bslc (BR.root 0) (.f32 v42)]]) F.H0 ((laws_toMatrix_enc v40 v41 v42 y).1.av F') H' ∧ St F' (laws_toMatrix_enc v40 v41 v42 y).2 H' ∧ (laws_toMatrix_enc v40 v41 v42 y).1.Ok F' (laws_toMatrix_enc v40 v41 v42 y).2 :=
  fn_fin tok laws_toMatrix_hO mixed Try.func36 Try.call36 (by kernel_rfl) (LoopsOk_eq (l := []) (by kernel_rfl) trivial) (laws_toMatrix_den v40 v41 v42) hy h0 hA
noncomputable def laws_toMatrix_F : DFn := fun args L =>
  match args with
  | [.agg [.int .i64 v40, .int .i64 v41, a1]] =>
    optT (rowF32 L a1) fun v42 =>
    .call (laws_toMatrix_g v40 v41 v42) fun y => .leaf (.agg [.int .i64 y.1, .int .i64 y.2.1, .own (L.length + 0) 0 ((y.2.2).length)], L ++ [.row (.f32 y.2.2) 0])
  | _ => .fail
theorem laws_toMatrix_Fok : COk Try.prog 36 laws_toMatrix_F true := by
  intro F L H args r L' hs ha hr
  unfold laws_toMatrix_F at hr
  split at hr
  · rename_i v40 v41 a1
    obtain ⟨v42, hv42, hr⟩ := optT_run hr
    simp only [Tree.run] at hr
    obtain ⟨y, hy, hr⟩ := Option.bind_eq_some_iff.1 hr
    simp only [Tree.run, Option.some.injEq, Prod.mk.injEq] at hr
    obtain ⟨rfl, rfl⟩ := hr
    exact call_ok1 hs (fun k => (([a1.av F] : List AV)[k]?).getD .top) [.agg [.int .i64 v40, .int .i64 v41, a1]] [.agg [.int .i64 v40, .int .i64 v41, .bslc (BR.root 0) (.f32 v42)]] (fun F' h0 hi hρ => ⟨by simp [DVs.av, DV.av, BR.av, hρ], laws_toMatrix_fn v40 v41 v42 F' (st_nil hi) ⟨⟨trivial, trivial, bslc_ok hi (by rw [h0, hρ]; exact rowF32_ok hs (DVs.okAt (DVs.okAt ha 0 rfl) 2 rfl) hv42), trivial⟩, trivial⟩ hy⟩) rfl rfl
  · cases hr
/-! laws.toSheet -/
noncomputable def laws_toSheet_LO (v36 : ByteArray) (v37 : Int) (v38 : Int) (v39 : List Nat) : LOr := fun id e L =>
  match id with
  | _ => .fail
noncomputable def laws_toSheet_tab : List (FuncId × DFn × Bool) := [(36, laws_toMatrix_F, true)]
theorem laws_toSheet_hO : OrcOk Try.prog (tabD laws_toSheet_tab) (tabM laws_toSheet_tab) := tabD_cons laws_toMatrix_Fok (tabD_nil _)
noncomputable def laws_toSheet_T (v36 : ByteArray) (v37 : Int) (v38 : Int) (v39 : List Nat) : Tree (ByteArray × Int × Int × (List Nat)) :=
  (.call (laws_toMatrix_g v37 v38 v39) fun v51 =>
  .leaf (v36, v51.1, v51.2.1, v51.2.2))

noncomputable def laws_toSheet_g (v36 : ByteArray) (v37 : Int) (v38 : Int) (v39 : List Nat) : Option (ByteArray × Int × Int × (List Nat)) := (laws_toSheet_T v36 v37 v38 v39).run
def laws_toSheet_enc (v36 : ByteArray) (v37 : Int) (v38 : Int) (v39 : List Nat) (y : ByteArray × Int × Int × (List Nat)) : Rs := (.agg [.str y.1, .int .i64 y.2.1, .int .i64 y.2.2.1, .own 0 0 ((y.2.2.2).length)], [.row (.f32 y.2.2.2) 0])
theorem laws_toSheet_den (v36 : ByteArray) (v37 : Int) (v38 : Int) (v39 : List Nat) : (den TT (tabD laws_toSheet_tab) (tabM laws_toSheet_tab) (laws_toSheet_LO v36 v37 v38 v39) (codeOf Try.f11) ([.agg [.str v36, .int .i64 v37, .int .i64 v38, .bslc (BR.root 0) (.f32 v39)]] ++ List.replicate (Try.f11.ntmps - ([.agg [.str v36, .int .i64 v37, .int .i64 v38, .bslc (BR.root 0) (.f32 v39)]] : List DV).length) .undef) []).bind (retD TT Try.f11.results.toList 0) = (laws_toSheet_T v36 v37 v38 v39).bind fun y => .leaf (laws_toSheet_enc v36 v37 v38 v39 y) := by kernel_rfl
theorem laws_toSheet_fn (v36 : ByteArray) (v37 : Int) (v38 : Int) (v39 : List Nat) (F : Fr) (h0 : St F [] F.H0) (hA : DVs.Ok F [] [.agg [.str v36, .int .i64 v37, .int .i64 v38, .bslc (BR.root 0) (.f32 v39)]]) {y : ByteArray × Int × Int × (List Nat)} (hy : laws_toSheet_g v36 v37 v38 v39 = some y) : ∃ F' H', Fwd 0 F F' [] (laws_toSheet_enc v36 v37 v38 v39 y).2 ∧ FnOk Try.prog 11 (DVs.av F [.agg [.str v36, .int .i64 v37, .int .i64 v38, .bslc (BR.root 0) (.f32 v39)]]) F.H0 ((laws_toSheet_enc v36 v37 v38 v39 y).1.av F') H' ∧ St F' (laws_toSheet_enc v36 v37 v38 v39 y).2 H' ∧ (laws_toSheet_enc v36 v37 v38 v39 y).1.Ok F' (laws_toSheet_enc v36 v37 v38 v39 y).2 :=
  fn_fin tok laws_toSheet_hO mixed Try.func11 Try.call11 (by kernel_rfl) (LoopsOk_eq (l := []) (by kernel_rfl) trivial) (laws_toSheet_den v36 v37 v38 v39) hy h0 hA
noncomputable def laws_toSheet_F : DFn := fun args L =>
  match args with
  | [.agg [.str v36, .int .i64 v37, .int .i64 v38, a1]] =>
    optT (rowF32 L a1) fun v39 =>
    .call (laws_toSheet_g v36 v37 v38 v39) fun y => .leaf (.agg [.str y.1, .int .i64 y.2.1, .int .i64 y.2.2.1, .own (L.length + 0) 0 ((y.2.2.2).length)], L ++ [.row (.f32 y.2.2.2) 0])
  | _ => .fail
theorem laws_toSheet_Fok : COk Try.prog 11 laws_toSheet_F true := by
  intro F L H args r L' hs ha hr
  unfold laws_toSheet_F at hr
  split at hr
  · rename_i v36 v37 v38 a1
    obtain ⟨v39, hv39, hr⟩ := optT_run hr
    simp only [Tree.run] at hr
    obtain ⟨y, hy, hr⟩ := Option.bind_eq_some_iff.1 hr
    simp only [Tree.run, Option.some.injEq, Prod.mk.injEq] at hr
    obtain ⟨rfl, rfl⟩ := hr
    exact call_ok1 hs (fun k => (([a1.av F] : List AV)[k]?).getD .top) [.agg [.str v36, .int .i64 v37, .int .i64 v38, a1]] [.agg [.str v36, .int .i64 v37, .int .i64 v38, .bslc (BR.root 0) (.f32 v39)]] (fun F' h0 hi hρ => ⟨by simp [DVs.av, DV.av, BR.av, hρ], laws_toSheet_fn v36 v37 v38 v39 F' (st_nil hi) ⟨⟨trivial, trivial, trivial, bslc_ok hi (by rw [h0, hρ]; exact rowF32_ok hs (DVs.okAt (DVs.okAt ha 0 rfl) 3 rfl) hv39), trivial⟩, trivial⟩ hy⟩) rfl rfl
  · cases hr
/-! laws.toSheetS -/
noncomputable def laws_toSheetS_l0_T (v31 : List ByteArray) (v32 : List Int) (v33 : List Int) (v34 : List (List Nat)) (s : Int × (List ByteArray) × (List Int) × (List Int) × (List (List Nat)) × (List Nat)) : Tree ((Int × (List ByteArray) × (List Int) × (List Int) × (List (List Nat)) × (List Nat)) ⊕ ((List ByteArray) × (List Int) × (List Int) × (List (List Nat)) × (List Nat))) :=
  (.br (decide (s.1 < ((v31.length : Nat) : Int))) (
  (.grd (inb s.1 v31.length) <|
  (.call (laws_toSheet_g (nth v31 (Int.toNat s.1)) (nth v32 (Int.toNat s.1)) (nth v33 (Int.toNat s.1)) (nth v34 (Int.toNat s.1))) fun v66 =>
  (.grd (inb s.1 ((s.2.1).length)) <|
  .leaf (.inl (IntKind.i64.wrap (s.1 + (1 : Int)), List.set s.2.1 (Int.toNat s.1) v66.1, List.set s.2.2.1 (Int.toNat s.1) v66.2.1, List.set s.2.2.2.1 (Int.toNat s.1) v66.2.2.1, s.2.2.2.2.1 ++ [v66.2.2.2], List.set s.2.2.2.2.2 (Int.toNat s.1) (s.2.2.2.2.1.length + 1))))))
  ) (
  .leaf (.inr (s.2.1, s.2.2.1, s.2.2.2.1, s.2.2.2.2.1, s.2.2.2.2.2))
  ))

noncomputable def laws_toSheetS_l0_g (v31 : List ByteArray) (v32 : List Int) (v33 : List Int) (v34 : List (List Nat)) (s0 : Int × (List ByteArray) × (List Int) × (List Int) × (List (List Nat)) × (List Nat)) : Option ((List ByteArray) × (List Int) × (List Int) × (List (List Nat)) × (List Nat)) := whileM (fun s => (laws_toSheetS_l0_T v31 v32 v33 v34 s).run) s0
def laws_toSheetS_l0_E (v31 : List ByteArray) (v32 : List Int) (v33 : List Int) (v34 : List (List Nat)) (s : Int × (List ByteArray) × (List Int) × (List Int) × (List (List Nat)) × (List Nat)) : Sd := ([.rns 0 [.pl (.str v31), .pl (.i64 v32), .pl (.i64 v33), .sl (.f32 v34)],tp,tp,.nest 0 0 4 ((s.2.1).length),.int .i64 s.1,tp,tp,tp,tp,tp,tp,tp,tp,tp,tp,tp,tp,tp,tp,tp,tp,tp,tp], [.nest [.pl (.str s.2.1), .pl (.i64 s.2.2.1), .pl (.i64 s.2.2.2.1), .sl (.f32 s.2.2.2.2.1) s.2.2.2.2.2] false 0])
def laws_toSheetS_l0_X (v31 : List ByteArray) (v32 : List Int) (v33 : List Int) (v34 : List (List Nat)) (x : (List ByteArray) × (List Int) × (List Int) × (List (List Nat)) × (List Nat)) : Out := (.normal, [tp,tp,tp,.nest 0 0 4 ((x.1).length),tp,tp,tp,tp,tp,tp,tp,tp,tp,tp,tp,tp,tp,tp,tp,tp,tp,tp,tp], [.nest [.pl (.str x.1), .pl (.i64 x.2.1), .pl (.i64 x.2.2.1), .sl (.f32 x.2.2.2.1) x.2.2.2.2] false 0])
def laws_toSheetS_l0_kill : List Nat := KL true [0,1,2,2,18]
def laws_toSheetS_l0_nx : Exit → List Nat
  | .exit 0 => KL true [3,1,19]
  | .ret => KL true [2,1,20]
  | _ => []
noncomputable def laws_toSheetS_LO (v31 : List ByteArray) (v32 : List Int) (v33 : List Int) (v34 : List (List Nat)) : LOr := fun id e L =>
  match id with
  | 0 => .need (normA 0 laws_toSheetS_l0_kill e L = some (laws_toSheetS_l0_E v31 v32 v33 v34 ((gI (vAt e 4)), (gCS L (vAt e 3) 0), (gCI L (vAt e 3) 1), (gCI L (vAt e 3) 2), (gPF L (vAt e 3) 3), (gX L (vAt e 3) 3)))) (.call (laws_toSheetS_l0_g v31 v32 v33 v34 ((gI (vAt e 4)), (gCS L (vAt e 3) 0), (gCI L (vAt e 3) 1), (gCI L (vAt e 3) 2), (gPF L (vAt e 3) 3), (gX L (vAt e 3) 3))) fun x => .leaf (laws_toSheetS_l0_X v31 v32 v33 v34 x))
  | _ => .fail
noncomputable def laws_toSheetS_tab : List (FuncId × DFn × Bool) := [(11, laws_toSheet_F, true)]
theorem laws_toSheetS_hO : OrcOk Try.prog (tabD laws_toSheetS_tab) (tabM laws_toSheetS_tab) := tabD_cons laws_toSheet_Fok (tabD_nil _)
theorem laws_toSheetS_l0_be (v31 : List ByteArray) (v32 : List Int) (v33 : List Int) (v34 : List (List Nat)) (s : Int × (List ByteArray) × (List Int) × (List Int) × (List (List Nat)) × (List Nat)) : bodyT TT (tabD laws_toSheetS_tab) (tabM laws_toSheetS_tab) (laws_toSheetS_LO v31 v32 v33 v34) 0 laws_toSheetS_l0_kill laws_toSheetS_l0_nx (bodyOf Try.f20 0) 0 (laws_toSheetS_l0_E v31 v32 v33 v34 s) = (laws_toSheetS_l0_T v31 v32 v33 v34 s).bind fun y => .leaf (outS (laws_toSheetS_l0_E v31 v32 v33 v34) (laws_toSheetS_l0_X v31 v32 v33 v34) y) := by kernel_rfl
theorem laws_toSheetS_l0_ok (v31 : List ByteArray) (v32 : List Int) (v33 : List Int) (v34 : List (List Nat)) : LSound Try.prog 0 (laws_toSheetS_LO v31 v32 v33 v34) 0 (bodyOf Try.f20 0) := by
  intro e L out h
  exact lo_ok (E := laws_toSheetS_l0_E v31 v32 v33 v34) (gT := laws_toSheetS_l0_T v31 v32 v33 v34) (X := laws_toSheetS_l0_X v31 v32 v33 v34) (s0 := ((gI (vAt e 4)), (gCS L (vAt e 3) 0), (gCI L (vAt e 3) 1), (gCI L (vAt e 3) 2), (gPF L (vAt e 3) 3), (gX L (vAt e 3) 3))) tok laws_toSheetS_hO mixed (LoopsOk_eq (l := []) (by kernel_rfl) trivial) (laws_toSheetS_l0_be v31 v32 v33 v34) rfl (by intro x; rfl) h
noncomputable def laws_toSheetS_T (v31 : List ByteArray) (v32 : List Int) (v33 : List Int) (v34 : List (List Nat)) : Tree ((List ByteArray) × (List Int) × (List Int) × (List (List Nat)) × (List Nat)) :=
  (.need (((v31.length : Nat) : Int) = ((v31.length : Nat) : Int)) <|
  (.grd (inb ((v31.length : Nat) : Int) (maxN + 1)) <|
  (.need (some (laws_toSheetS_l0_E v31 v32 v33 v34 ((0 : Int), List.replicate (Int.toNat ((v31.length : Nat) : Int)) ByteArray.empty, List.replicate (Int.toNat ((v31.length : Nat) : Int)) (0 : Int), List.replicate (Int.toNat ((v31.length : Nat) : Int)) (0 : Int), ([] : List (List Nat)), List.replicate (Int.toNat ((v31.length : Nat) : Int)) (0 : Nat))) = some (laws_toSheetS_l0_E v31 v32 v33 v34 ((0 : Int), List.replicate (Int.toNat ((v31.length : Nat) : Int)) ByteArray.empty, List.replicate (Int.toNat ((v31.length : Nat) : Int)) (0 : Int), List.replicate (Int.toNat ((v31.length : Nat) : Int)) (0 : Int), ([] : List (List Nat)), List.replicate (Int.toNat ((v31.length : Nat) : Int)) (0 : Nat)))) <|
  (.call (laws_toSheetS_l0_g v31 v32 v33 v34 ((0 : Int), List.replicate (Int.toNat ((v31.length : Nat) : Int)) ByteArray.empty, List.replicate (Int.toNat ((v31.length : Nat) : Int)) (0 : Int), List.replicate (Int.toNat ((v31.length : Nat) : Int)) (0 : Int), ([] : List (List Nat)), List.replicate (Int.toNat ((v31.length : Nat) : Int)) (0 : Nat))) fun v67 =>
  .leaf (v67.1, v67.2.1, v67.2.2.1, v67.2.2.2.1, v67.2.2.2.2)))))

noncomputable def laws_toSheetS_g (v31 : List ByteArray) (v32 : List Int) (v33 : List Int) (v34 : List (List Nat)) : Option ((List ByteArray) × (List Int) × (List Int) × (List (List Nat)) × (List Nat)) := (laws_toSheetS_T v31 v32 v33 v34).run
def laws_toSheetS_enc (v31 : List ByteArray) (v32 : List Int) (v33 : List Int) (v34 : List (List Nat)) (y : (List ByteArray) × (List Int) × (List Int) × (List (List Nat)) × (List Nat)) : Rs := (.nest 0 0 4 ((y.1).length), [.nest [.pl (.str y.1), .pl (.i64 y.2.1), .pl (.i64 y.2.2.1), .sl (.f32 y.2.2.2.1) y.2.2.2.2] false 0])
theorem laws_toSheetS_den (v31 : List ByteArray) (v32 : List Int) (v33 : List Int) (v34 : List (List Nat)) : (den TT (tabD laws_toSheetS_tab) (tabM laws_toSheetS_tab) (laws_toSheetS_LO v31 v32 v33 v34) (codeOf Try.f20) ([.rns 0 [.pl (.str v31), .pl (.i64 v32), .pl (.i64 v33), .sl (.f32 v34)]] ++ List.replicate (Try.f20.ntmps - ([.rns 0 [.pl (.str v31), .pl (.i64 v32), .pl (.i64 v33), .sl (.f32 v34)]] : List DV).length) .undef) []).bind (retD TT Try.f20.results.toList 0) = (laws_toSheetS_T v31 v32 v33 v34).bind fun y => .leaf (laws_toSheetS_enc v31 v32 v33 v34 y) := by kernel_rfl
theorem laws_toSheetS_fn (v31 : List ByteArray) (v32 : List Int) (v33 : List Int) (v34 : List (List Nat)) (F : Fr) (h0 : St F [] F.H0) (hA : DVs.Ok F [] [.rns 0 [.pl (.str v31), .pl (.i64 v32), .pl (.i64 v33), .sl (.f32 v34)]]) {y : (List ByteArray) × (List Int) × (List Int) × (List (List Nat)) × (List Nat)} (hy : laws_toSheetS_g v31 v32 v33 v34 = some y) : ∃ F' H', Fwd 0 F F' [] (laws_toSheetS_enc v31 v32 v33 v34 y).2 ∧ FnOk Try.prog 20 (DVs.av F [.rns 0 [.pl (.str v31), .pl (.i64 v32), .pl (.i64 v33), .sl (.f32 v34)]]) F.H0 ((laws_toSheetS_enc v31 v32 v33 v34 y).1.av F') H' ∧ St F' (laws_toSheetS_enc v31 v32 v33 v34 y).2 H' ∧ (laws_toSheetS_enc v31 v32 v33 v34 y).1.Ok F' (laws_toSheetS_enc v31 v32 v33 v34 y).2 :=
  fn_fin tok laws_toSheetS_hO mixed Try.func20 Try.call20 (by kernel_rfl) (LoopsOk_eq (l := [(0, bodyOf Try.f20 0)]) (by kernel_rfl) ⟨laws_toSheetS_l0_ok v31 v32 v33 v34, trivial⟩) (laws_toSheetS_den v31 v32 v33 v34) hy h0 hA
noncomputable def laws_toSheetS_F : DFn := fun args L =>
  match args with
  | [a1] =>
    optT (rnsV a1) fun qr0 =>
    (match qr0.2 with
    | [.pl (.str v31), .pl (.i64 v32), .pl (.i64 v33), .sl (.f32 v34)] =>
    .call (laws_toSheetS_g v31 v32 v33 v34) fun y => .leaf (.nest (L.length + 0) 0 4 ((y.1).length), L ++ [.nest [.pl (.str y.1), .pl (.i64 y.2.1), .pl (.i64 y.2.2.1), .sl (.f32 y.2.2.2.1) y.2.2.2.2] false 0])
    | _ => .fail)
  | _ => .fail
theorem laws_toSheetS_Fok : COk Try.prog 20 laws_toSheetS_F true := by
  intro F L H args r L' hs ha hr
  unfold laws_toSheetS_F at hr
  split at hr
  · rename_i a1
    obtain ⟨⟨nr0, cr0⟩, hv0, hr⟩ := optT_run hr
    simp only at hr
    split at hr
    · rename_i v31 v32 v33 v34
      have hrn0 := rnsV_ok hs (DVs.okAt ha 0 rfl) hv0
      have hra0 := rnsV_av (F := F) hv0
      simp only [Tree.run] at hr
      obtain ⟨y, hy, hr⟩ := Option.bind_eq_some_iff.1 hr
      simp only [Tree.run, Option.some.injEq, Prod.mk.injEq] at hr
      obtain ⟨rfl, rfl⟩ := hr
      exact call_ok1 hs (fun k => (([a1.av F] : List AV)[k]?).getD (F.ρ (k - 0 + nr0))) [a1] [.rns 0 [.pl (.str v31), .pl (.i64 v32), .pl (.i64 v33), .sl (.f32 v34)]] (fun F' h0 hi hρ => ⟨by simp [DVs.av, DV.av, BR.av, hρ], laws_toSheetS_fn v31 v32 v33 v34 F' (st_nil hi) ⟨(rns_ok (n := nr0) hi (by rw [h0]; exact hrn0) (by rw [hρ]; exact hra0) fun m => by rw [hρ]; exact (rho_far (g := fun k => F.ρ (k - 0 + nr0)) (by simp <;> omega)).trans (congrArg F.ρ (by omega))), trivial⟩ hy⟩) rfl rfl
    · cases hr
  · cases hr
/-! spec.l07Name -/
noncomputable def spec_l07Name_l0_T (v80 : ByteArray) (s : Int) : Tree ((Int) ⊕ ((Unit) ⊕ (Unit))) :=
  (.br (decide (s < ((v80.size : Nat) : Int))) (
  (.grd (inb s v80.size) <|
  (.br (decide (bt v80 s < (97 : Int))) (
  .leaf (.inr (.inl ()))
  ) (
  (.grd (inb s v80.size) <|
  (.br (decide ((122 : Int) < bt v80 s)) (
  .leaf (.inr (.inl ()))
  ) (
  .leaf (.inl (IntKind.i64.wrap (s + (1 : Int))))
  )))
  )))
  ) (
  .leaf (.inr (.inr ()))
  ))

noncomputable def spec_l07Name_l0_g (v80 : ByteArray) (s0 : Int) : Option ((Unit) ⊕ (Unit)) := whileM (fun s => (spec_l07Name_l0_T v80 s).run) s0
def spec_l07Name_l0_E (v80 : ByteArray) (s : Int) : Sd := ([.str v80,tp,tp,.int .i64 s,tp,tp,tp,tp,tp,tp,tp,tp,tp,tp,tp,tp,tp,tp,tp,tp,tp,tp,tp,tp,tp,tp,tp,tp], [])
def spec_l07Name_l0_X (v80 : ByteArray) (x : (Unit) ⊕ (Unit)) : Out := (match x with | .inl x => (.ret, [tp,tp,.lit false,tp,tp,tp,tp,tp,tp,tp,tp,tp,tp,tp,tp,tp,tp,tp,tp,tp,tp,tp,tp,tp,tp,tp,tp,tp], []) | .inr x => (.normal, [.str v80,tp,tp,tp,tp,tp,tp,tp,tp,tp,tp,tp,tp,tp,tp,tp,tp,tp,tp,tp,tp,tp,tp,tp,tp,tp,tp,tp], []))
def spec_l07Name_l0_kill : List Nat := KL true [0,1,2,1,24]
def spec_l07Name_l0_nx : Exit → List Nat
  | .exit 0 => KL true [0,1,27]
  | .ret => KL true [2,1,25]
  | _ => []
noncomputable def spec_l07Name_LO (v80 : ByteArray) : LOr := fun id e L =>
  match id with
  | 0 => .need (normA 0 spec_l07Name_l0_kill e L = some (spec_l07Name_l0_E v80 (gI (vAt e 3)))) (.call (spec_l07Name_l0_g v80 (gI (vAt e 3))) fun x => .sum x (fun b0 => .leaf (spec_l07Name_l0_X v80 (.inl b0))) (fun c0 => .leaf (spec_l07Name_l0_X v80 (.inr c0))))
  | _ => .fail
noncomputable def spec_l07Name_tab : List (FuncId × DFn × Bool) := []
theorem spec_l07Name_hO : OrcOk Try.prog (tabD spec_l07Name_tab) (tabM spec_l07Name_tab) := tabD_nil _
theorem spec_l07Name_l0_be (v80 : ByteArray) (s : Int) : bodyT TT (tabD spec_l07Name_tab) (tabM spec_l07Name_tab) (spec_l07Name_LO v80) 0 spec_l07Name_l0_kill spec_l07Name_l0_nx (bodyOf Try.f60 0) 0 (spec_l07Name_l0_E v80 s) = (spec_l07Name_l0_T v80 s).bind fun y => .leaf (outS (spec_l07Name_l0_E v80) (spec_l07Name_l0_X v80) y) := by kernel_rfl
theorem spec_l07Name_l0_ok (v80 : ByteArray) : LSound Try.prog 0 (spec_l07Name_LO v80) 0 (bodyOf Try.f60 0) := by
  intro e L out h
  exact lo_ok (E := spec_l07Name_l0_E v80) (gT := spec_l07Name_l0_T v80) (X := spec_l07Name_l0_X v80) (s0 := (gI (vAt e 3))) tok spec_l07Name_hO mixed (LoopsOk_eq (l := []) (by kernel_rfl) trivial) (spec_l07Name_l0_be v80) rfl (by intro x; (cases x with | inl b => rfl | inr x => exact rfl)) h
noncomputable def spec_l07Name_T (v80 : ByteArray) : Tree (Bool) :=
  (.need (some (spec_l07Name_l0_E v80 (0 : Int)) = some (spec_l07Name_l0_E v80 (0 : Int))) <|
  (.call (spec_l07Name_l0_g v80 (0 : Int)) fun v84 =>
  (.sum v84 (fun v85 =>
  .leaf false
  ) (fun v86 =>
  (.br (decide ((1 : Int) ≤ ((v80.size : Nat) : Int))) (
  .leaf (decide (((v80.size : Nat) : Int) ≤ (8 : Int)))
  ) (
  .leaf false
  ))
  ))))

noncomputable def spec_l07Name_g (v80 : ByteArray) : Option (Bool) := (spec_l07Name_T v80).run
def spec_l07Name_enc (v80 : ByteArray) (y : Bool) : Rs := (.bool y, [])
theorem spec_l07Name_den (v80 : ByteArray) : (den TT (tabD spec_l07Name_tab) (tabM spec_l07Name_tab) (spec_l07Name_LO v80) (codeOf Try.f60) ([.str v80] ++ List.replicate (Try.f60.ntmps - ([.str v80] : List DV).length) .undef) []).bind (retD TT Try.f60.results.toList 0) = (spec_l07Name_T v80).bind fun y => .leaf (spec_l07Name_enc v80 y) := by kernel_rfl
theorem spec_l07Name_fn (v80 : ByteArray) (F : Fr) (h0 : St F [] F.H0) (hA : DVs.Ok F [] [.str v80]) {y : Bool} (hy : spec_l07Name_g v80 = some y) : ∃ F' H', Fwd 0 F F' [] (spec_l07Name_enc v80 y).2 ∧ FnOk Try.prog 60 (DVs.av F [.str v80]) F.H0 ((spec_l07Name_enc v80 y).1.av F') H' ∧ St F' (spec_l07Name_enc v80 y).2 H' ∧ (spec_l07Name_enc v80 y).1.Ok F' (spec_l07Name_enc v80 y).2 :=
  fn_fin tok spec_l07Name_hO mixed Try.func60 Try.call60 (by kernel_rfl) (LoopsOk_eq (l := [(0, bodyOf Try.f60 0)]) (by kernel_rfl) ⟨spec_l07Name_l0_ok v80, trivial⟩) (spec_l07Name_den v80) hy h0 hA
noncomputable def spec_l07Name_F : DFn := fun args L =>
  match args with
  | [.str v80] =>
    .call (spec_l07Name_g v80) fun y => .leaf (.bool y, L)
  | _ => .fail
theorem spec_l07Name_Fok : COk Try.prog 60 spec_l07Name_F true := by
  intro F L H args r L' hs ha hr
  unfold spec_l07Name_F at hr
  split at hr
  · rename_i v80
    simp only [Tree.run] at hr
    obtain ⟨y, hy, hr⟩ := Option.bind_eq_some_iff.1 hr
    simp only [Tree.run, Option.some.injEq, Prod.mk.injEq] at hr
    obtain ⟨rfl, rfl⟩ := hr
    exact call_ok0 hs (fun k => (([] : List AV)[k]?).getD .top) [.str v80] [.str v80] (fun F' h0 hi hρ => ⟨by simp [DVs.av, DV.av, BR.av, hρ], spec_l07Name_fn v80 F' (st_nil hi) ⟨trivial, trivial⟩ hy⟩) rfl
  · cases hr
/-! spec.l00In -/
noncomputable def spec_l00In_LO (v93 : Int) (v94 : Int) (v95 : Int) : LOr := fun id e L =>
  match id with
  | _ => .fail
noncomputable def spec_l00In_tab : List (FuncId × DFn × Bool) := []
theorem spec_l00In_hO : OrcOk Try.prog (tabD spec_l00In_tab) (tabM spec_l00In_tab) := tabD_nil _
noncomputable def spec_l00In_T (v93 : Int) (v94 : Int) (v95 : Int) : Tree (Bool) :=
  (.br (decide (v94 ≤ v93)) (
  .leaf (decide (v93 ≤ v95))
  ) (
  .leaf false
  ))

noncomputable def spec_l00In_g (v93 : Int) (v94 : Int) (v95 : Int) : Option (Bool) := (spec_l00In_T v93 v94 v95).run
def spec_l00In_enc (v93 : Int) (v94 : Int) (v95 : Int) (y : Bool) : Rs := (.bool y, [])
theorem spec_l00In_den (v93 : Int) (v94 : Int) (v95 : Int) : (den TT (tabD spec_l00In_tab) (tabM spec_l00In_tab) (spec_l00In_LO v93 v94 v95) (codeOf Try.f92) ([.int .i64 v93, .int .i64 v94, .int .i64 v95] ++ List.replicate (Try.f92.ntmps - ([.int .i64 v93, .int .i64 v94, .int .i64 v95] : List DV).length) .undef) []).bind (retD TT Try.f92.results.toList 0) = (spec_l00In_T v93 v94 v95).bind fun y => .leaf (spec_l00In_enc v93 v94 v95 y) := by kernel_rfl
theorem spec_l00In_fn (v93 : Int) (v94 : Int) (v95 : Int) (F : Fr) (h0 : St F [] F.H0) (hA : DVs.Ok F [] [.int .i64 v93, .int .i64 v94, .int .i64 v95]) {y : Bool} (hy : spec_l00In_g v93 v94 v95 = some y) : ∃ F' H', Fwd 0 F F' [] (spec_l00In_enc v93 v94 v95 y).2 ∧ FnOk Try.prog 92 (DVs.av F [.int .i64 v93, .int .i64 v94, .int .i64 v95]) F.H0 ((spec_l00In_enc v93 v94 v95 y).1.av F') H' ∧ St F' (spec_l00In_enc v93 v94 v95 y).2 H' ∧ (spec_l00In_enc v93 v94 v95 y).1.Ok F' (spec_l00In_enc v93 v94 v95 y).2 :=
  fn_fin tok spec_l00In_hO mixed Try.func92 Try.call92 (by kernel_rfl) (LoopsOk_eq (l := []) (by kernel_rfl) trivial) (spec_l00In_den v93 v94 v95) hy h0 hA
def spec_l00In_v (v93 : Int) (v94 : Int) (v95 : Int) : Bool :=
  if (decide (v94 ≤ v93)) = true then (
  decide (v93 ≤ v95)
  ) else (
  false
  )
theorem spec_l00In_tot (v93 : Int) (v94 : Int) (v95 : Int) : spec_l00In_g v93 v94 v95 = some (spec_l00In_v v93 v94 v95) := by
  unfold spec_l00In_g spec_l00In_T spec_l00In_v
  simp only [Tree.run]
  repeat' (first | rfl | split)
noncomputable def spec_l00In_F : DFn := fun args L =>
  match args with
  | [.int .i64 v93, .int .i64 v94, .int .i64 v95] =>
    .leaf (.bool (spec_l00In_v v93 v94 v95), L)
  | _ => .fail
theorem spec_l00In_Fok : COk Try.prog 92 spec_l00In_F true := by
  intro F L H args r L' hs ha hr
  unfold spec_l00In_F at hr
  split at hr
  · rename_i v93 v94 v95
    have hy := spec_l00In_tot v93 v94 v95
    generalize spec_l00In_v v93 v94 v95 = y at hy hr
    simp only [Tree.run, Option.some.injEq, Prod.mk.injEq] at hr
    obtain ⟨rfl, rfl⟩ := hr
    exact call_ok0 hs (fun k => (([] : List AV)[k]?).getD .top) [.int .i64 v93, .int .i64 v94, .int .i64 v95] [.int .i64 v93, .int .i64 v94, .int .i64 v95] (fun F' h0 hi hρ => ⟨by simp [DVs.av, DV.av, BR.av, hρ], spec_l00In_fn v93 v94 v95 F' (st_nil hi) ⟨trivial, trivial, trivial, trivial⟩ hy⟩) rfl
  · cases hr
/-! spec.l02Sides -/
noncomputable def spec_l02Sides_LO (v91 : Int) (v92 : Int) : LOr := fun id e L =>
  match id with
  | _ => .fail
noncomputable def spec_l02Sides_tab : List (FuncId × DFn × Bool) := [(92, spec_l00In_F, true)]
theorem spec_l02Sides_hO : OrcOk Try.prog (tabD spec_l02Sides_tab) (tabM spec_l02Sides_tab) := tabD_cons spec_l00In_Fok (tabD_nil _)
noncomputable def spec_l02Sides_T (v91 : Int) (v92 : Int) : Tree (Bool) :=
  (.br (spec_l00In_v v91 (1 : Int) (12 : Int)) (
  .leaf (spec_l00In_v v92 (1 : Int) (12 : Int))
  ) (
  .leaf false
  ))

noncomputable def spec_l02Sides_g (v91 : Int) (v92 : Int) : Option (Bool) := (spec_l02Sides_T v91 v92).run
def spec_l02Sides_enc (v91 : Int) (v92 : Int) (y : Bool) : Rs := (.bool y, [])
theorem spec_l02Sides_den (v91 : Int) (v92 : Int) : (den TT (tabD spec_l02Sides_tab) (tabM spec_l02Sides_tab) (spec_l02Sides_LO v91 v92) (codeOf Try.f82) ([.int .i64 v91, .int .i64 v92] ++ List.replicate (Try.f82.ntmps - ([.int .i64 v91, .int .i64 v92] : List DV).length) .undef) []).bind (retD TT Try.f82.results.toList 0) = (spec_l02Sides_T v91 v92).bind fun y => .leaf (spec_l02Sides_enc v91 v92 y) := by kernel_rfl
theorem spec_l02Sides_fn (v91 : Int) (v92 : Int) (F : Fr) (h0 : St F [] F.H0) (hA : DVs.Ok F [] [.int .i64 v91, .int .i64 v92]) {y : Bool} (hy : spec_l02Sides_g v91 v92 = some y) : ∃ F' H', Fwd 0 F F' [] (spec_l02Sides_enc v91 v92 y).2 ∧ FnOk Try.prog 82 (DVs.av F [.int .i64 v91, .int .i64 v92]) F.H0 ((spec_l02Sides_enc v91 v92 y).1.av F') H' ∧ St F' (spec_l02Sides_enc v91 v92 y).2 H' ∧ (spec_l02Sides_enc v91 v92 y).1.Ok F' (spec_l02Sides_enc v91 v92 y).2 :=
  fn_fin tok spec_l02Sides_hO mixed Try.func82 Try.call82 (by kernel_rfl) (LoopsOk_eq (l := []) (by kernel_rfl) trivial) (spec_l02Sides_den v91 v92) hy h0 hA
def spec_l02Sides_v (v91 : Int) (v92 : Int) : Bool :=
  if (spec_l00In_v v91 (1 : Int) (12 : Int)) = true then (
  (spec_l00In_v v92 (1 : Int) (12 : Int))
  ) else (
  false
  )
theorem spec_l02Sides_tot (v91 : Int) (v92 : Int) : spec_l02Sides_g v91 v92 = some (spec_l02Sides_v v91 v92) := by
  unfold spec_l02Sides_g spec_l02Sides_T spec_l02Sides_v
  simp only [Tree.run]
  repeat' (first | rfl | split)
noncomputable def spec_l02Sides_F : DFn := fun args L =>
  match args with
  | [.int .i64 v91, .int .i64 v92] =>
    .leaf (.bool (spec_l02Sides_v v91 v92), L)
  | _ => .fail
theorem spec_l02Sides_Fok : COk Try.prog 82 spec_l02Sides_F true := by
  intro F L H args r L' hs ha hr
  unfold spec_l02Sides_F at hr
  split at hr
  · rename_i v91 v92
    have hy := spec_l02Sides_tot v91 v92
    generalize spec_l02Sides_v v91 v92 = y at hy hr
    simp only [Tree.run, Option.some.injEq, Prod.mk.injEq] at hr
    obtain ⟨rfl, rfl⟩ := hr
    exact call_ok0 hs (fun k => (([] : List AV)[k]?).getD .top) [.int .i64 v91, .int .i64 v92] [.int .i64 v91, .int .i64 v92] (fun F' h0 hi hρ => ⟨by simp [DVs.av, DV.av, BR.av, hρ], spec_l02Sides_fn v91 v92 F' (st_nil hi) ⟨trivial, trivial, trivial⟩ hy⟩) rfl
  · cases hr
/-! spec.l01Finite -/
noncomputable def spec_l01Finite_LO (v98 : Nat) : LOr := fun id e L =>
  match id with
  | _ => .fail
noncomputable def spec_l01Finite_tab : List (FuncId × DFn × Bool) := []
theorem spec_l01Finite_hO : OrcOk Try.prog (tabD spec_l01Finite_tab) (tabM spec_l01Finite_tab) := tabD_nil _
noncomputable def spec_l01Finite_T (v98 : Nat) : Tree (Bool) :=
  .leaf (feq .f32 (fsub .f32 v98 v98) (0 : Nat))

noncomputable def spec_l01Finite_g (v98 : Nat) : Option (Bool) := (spec_l01Finite_T v98).run
def spec_l01Finite_enc (v98 : Nat) (y : Bool) : Rs := (.bool y, [])
theorem spec_l01Finite_den (v98 : Nat) : (den TT (tabD spec_l01Finite_tab) (tabM spec_l01Finite_tab) (spec_l01Finite_LO v98) (codeOf Try.f93) ([.flt .f32 v98] ++ List.replicate (Try.f93.ntmps - ([.flt .f32 v98] : List DV).length) .undef) []).bind (retD TT Try.f93.results.toList 0) = (spec_l01Finite_T v98).bind fun y => .leaf (spec_l01Finite_enc v98 y) := by kernel_rfl
theorem spec_l01Finite_fn (v98 : Nat) (F : Fr) (h0 : St F [] F.H0) (hA : DVs.Ok F [] [.flt .f32 v98]) {y : Bool} (hy : spec_l01Finite_g v98 = some y) : ∃ F' H', Fwd 0 F F' [] (spec_l01Finite_enc v98 y).2 ∧ FnOk Try.prog 93 (DVs.av F [.flt .f32 v98]) F.H0 ((spec_l01Finite_enc v98 y).1.av F') H' ∧ St F' (spec_l01Finite_enc v98 y).2 H' ∧ (spec_l01Finite_enc v98 y).1.Ok F' (spec_l01Finite_enc v98 y).2 :=
  fn_fin tok spec_l01Finite_hO mixed Try.func93 Try.call93 (by kernel_rfl) (LoopsOk_eq (l := []) (by kernel_rfl) trivial) (spec_l01Finite_den v98) hy h0 hA
def spec_l01Finite_v (v98 : Nat) : Bool :=
  feq .f32 (fsub .f32 v98 v98) (0 : Nat)
theorem spec_l01Finite_tot (v98 : Nat) : spec_l01Finite_g v98 = some (spec_l01Finite_v v98) := by
  unfold spec_l01Finite_g spec_l01Finite_T spec_l01Finite_v
  simp only [Tree.run]
  repeat' (first | rfl | split)
noncomputable def spec_l01Finite_F : DFn := fun args L =>
  match args with
  | [.flt .f32 v98] =>
    .leaf (.bool (spec_l01Finite_v v98), L)
  | _ => .fail
theorem spec_l01Finite_Fok : COk Try.prog 93 spec_l01Finite_F true := by
  intro F L H args r L' hs ha hr
  unfold spec_l01Finite_F at hr
  split at hr
  · rename_i v98
    have hy := spec_l01Finite_tot v98
    generalize spec_l01Finite_v v98 = y at hy hr
    simp only [Tree.run, Option.some.injEq, Prod.mk.injEq] at hr
    obtain ⟨rfl, rfl⟩ := hr
    exact call_ok0 hs (fun k => (([] : List AV)[k]?).getD .top) [.flt .f32 v98] [.flt .f32 v98] (fun F' h0 hi hρ => ⟨by simp [DVs.av, DV.av, BR.av, hρ], spec_l01Finite_fn v98 F' (st_nil hi) ⟨trivial, trivial⟩ hy⟩) rfl
  · cases hr
/-! spec.l02Finite -/
noncomputable def spec_l02Finite_l0_T (v96 : List Nat) (s : Int) : Tree ((Int) ⊕ ((Unit) ⊕ (Unit))) :=
  (.br (decide (s < ((v96.length : Nat) : Int))) (
  (.grd (inb s v96.length) <|
  (.br (!(spec_l01Finite_v (nth v96 (Int.toNat s)))) (
  .leaf (.inr (.inl ()))
  ) (
  .leaf (.inl (IntKind.i64.wrap (s + (1 : Int))))
  )))
  ) (
  .leaf (.inr (.inr ()))
  ))

noncomputable def spec_l02Finite_l0_g (v96 : List Nat) (s0 : Int) : Option ((Unit) ⊕ (Unit)) := whileM (fun s => (spec_l02Finite_l0_T v96 s).run) s0
def spec_l02Finite_l0_E (v96 : List Nat) (s : Int) : Sd := ([.bslc (BR.root 0) (.f32 v96),tp,tp,.int .i64 s,tp,tp,tp,tp,tp,tp,tp,tp,tp,tp,tp,tp], [])
def spec_l02Finite_l0_X (v96 : List Nat) (x : (Unit) ⊕ (Unit)) : Out := (match x with | .inl x => (.ret, [tp,tp,.lit false,tp,tp,tp,tp,tp,tp,tp,tp,tp,tp,tp,tp,tp], []) | .inr x => (.normal, [tp,tp,tp,tp,tp,tp,tp,tp,tp,tp,tp,tp,tp,tp,tp,tp], []))
def spec_l02Finite_l0_kill : List Nat := KL true [0,1,2,1,12]
def spec_l02Finite_l0_nx : Exit → List Nat
  | .exit 0 => KL true [16]
  | .ret => KL true [2,1,13]
  | _ => []
noncomputable def spec_l02Finite_LO (v96 : List Nat) : LOr := fun id e L =>
  match id with
  | 0 => .need (normA 0 spec_l02Finite_l0_kill e L = some (spec_l02Finite_l0_E v96 (gI (vAt e 3)))) (.call (spec_l02Finite_l0_g v96 (gI (vAt e 3))) fun x => .sum x (fun b0 => .leaf (spec_l02Finite_l0_X v96 (.inl b0))) (fun c0 => .leaf (spec_l02Finite_l0_X v96 (.inr c0))))
  | _ => .fail
noncomputable def spec_l02Finite_tab : List (FuncId × DFn × Bool) := [(93, spec_l01Finite_F, true)]
theorem spec_l02Finite_hO : OrcOk Try.prog (tabD spec_l02Finite_tab) (tabM spec_l02Finite_tab) := tabD_cons spec_l01Finite_Fok (tabD_nil _)
theorem spec_l02Finite_l0_be (v96 : List Nat) (s : Int) : bodyT TT (tabD spec_l02Finite_tab) (tabM spec_l02Finite_tab) (spec_l02Finite_LO v96) 0 spec_l02Finite_l0_kill spec_l02Finite_l0_nx (bodyOf Try.f83 0) 0 (spec_l02Finite_l0_E v96 s) = (spec_l02Finite_l0_T v96 s).bind fun y => .leaf (outS (spec_l02Finite_l0_E v96) (spec_l02Finite_l0_X v96) y) := by kernel_rfl
theorem spec_l02Finite_l0_ok (v96 : List Nat) : LSound Try.prog 0 (spec_l02Finite_LO v96) 0 (bodyOf Try.f83 0) := by
  intro e L out h
  exact lo_ok (E := spec_l02Finite_l0_E v96) (gT := spec_l02Finite_l0_T v96) (X := spec_l02Finite_l0_X v96) (s0 := (gI (vAt e 3))) tok spec_l02Finite_hO mixed (LoopsOk_eq (l := []) (by kernel_rfl) trivial) (spec_l02Finite_l0_be v96) rfl (by intro x; (cases x with | inl b => rfl | inr x => exact rfl)) h
noncomputable def spec_l02Finite_T (v96 : List Nat) : Tree (Bool) :=
  (.need (some (spec_l02Finite_l0_E v96 (0 : Int)) = some (spec_l02Finite_l0_E v96 (0 : Int))) <|
  (.call (spec_l02Finite_l0_g v96 (0 : Int)) fun v101 =>
  (.sum v101 (fun v102 =>
  .leaf false
  ) (fun v103 =>
  .leaf true
  ))))

noncomputable def spec_l02Finite_g (v96 : List Nat) : Option (Bool) := (spec_l02Finite_T v96).run
def spec_l02Finite_enc (v96 : List Nat) (y : Bool) : Rs := (.bool y, [])
theorem spec_l02Finite_den (v96 : List Nat) : (den TT (tabD spec_l02Finite_tab) (tabM spec_l02Finite_tab) (spec_l02Finite_LO v96) (codeOf Try.f83) ([.bslc (BR.root 0) (.f32 v96)] ++ List.replicate (Try.f83.ntmps - ([.bslc (BR.root 0) (.f32 v96)] : List DV).length) .undef) []).bind (retD TT Try.f83.results.toList 0) = (spec_l02Finite_T v96).bind fun y => .leaf (spec_l02Finite_enc v96 y) := by kernel_rfl
theorem spec_l02Finite_fn (v96 : List Nat) (F : Fr) (h0 : St F [] F.H0) (hA : DVs.Ok F [] [.bslc (BR.root 0) (.f32 v96)]) {y : Bool} (hy : spec_l02Finite_g v96 = some y) : ∃ F' H', Fwd 0 F F' [] (spec_l02Finite_enc v96 y).2 ∧ FnOk Try.prog 83 (DVs.av F [.bslc (BR.root 0) (.f32 v96)]) F.H0 ((spec_l02Finite_enc v96 y).1.av F') H' ∧ St F' (spec_l02Finite_enc v96 y).2 H' ∧ (spec_l02Finite_enc v96 y).1.Ok F' (spec_l02Finite_enc v96 y).2 :=
  fn_fin tok spec_l02Finite_hO mixed Try.func83 Try.call83 (by kernel_rfl) (LoopsOk_eq (l := [(0, bodyOf Try.f83 0)]) (by kernel_rfl) ⟨spec_l02Finite_l0_ok v96, trivial⟩) (spec_l02Finite_den v96) hy h0 hA
noncomputable def spec_l02Finite_F : DFn := fun args L =>
  match args with
  | [a1] =>
    optT (rowF32 L a1) fun v96 =>
    .call (spec_l02Finite_g v96) fun y => .leaf (.bool y, L)
  | _ => .fail
theorem spec_l02Finite_Fok : COk Try.prog 83 spec_l02Finite_F true := by
  intro F L H args r L' hs ha hr
  unfold spec_l02Finite_F at hr
  split at hr
  · rename_i a1
    obtain ⟨v96, hv96, hr⟩ := optT_run hr
    simp only [Tree.run] at hr
    obtain ⟨y, hy, hr⟩ := Option.bind_eq_some_iff.1 hr
    simp only [Tree.run, Option.some.injEq, Prod.mk.injEq] at hr
    obtain ⟨rfl, rfl⟩ := hr
    exact call_ok0 hs (fun k => (([a1.av F] : List AV)[k]?).getD .top) [a1] [.bslc (BR.root 0) (.f32 v96)] (fun F' h0 hi hρ => ⟨by simp [DVs.av, DV.av, BR.av, hρ], spec_l02Finite_fn v96 F' (st_nil hi) ⟨bslc_ok hi (by rw [h0, hρ]; exact rowF32_ok hs (DVs.okAt ha 0 rfl) hv96), trivial⟩ hy⟩) rfl
  · cases hr
/-! spec.l02Is -/
noncomputable def spec_l02Is_LO (v88 : Int) (v89 : Int) (v90 : List Nat) : LOr := fun id e L =>
  match id with
  | _ => .fail
noncomputable def spec_l02Is_tab : List (FuncId × DFn × Bool) := [(82, spec_l02Sides_F, true), (83, spec_l02Finite_F, true)]
theorem spec_l02Is_hO : OrcOk Try.prog (tabD spec_l02Is_tab) (tabM spec_l02Is_tab) := tabD_cons spec_l02Sides_Fok (tabD_cons spec_l02Finite_Fok (tabD_nil _))
noncomputable def spec_l02Is_T (v88 : Int) (v89 : Int) (v90 : List Nat) : Tree (Bool) :=
  (.br (spec_l02Sides_v v88 v89) (
  (.br (decide (((v90.length : Nat) : Int) = IntKind.i64.wrap (v88 * v89))) (
  (.call (spec_l02Finite_g v90) fun v104 =>
  .leaf v104)
  ) (
  .leaf false
  ))
  ) (
  .leaf false
  ))

noncomputable def spec_l02Is_g (v88 : Int) (v89 : Int) (v90 : List Nat) : Option (Bool) := (spec_l02Is_T v88 v89 v90).run
def spec_l02Is_enc (v88 : Int) (v89 : Int) (v90 : List Nat) (y : Bool) : Rs := (.bool y, [])
theorem spec_l02Is_den (v88 : Int) (v89 : Int) (v90 : List Nat) : (den TT (tabD spec_l02Is_tab) (tabM spec_l02Is_tab) (spec_l02Is_LO v88 v89 v90) (codeOf Try.f61) ([.bptr (BR.root 0) [.int .i64 v88, .int .i64 v89, .bslc (BR.root 1) (.f32 v90)]] ++ List.replicate (Try.f61.ntmps - ([.bptr (BR.root 0) [.int .i64 v88, .int .i64 v89, .bslc (BR.root 1) (.f32 v90)]] : List DV).length) .undef) []).bind (retD TT Try.f61.results.toList 0) = (spec_l02Is_T v88 v89 v90).bind fun y => .leaf (spec_l02Is_enc v88 v89 v90 y) := by kernel_rfl
theorem spec_l02Is_fn (v88 : Int) (v89 : Int) (v90 : List Nat) (F : Fr) (h0 : St F [] F.H0) (hA : DVs.Ok F [] [.bptr (BR.root 0) [.int .i64 v88, .int .i64 v89, .bslc (BR.root 1) (.f32 v90)]]) {y : Bool} (hy : spec_l02Is_g v88 v89 v90 = some y) : ∃ F' H', Fwd 0 F F' [] (spec_l02Is_enc v88 v89 v90 y).2 ∧ FnOk Try.prog 61 (DVs.av F [.bptr (BR.root 0) [.int .i64 v88, .int .i64 v89, .bslc (BR.root 1) (.f32 v90)]]) F.H0 ((spec_l02Is_enc v88 v89 v90 y).1.av F') H' ∧ St F' (spec_l02Is_enc v88 v89 v90 y).2 H' ∧ (spec_l02Is_enc v88 v89 v90 y).1.Ok F' (spec_l02Is_enc v88 v89 v90 y).2 :=
  fn_fin tok spec_l02Is_hO mixed Try.func61 Try.call61 (by kernel_rfl) (LoopsOk_eq (l := []) (by kernel_rfl) trivial) (spec_l02Is_den v88 v89 v90) hy h0 hA
noncomputable def spec_l02Is_F : DFn := fun args L =>
  match args with
  | [a1] =>
    optT (cellsOf L 3 a1) fun cs0 =>
    (match cs0 with
    | [.int .i64 v88, .int .i64 v89, a2] =>
    optT (rowF32 L a2) fun v90 =>
    .call (spec_l02Is_g v88 v89 v90) fun y => .leaf (.bool y, L)
    | _ => .fail)
  | _ => .fail
theorem spec_l02Is_Fok : COk Try.prog 61 spec_l02Is_F true := by
  intro F L H args r L' hs ha hr
  unfold spec_l02Is_F at hr
  split at hr
  · rename_i a1
    obtain ⟨cs0, hcp0, hr⟩ := optT_run hr
    split at hr
    · rename_i v88 v89 a2
      obtain ⟨v90, hv90, hr⟩ := optT_run hr
      simp only [Tree.run] at hr
      obtain ⟨y, hy, hr⟩ := Option.bind_eq_some_iff.1 hr
      simp only [Tree.run, Option.some.injEq, Prod.mk.injEq] at hr
      obtain ⟨rfl, rfl⟩ := hr
      exact call_ok0 hs (fun k => (([a1.av F, a2.av F] : List AV)[k]?).getD .top) [a1] [.bptr (BR.root 0) [.int .i64 v88, .int .i64 v89, .bslc (BR.root 1) (.f32 v90)]] (fun F' h0 hi hρ => ⟨by simp [DVs.av, DV.av, BR.av, hρ], spec_l02Is_fn v88 v89 v90 F' (st_nil hi) ⟨bptr_ok hi (by rw [h0]; simpa [DVs.av, DV.av, BR.av, hρ] using (cellsOf_ok hs (DVs.okAt ha 0 rfl) hcp0).1) ⟨trivial, trivial, bslc_ok hi (by rw [h0, hρ]; exact rowF32_ok hs (DVs.okAt (cellsOf_ok hs (DVs.okAt ha 0 rfl) hcp0).2 2 rfl) hv90), trivial⟩, trivial⟩ hy⟩) rfl
    · cases hr
  · cases hr
/-! spec.l07Sheet -/
noncomputable def spec_l07Sheet_LO (v76 : ByteArray) (v77 : Int) (v78 : Int) (v79 : List Nat) : LOr := fun id e L =>
  match id with
  | _ => .fail
noncomputable def spec_l07Sheet_tab : List (FuncId × DFn × Bool) := [(60, spec_l07Name_F, true), (61, spec_l02Is_F, true)]
theorem spec_l07Sheet_hO : OrcOk Try.prog (tabD spec_l07Sheet_tab) (tabM spec_l07Sheet_tab) := tabD_cons spec_l07Name_Fok (tabD_cons spec_l02Is_Fok (tabD_nil _))
noncomputable def spec_l07Sheet_T (v76 : ByteArray) (v77 : Int) (v78 : Int) (v79 : List Nat) : Tree (Bool) :=
  (.call (spec_l07Name_g v76) fun v87 =>
  (.br v87 (
  (.call (spec_l02Is_g v77 v78 v79) fun v105 =>
  .leaf v105)
  ) (
  .leaf false
  )))

noncomputable def spec_l07Sheet_g (v76 : ByteArray) (v77 : Int) (v78 : Int) (v79 : List Nat) : Option (Bool) := (spec_l07Sheet_T v76 v77 v78 v79).run
def spec_l07Sheet_enc (v76 : ByteArray) (v77 : Int) (v78 : Int) (v79 : List Nat) (y : Bool) : Rs := (.bool y, [])
theorem spec_l07Sheet_den (v76 : ByteArray) (v77 : Int) (v78 : Int) (v79 : List Nat) : (den TT (tabD spec_l07Sheet_tab) (tabM spec_l07Sheet_tab) (spec_l07Sheet_LO v76 v77 v78 v79) (codeOf Try.f34) ([.bptr (BR.root 0) [.str v76, .int .i64 v77, .int .i64 v78, .bslc (BR.root 1) (.f32 v79)]] ++ List.replicate (Try.f34.ntmps - ([.bptr (BR.root 0) [.str v76, .int .i64 v77, .int .i64 v78, .bslc (BR.root 1) (.f32 v79)]] : List DV).length) .undef) []).bind (retD TT Try.f34.results.toList 0) = (spec_l07Sheet_T v76 v77 v78 v79).bind fun y => .leaf (spec_l07Sheet_enc v76 v77 v78 v79 y) := by kernel_rfl
theorem spec_l07Sheet_fn (v76 : ByteArray) (v77 : Int) (v78 : Int) (v79 : List Nat) (F : Fr) (h0 : St F [] F.H0) (hA : DVs.Ok F [] [.bptr (BR.root 0) [.str v76, .int .i64 v77, .int .i64 v78, .bslc (BR.root 1) (.f32 v79)]]) {y : Bool} (hy : spec_l07Sheet_g v76 v77 v78 v79 = some y) : ∃ F' H', Fwd 0 F F' [] (spec_l07Sheet_enc v76 v77 v78 v79 y).2 ∧ FnOk Try.prog 34 (DVs.av F [.bptr (BR.root 0) [.str v76, .int .i64 v77, .int .i64 v78, .bslc (BR.root 1) (.f32 v79)]]) F.H0 ((spec_l07Sheet_enc v76 v77 v78 v79 y).1.av F') H' ∧ St F' (spec_l07Sheet_enc v76 v77 v78 v79 y).2 H' ∧ (spec_l07Sheet_enc v76 v77 v78 v79 y).1.Ok F' (spec_l07Sheet_enc v76 v77 v78 v79 y).2 :=
  fn_fin tok spec_l07Sheet_hO mixed Try.func34 Try.call34 (by kernel_rfl) (LoopsOk_eq (l := []) (by kernel_rfl) trivial) (spec_l07Sheet_den v76 v77 v78 v79) hy h0 hA
noncomputable def spec_l07Sheet_F : DFn := fun args L =>
  match args with
  | [a1] =>
    optT (cellsOf L 4 a1) fun cs0 =>
    (match cs0 with
    | [.str v76, .int .i64 v77, .int .i64 v78, a2] =>
    optT (rowF32 L a2) fun v79 =>
    .call (spec_l07Sheet_g v76 v77 v78 v79) fun y => .leaf (.bool y, L)
    | _ => .fail)
  | _ => .fail
theorem spec_l07Sheet_Fok : COk Try.prog 34 spec_l07Sheet_F true := by
  intro F L H args r L' hs ha hr
  unfold spec_l07Sheet_F at hr
  split at hr
  · rename_i a1
    obtain ⟨cs0, hcp0, hr⟩ := optT_run hr
    split at hr
    · rename_i v76 v77 v78 a2
      obtain ⟨v79, hv79, hr⟩ := optT_run hr
      simp only [Tree.run] at hr
      obtain ⟨y, hy, hr⟩ := Option.bind_eq_some_iff.1 hr
      simp only [Tree.run, Option.some.injEq, Prod.mk.injEq] at hr
      obtain ⟨rfl, rfl⟩ := hr
      exact call_ok0 hs (fun k => (([a1.av F, a2.av F] : List AV)[k]?).getD .top) [a1] [.bptr (BR.root 0) [.str v76, .int .i64 v77, .int .i64 v78, .bslc (BR.root 1) (.f32 v79)]] (fun F' h0 hi hρ => ⟨by simp [DVs.av, DV.av, BR.av, hρ], spec_l07Sheet_fn v76 v77 v78 v79 F' (st_nil hi) ⟨bptr_ok hi (by rw [h0]; simpa [DVs.av, DV.av, BR.av, hρ] using (cellsOf_ok hs (DVs.okAt ha 0 rfl) hcp0).1) ⟨trivial, trivial, trivial, bslc_ok hi (by rw [h0, hρ]; exact rowF32_ok hs (DVs.okAt (cellsOf_ok hs (DVs.okAt ha 0 rfl) hcp0).2 3 rfl) hv79), trivial⟩, trivial⟩ hy⟩) rfl
    · cases hr
  · cases hr
/-! spec.l01Bits -/
noncomputable def spec_l01Bits_LO (v112 : Nat) : LOr := fun id e L =>
  match id with
  | _ => .fail
noncomputable def spec_l01Bits_tab : List (FuncId × DFn × Bool) := [(84, Bits32_F, true)]
theorem spec_l01Bits_hO : OrcOk Try.prog (tabD spec_l01Bits_tab) (tabM spec_l01Bits_tab) := tabD_cons Bits32_Fok (tabD_nil _)
noncomputable def spec_l01Bits_T (v112 : Nat) : Tree (Int) :=
  (.br (!feq .f32 v112 v112) (
  .leaf (2143289344 : Int)
  ) (
  (.grd (!isNan .f32 v112) <|
  .leaf (IntKind.i64.wrap (((v112 : Nat) : Int))))
  ))

noncomputable def spec_l01Bits_g (v112 : Nat) : Option (Int) := (spec_l01Bits_T v112).run
def spec_l01Bits_enc (v112 : Nat) (y : Int) : Rs := (.int .i64 y, [])
theorem spec_l01Bits_den (v112 : Nat) : (den TT (tabD spec_l01Bits_tab) (tabM spec_l01Bits_tab) (spec_l01Bits_LO v112) (codeOf Try.f62) ([.flt .f32 v112] ++ List.replicate (Try.f62.ntmps - ([.flt .f32 v112] : List DV).length) .undef) []).bind (retD TT Try.f62.results.toList 0) = (spec_l01Bits_T v112).bind fun y => .leaf (spec_l01Bits_enc v112 y) := by kernel_rfl
theorem spec_l01Bits_fn (v112 : Nat) (F : Fr) (h0 : St F [] F.H0) (hA : DVs.Ok F [] [.flt .f32 v112]) {y : Int} (hy : spec_l01Bits_g v112 = some y) : ∃ F' H', Fwd 0 F F' [] (spec_l01Bits_enc v112 y).2 ∧ FnOk Try.prog 62 (DVs.av F [.flt .f32 v112]) F.H0 ((spec_l01Bits_enc v112 y).1.av F') H' ∧ St F' (spec_l01Bits_enc v112 y).2 H' ∧ (spec_l01Bits_enc v112 y).1.Ok F' (spec_l01Bits_enc v112 y).2 :=
  fn_fin tok spec_l01Bits_hO mixed Try.func62 Try.call62 (by kernel_rfl) (LoopsOk_eq (l := []) (by kernel_rfl) trivial) (spec_l01Bits_den v112) hy h0 hA
noncomputable def spec_l01Bits_F : DFn := fun args L =>
  match args with
  | [.flt .f32 v112] =>
    .call (spec_l01Bits_g v112) fun y => .leaf (.int .i64 y, L)
  | _ => .fail
theorem spec_l01Bits_Fok : COk Try.prog 62 spec_l01Bits_F true := by
  intro F L H args r L' hs ha hr
  unfold spec_l01Bits_F at hr
  split at hr
  · rename_i v112
    simp only [Tree.run] at hr
    obtain ⟨y, hy, hr⟩ := Option.bind_eq_some_iff.1 hr
    simp only [Tree.run, Option.some.injEq, Prod.mk.injEq] at hr
    obtain ⟨rfl, rfl⟩ := hr
    exact call_ok0 hs (fun k => (([] : List AV)[k]?).getD .top) [.flt .f32 v112] [.flt .f32 v112] (fun F' h0 hi hρ => ⟨by simp [DVs.av, DV.av, BR.av, hρ], spec_l01Bits_fn v112 F' (st_nil hi) ⟨trivial, trivial⟩ hy⟩) rfl
  · cases hr
/-! spec.l01Check -/
noncomputable def spec_l01Check_l0_T (v122 : ByteArray) (s : Int × Int) : Tree ((Int × Int) ⊕ (Int)) :=
  (.br (decide (s.2 < ((v122.size : Nat) : Int))) (
  (.grd (inb s.2 v122.size) <|
  (.grd (!decide ((65003 : Int) = 0)) <|
  .leaf (.inl (Int.tmod (IntKind.i64.wrap ((IntKind.i64.wrap ((IntKind.i64.wrap ((863 : Int) * s.1)) + (IntKind.i64.wrap (bt v122 s.2)))) + (157 : Int))) (65003 : Int), IntKind.i64.wrap (s.2 + (1 : Int))))))
  ) (
  .leaf (.inr s.1)
  ))

noncomputable def spec_l01Check_l0_g (v122 : ByteArray) (s0 : Int × Int) : Option (Int) := whileM (fun s => (spec_l01Check_l0_T v122 s).run) s0
def spec_l01Check_l0_E (v121 : Int) (v122 : ByteArray) (s : Int × Int) : Sd := ([.int .i64 s.1,.str v122,tp,tp,tp,.int .i64 s.2,tp,tp,tp,tp,tp,tp,tp,tp,tp,tp,tp,tp,tp,tp,tp,tp], [])
def spec_l01Check_l0_X (v121 : Int) (v122 : ByteArray) (x : Int) : Out := (.normal, [.int .i64 x,tp,tp,tp,tp,tp,tp,tp,tp,tp,tp,tp,tp,tp,tp,tp,tp,tp,tp,tp,tp,tp], [])
def spec_l01Check_l0_kill : List Nat := KL true [0,2,3,1,16]
def spec_l01Check_l0_nx : Exit → List Nat
  | .exit 0 => KL true [0,1,21]
  | .ret => KL true [4,1,17]
  | _ => []
noncomputable def spec_l01Check_LO (v121 : Int) (v122 : ByteArray) : LOr := fun id e L =>
  match id with
  | 0 => .need (normA 0 spec_l01Check_l0_kill e L = some (spec_l01Check_l0_E v121 v122 ((gI (vAt e 0)), (gI (vAt e 5))))) (.call (spec_l01Check_l0_g v122 ((gI (vAt e 0)), (gI (vAt e 5)))) fun x => .leaf (spec_l01Check_l0_X v121 v122 x))
  | _ => .fail
noncomputable def spec_l01Check_tab : List (FuncId × DFn × Bool) := []
theorem spec_l01Check_hO : OrcOk Try.prog (tabD spec_l01Check_tab) (tabM spec_l01Check_tab) := tabD_nil _
theorem spec_l01Check_l0_be (v121 : Int) (v122 : ByteArray) (s : Int × Int) : bodyT TT (tabD spec_l01Check_tab) (tabM spec_l01Check_tab) (spec_l01Check_LO v121 v122) 0 spec_l01Check_l0_kill spec_l01Check_l0_nx (bodyOf Try.f63 0) 0 (spec_l01Check_l0_E v121 v122 s) = (spec_l01Check_l0_T v122 s).bind fun y => .leaf (outS (spec_l01Check_l0_E v121 v122) (spec_l01Check_l0_X v121 v122) y) := by kernel_rfl
theorem spec_l01Check_l0_ok (v121 : Int) (v122 : ByteArray) : LSound Try.prog 0 (spec_l01Check_LO v121 v122) 0 (bodyOf Try.f63 0) := by
  intro e L out h
  exact lo_ok (E := spec_l01Check_l0_E v121 v122) (gT := spec_l01Check_l0_T v122) (X := spec_l01Check_l0_X v121 v122) (s0 := ((gI (vAt e 0)), (gI (vAt e 5)))) tok spec_l01Check_hO mixed (LoopsOk_eq (l := []) (by kernel_rfl) trivial) (spec_l01Check_l0_be v121 v122) rfl (by intro x; rfl) h
noncomputable def spec_l01Check_T (v121 : Int) (v122 : ByteArray) : Tree (Int) :=
  (.need (some (spec_l01Check_l0_E v121 v122 (v121, (0 : Int))) = some (spec_l01Check_l0_E v121 v122 (v121, (0 : Int)))) <|
  (.call (spec_l01Check_l0_g v122 (v121, (0 : Int))) fun v129 =>
  .leaf v129))

noncomputable def spec_l01Check_g (v121 : Int) (v122 : ByteArray) : Option (Int) := (spec_l01Check_T v121 v122).run
def spec_l01Check_enc (v121 : Int) (v122 : ByteArray) (y : Int) : Rs := (.int .i64 y, [])
theorem spec_l01Check_den (v121 : Int) (v122 : ByteArray) : (den TT (tabD spec_l01Check_tab) (tabM spec_l01Check_tab) (spec_l01Check_LO v121 v122) (codeOf Try.f63) ([.int .i64 v121, .str v122] ++ List.replicate (Try.f63.ntmps - ([.int .i64 v121, .str v122] : List DV).length) .undef) []).bind (retD TT Try.f63.results.toList 0) = (spec_l01Check_T v121 v122).bind fun y => .leaf (spec_l01Check_enc v121 v122 y) := by kernel_rfl
theorem spec_l01Check_fn (v121 : Int) (v122 : ByteArray) (F : Fr) (h0 : St F [] F.H0) (hA : DVs.Ok F [] [.int .i64 v121, .str v122]) {y : Int} (hy : spec_l01Check_g v121 v122 = some y) : ∃ F' H', Fwd 0 F F' [] (spec_l01Check_enc v121 v122 y).2 ∧ FnOk Try.prog 63 (DVs.av F [.int .i64 v121, .str v122]) F.H0 ((spec_l01Check_enc v121 v122 y).1.av F') H' ∧ St F' (spec_l01Check_enc v121 v122 y).2 H' ∧ (spec_l01Check_enc v121 v122 y).1.Ok F' (spec_l01Check_enc v121 v122 y).2 :=
  fn_fin tok spec_l01Check_hO mixed Try.func63 Try.call63 (by kernel_rfl) (LoopsOk_eq (l := [(0, bodyOf Try.f63 0)]) (by kernel_rfl) ⟨spec_l01Check_l0_ok v121 v122, trivial⟩) (spec_l01Check_den v121 v122) hy h0 hA
noncomputable def spec_l01Check_F : DFn := fun args L =>
  match args with
  | [.int .i64 v121, .str v122] =>
    .call (spec_l01Check_g v121 v122) fun y => .leaf (.int .i64 y, L)
  | _ => .fail
theorem spec_l01Check_Fok : COk Try.prog 63 spec_l01Check_F true := by
  intro F L H args r L' hs ha hr
  unfold spec_l01Check_F at hr
  split at hr
  · rename_i v121 v122
    simp only [Tree.run] at hr
    obtain ⟨y, hy, hr⟩ := Option.bind_eq_some_iff.1 hr
    simp only [Tree.run, Option.some.injEq, Prod.mk.injEq] at hr
    obtain ⟨rfl, rfl⟩ := hr
    exact call_ok0 hs (fun k => (([] : List AV)[k]?).getD .top) [.int .i64 v121, .str v122] [.int .i64 v121, .str v122] (fun F' h0 hi hρ => ⟨by simp [DVs.av, DV.av, BR.av, hρ], spec_l01Check_fn v121 v122 F' (st_nil hi) ⟨trivial, trivial, trivial⟩ hy⟩) rfl
  · cases hr
/-! spec.l07Store -/
noncomputable def spec_l07Store_l0_T (v110 : List Nat) (s : Int × (List Int)) : Tree ((Int × (List Int)) ⊕ ((List Int))) :=
  (.br (decide (s.1 < ((v110.length : Nat) : Int))) (
  (.grd (inb s.1 v110.length) <|
  (.call (spec_l01Bits_g (nth v110 (Int.toNat s.1))) fun v119 =>
  (.grd (!decide ((256 : Int) = 0)) <|
  (.grd (!decide ((256 : Int) = 0)) <|
  (.grd (!decide ((256 : Int) = 0)) <|
  (.grd (!decide ((65536 : Int) = 0)) <|
  (.grd (!decide ((256 : Int) = 0)) <|
  (.grd (!decide ((16777216 : Int) = 0)) <|
  (.grd (fits (s.2 ++ ([IntKind.u8.wrap (Int.tmod v119 (256 : Int)), IntKind.u8.wrap (Int.tmod (IntKind.i64.wrap (Int.tdiv v119 (256 : Int))) (256 : Int)), IntKind.u8.wrap (Int.tmod (IntKind.i64.wrap (Int.tdiv v119 (65536 : Int))) (256 : Int)), IntKind.u8.wrap (IntKind.i64.wrap (Int.tdiv v119 (16777216 : Int)))] : List Int)).length) <|
  .leaf (.inl (IntKind.i64.wrap (s.1 + (1 : Int)), s.2 ++ ([IntKind.u8.wrap (Int.tmod v119 (256 : Int)), IntKind.u8.wrap (Int.tmod (IntKind.i64.wrap (Int.tdiv v119 (256 : Int))) (256 : Int)), IntKind.u8.wrap (Int.tmod (IntKind.i64.wrap (Int.tdiv v119 (65536 : Int))) (256 : Int)), IntKind.u8.wrap (IntKind.i64.wrap (Int.tdiv v119 (16777216 : Int)))] : List Int))))))))))))
  ) (
  .leaf (.inr s.2)
  ))

noncomputable def spec_l07Store_l0_g (v110 : List Nat) (s0 : Int × (List Int)) : Option ((List Int)) := whileM (fun s => (spec_l07Store_l0_T v110 s).run) s0
def spec_l07Store_l0_E (v107 : ByteArray) (v108 : Int) (v109 : Int) (v110 : List Nat) (s : Int × (List Int)) : Sd := ([.bptr (BR.root 0) [.str v107, .int .i64 v108, .int .i64 v109, .bslc (BR.root 1) (.f32 v110)],tp,tp,.own 0 0 ((s.2).length),tp,tp,tp,tp,tp,tp,tp,tp,tp,tp,tp,tp,tp,tp,tp,tp,tp,tp,tp,tp,tp,tp,tp,tp,tp,tp,tp,tp,tp,tp,tp,tp,tp,tp,tp,tp,tp,tp,tp,tp,.int .i64 ((v110.length : Nat) : Int),.int .i64 s.1,tp,tp,tp,tp,tp,tp,tp,tp,tp,tp,tp,tp,tp,tp,tp,tp,tp,tp,tp,tp,tp,tp,tp,tp,tp,tp,tp,tp,tp,tp,tp,tp,tp,tp,tp,tp,tp,tp,tp,tp,tp,tp], [.row (.u8 s.2) 0])
def spec_l07Store_l0_X (v107 : ByteArray) (v108 : Int) (v109 : Int) (v110 : List Nat) (x : (List Int)) : Out := (.normal, [tp,tp,tp,.own 0 0 ((x).length),tp,tp,tp,tp,tp,tp,tp,tp,tp,tp,tp,tp,tp,tp,tp,tp,tp,tp,tp,tp,tp,tp,tp,tp,tp,tp,tp,tp,tp,tp,tp,tp,tp,tp,tp,tp,tp,tp,tp,tp,tp,tp,tp,tp,tp,tp,tp,tp,tp,tp,tp,tp,tp,tp,tp,tp,tp,tp,tp,tp,tp,tp,tp,tp,tp,tp,tp,tp,tp,tp,tp,tp,tp,tp,tp,tp,tp,tp,tp,tp,tp,tp,tp,tp], [.row (.u8 x) 0])
def spec_l07Store_l0_kill : List Nat := KL true [0,1,2,1,40,2,42]
def spec_l07Store_l0_nx : Exit → List Nat
  | .exit 0 => KL true [3,1,84]
  | .ret => KL true [2,1,85]
  | _ => []
noncomputable def spec_l07Store_LO (v107 : ByteArray) (v108 : Int) (v109 : Int) (v110 : List Nat) : LOr := fun id e L =>
  match id with
  | 0 => .need (normA 0 spec_l07Store_l0_kill e L = some (spec_l07Store_l0_E v107 v108 v109 v110 ((gI (vAt e 45)), (gRI L (vAt e 3))))) (.call (spec_l07Store_l0_g v110 ((gI (vAt e 45)), (gRI L (vAt e 3)))) fun x => .leaf (spec_l07Store_l0_X v107 v108 v109 v110 x))
  | _ => .fail
noncomputable def spec_l07Store_tab : List (FuncId × DFn × Bool) := [(62, spec_l01Bits_F, true), (63, spec_l01Check_F, true)]
theorem spec_l07Store_hO : OrcOk Try.prog (tabD spec_l07Store_tab) (tabM spec_l07Store_tab) := tabD_cons spec_l01Bits_Fok (tabD_cons spec_l01Check_Fok (tabD_nil _))
theorem spec_l07Store_l0_be (v107 : ByteArray) (v108 : Int) (v109 : Int) (v110 : List Nat) (s : Int × (List Int)) : bodyT TT (tabD spec_l07Store_tab) (tabM spec_l07Store_tab) (spec_l07Store_LO v107 v108 v109 v110) 0 spec_l07Store_l0_kill spec_l07Store_l0_nx (bodyOf Try.f35 0) 0 (spec_l07Store_l0_E v107 v108 v109 v110 s) = (spec_l07Store_l0_T v110 s).bind fun y => .leaf (outS (spec_l07Store_l0_E v107 v108 v109 v110) (spec_l07Store_l0_X v107 v108 v109 v110) y) := by kernel_rfl
theorem spec_l07Store_l0_ok (v107 : ByteArray) (v108 : Int) (v109 : Int) (v110 : List Nat) : LSound Try.prog 0 (spec_l07Store_LO v107 v108 v109 v110) 0 (bodyOf Try.f35 0) := by
  intro e L out h
  exact lo_ok (E := spec_l07Store_l0_E v107 v108 v109 v110) (gT := spec_l07Store_l0_T v110) (X := spec_l07Store_l0_X v107 v108 v109 v110) (s0 := ((gI (vAt e 45)), (gRI L (vAt e 3)))) tok spec_l07Store_hO mixed (LoopsOk_eq (l := []) (by kernel_rfl) trivial) (spec_l07Store_l0_be v107 v108 v109 v110) rfl (by intro x; rfl) h
noncomputable def spec_l07Store_T (v107 : ByteArray) (v108 : Int) (v109 : Int) (v110 : List Nat) : Tree (ByteArray) :=
  (.grd (decide (0 < (([(77 : Int), (65 : Int), (84 : Int), (49 : Int)] : List Int).length))) <|
  (.grd (fits (([(77 : Int), (65 : Int), (84 : Int), (49 : Int)] : List Int) ++ ([IntKind.u8.wrap (((v107.size : Nat) : Int))] : List Int)).length) <|
  (.grd (fits v107.size) <|
  (.grd (fits ((([(77 : Int), (65 : Int), (84 : Int), (49 : Int)] : List Int) ++ ([IntKind.u8.wrap (((v107.size : Nat) : Int))] : List Int)) ++ (numsS v107)).length) <|
  (.grd (fits (((([(77 : Int), (65 : Int), (84 : Int), (49 : Int)] : List Int) ++ ([IntKind.u8.wrap (((v107.size : Nat) : Int))] : List Int)) ++ (numsS v107)) ++ ([IntKind.u8.wrap (v108), IntKind.u8.wrap (v109)] : List Int)).length) <|
  (.need (some (spec_l07Store_l0_E v107 v108 v109 v110 ((0 : Int), ((([(77 : Int), (65 : Int), (84 : Int), (49 : Int)] : List Int) ++ ([IntKind.u8.wrap (((v107.size : Nat) : Int))] : List Int)) ++ (numsS v107)) ++ ([IntKind.u8.wrap (v108), IntKind.u8.wrap (v109)] : List Int))) = some (spec_l07Store_l0_E v107 v108 v109 v110 ((0 : Int), ((([(77 : Int), (65 : Int), (84 : Int), (49 : Int)] : List Int) ++ ([IntKind.u8.wrap (((v107.size : Nat) : Int))] : List Int)) ++ (numsS v107)) ++ ([IntKind.u8.wrap (v108), IntKind.u8.wrap (v109)] : List Int)))) <|
  (.call (spec_l07Store_l0_g v110 ((0 : Int), ((([(77 : Int), (65 : Int), (84 : Int), (49 : Int)] : List Int) ++ ([IntKind.u8.wrap (((v107.size : Nat) : Int))] : List Int)) ++ (numsS v107)) ++ ([IntKind.u8.wrap (v108), IntKind.u8.wrap (v109)] : List Int))) fun v120 =>
  (.call (spec_l01Check_g (0 : Int) (strOfNums v120)) fun v130 =>
  (.grd (!decide ((256 : Int) = 0)) <|
  (.grd (!decide ((256 : Int) = 0)) <|
  (.grd (fits (v120 ++ ([IntKind.u8.wrap (Int.tmod v130 (256 : Int)), IntKind.u8.wrap (IntKind.i64.wrap (Int.tdiv v130 (256 : Int)))] : List Int)).length) <|
  .leaf (strOfNums (v120 ++ ([IntKind.u8.wrap (Int.tmod v130 (256 : Int)), IntKind.u8.wrap (IntKind.i64.wrap (Int.tdiv v130 (256 : Int)))] : List Int))))))))))))))

noncomputable def spec_l07Store_g (v107 : ByteArray) (v108 : Int) (v109 : Int) (v110 : List Nat) : Option (ByteArray) := (spec_l07Store_T v107 v108 v109 v110).run
def spec_l07Store_enc (v107 : ByteArray) (v108 : Int) (v109 : Int) (v110 : List Nat) (y : ByteArray) : Rs := (.str y, [])
theorem spec_l07Store_den (v107 : ByteArray) (v108 : Int) (v109 : Int) (v110 : List Nat) : (den TT (tabD spec_l07Store_tab) (tabM spec_l07Store_tab) (spec_l07Store_LO v107 v108 v109 v110) (codeOf Try.f35) ([.bptr (BR.root 0) [.str v107, .int .i64 v108, .int .i64 v109, .bslc (BR.root 1) (.f32 v110)]] ++ List.replicate (Try.f35.ntmps - ([.bptr (BR.root 0) [.str v107, .int .i64 v108, .int .i64 v109, .bslc (BR.root 1) (.f32 v110)]] : List DV).length) .undef) []).bind (retD TT Try.f35.results.toList 0) = (spec_l07Store_T v107 v108 v109 v110).bind fun y => .leaf (spec_l07Store_enc v107 v108 v109 v110 y) := by kernel_rfl
theorem spec_l07Store_fn (v107 : ByteArray) (v108 : Int) (v109 : Int) (v110 : List Nat) (F : Fr) (h0 : St F [] F.H0) (hA : DVs.Ok F [] [.bptr (BR.root 0) [.str v107, .int .i64 v108, .int .i64 v109, .bslc (BR.root 1) (.f32 v110)]]) {y : ByteArray} (hy : spec_l07Store_g v107 v108 v109 v110 = some y) : ∃ F' H', Fwd 0 F F' [] (spec_l07Store_enc v107 v108 v109 v110 y).2 ∧ FnOk Try.prog 35 (DVs.av F [.bptr (BR.root 0) [.str v107, .int .i64 v108, .int .i64 v109, .bslc (BR.root 1) (.f32 v110)]]) F.H0 ((spec_l07Store_enc v107 v108 v109 v110 y).1.av F') H' ∧ St F' (spec_l07Store_enc v107 v108 v109 v110 y).2 H' ∧ (spec_l07Store_enc v107 v108 v109 v110 y).1.Ok F' (spec_l07Store_enc v107 v108 v109 v110 y).2 :=
  fn_fin tok spec_l07Store_hO mixed Try.func35 Try.call35 (by kernel_rfl) (LoopsOk_eq (l := [(0, bodyOf Try.f35 0)]) (by kernel_rfl) ⟨spec_l07Store_l0_ok v107 v108 v109 v110, trivial⟩) (spec_l07Store_den v107 v108 v109 v110) hy h0 hA
noncomputable def spec_l07Store_F : DFn := fun args L =>
  match args with
  | [a1] =>
    optT (cellsOf L 4 a1) fun cs0 =>
    (match cs0 with
    | [.str v107, .int .i64 v108, .int .i64 v109, a2] =>
    optT (rowF32 L a2) fun v110 =>
    .call (spec_l07Store_g v107 v108 v109 v110) fun y => .leaf (.str y, L)
    | _ => .fail)
  | _ => .fail
theorem spec_l07Store_Fok : COk Try.prog 35 spec_l07Store_F true := by
  intro F L H args r L' hs ha hr
  unfold spec_l07Store_F at hr
  split at hr
  · rename_i a1
    obtain ⟨cs0, hcp0, hr⟩ := optT_run hr
    split at hr
    · rename_i v107 v108 v109 a2
      obtain ⟨v110, hv110, hr⟩ := optT_run hr
      simp only [Tree.run] at hr
      obtain ⟨y, hy, hr⟩ := Option.bind_eq_some_iff.1 hr
      simp only [Tree.run, Option.some.injEq, Prod.mk.injEq] at hr
      obtain ⟨rfl, rfl⟩ := hr
      exact call_ok0 hs (fun k => (([a1.av F, a2.av F] : List AV)[k]?).getD .top) [a1] [.bptr (BR.root 0) [.str v107, .int .i64 v108, .int .i64 v109, .bslc (BR.root 1) (.f32 v110)]] (fun F' h0 hi hρ => ⟨by simp [DVs.av, DV.av, BR.av, hρ], spec_l07Store_fn v107 v108 v109 v110 F' (st_nil hi) ⟨bptr_ok hi (by rw [h0]; simpa [DVs.av, DV.av, BR.av, hρ] using (cellsOf_ok hs (DVs.okAt ha 0 rfl) hcp0).1) ⟨trivial, trivial, trivial, bslc_ok hi (by rw [h0, hρ]; exact rowF32_ok hs (DVs.okAt (cellsOf_ok hs (DVs.okAt ha 0 rfl) hcp0).2 3 rfl) hv110), trivial⟩, trivial⟩ hy⟩) rfl
    · cases hr
  · cases hr
/-! spec.StoreSheets -/
noncomputable def spec_StoreSheets_nst_l0_T (v69 : List ByteArray) (v70 : List Int) (v71 : List Int) (v72 : List (List Nat)) (v73 : List Nat) (s : ByteArray × Int) : Tree ((ByteArray × Int) ⊕ ((Unit) ⊕ (ByteArray))) :=
  (.br (decide (s.2 < (((v69).length : Nat) : Int))) (
  (.grd (inb s.2 ((v69).length)) <|
  (.call (spec_l07Sheet_g (nth v69 (Int.toNat s.2)) (nth v70 (Int.toNat s.2)) (nth v71 (Int.toNat s.2)) (nget v72 (nth v73 (Int.toNat s.2)))) fun v138 =>
  (.br (!v138) (
  .leaf (.inr (.inl ()))
  ) (
  (.grd (inb s.2 ((v69).length)) <|
  (.call (spec_l07Store_g (nth v69 (Int.toNat s.2)) (nth v70 (Int.toNat s.2)) (nth v71 (Int.toNat s.2)) (nget v72 (nth v73 (Int.toNat s.2)))) fun v139 =>
  (.grd (fits (s.1.size + v139.size)) <|
  .leaf (.inl (s.1 ++ v139, IntKind.i64.wrap (s.2 + (1 : Int)))))))
  ))))
  ) (
  .leaf (.inr (.inr s.1))
  ))

noncomputable def spec_StoreSheets_nst_l0_g (v69 : List ByteArray) (v70 : List Int) (v71 : List Int) (v72 : List (List Nat)) (v73 : List Nat) (s0 : ByteArray × Int) : Option ((Unit) ⊕ (ByteArray)) := whileM (fun s => (spec_StoreSheets_nst_l0_T v69 v70 v71 v72 v73 s).run) s0
def spec_StoreSheets_nst_l0_E (v69 : List ByteArray) (v70 : List Int) (v71 : List Int) (v72 : List (List Nat)) (v73 : List Nat) (s : ByteArray × Int) : Sd := ([.nest 0 0 4 ((v69).length),tp,tp,tp,.str s.1,tp,tp,tp,tp,tp,.int .i64 (((v69).length : Nat) : Int),.int .i64 s.2,tp,tp,tp,tp,tp,tp,tp,tp,tp,tp,tp,tp,tp,tp,tp], [.nest [.pl (.str v69), .pl (.i64 v70), .pl (.i64 v71), .sl (.f32 v72) v73] false 0])
def spec_StoreSheets_nst_l0_X (v69 : List ByteArray) (v70 : List Int) (v71 : List Int) (v72 : List (List Nat)) (v73 : List Nat) (x : (Unit) ⊕ (ByteArray)) : Out := (match x with | .inl x => (.ret, [tp,tp,.str (ByteArray.mk #[]),.lit false,tp,tp,tp,tp,tp,tp,tp,tp,tp,tp,tp,tp,tp,tp,tp,tp,tp,tp,tp,tp,tp,tp,tp], [.nest [.pl (.str v69), .pl (.i64 v70), .pl (.i64 v71), .sl (.f32 v72) v73] false 0]) | .inr x => (.normal, [tp,tp,tp,tp,.str x,tp,tp,tp,tp,tp,tp,tp,tp,tp,tp,tp,tp,tp,tp,tp,tp,tp,tp,tp,tp,tp,tp], [.nest [.pl (.str v69), .pl (.i64 v70), .pl (.i64 v71), .sl (.f32 v72) v73] false 0]))
def spec_StoreSheets_nst_l0_kill : List Nat := KL true [0,1,3,1,5,2,15]
def spec_StoreSheets_nst_l0_nx : Exit → List Nat
  | .exit 0 => KL true [4,1,22]
  | .ret => KL true [2,2,23]
  | _ => []
noncomputable def spec_StoreSheets_nst_LO (v69 : List ByteArray) (v70 : List Int) (v71 : List Int) (v72 : List (List Nat)) (v73 : List Nat) : LOr := fun id e L =>
  match id with
  | 0 => .need (normA 1 spec_StoreSheets_nst_l0_kill e L = some (spec_StoreSheets_nst_l0_E v69 v70 v71 v72 v73 ((gS (vAt e 4)), (gI (vAt e 11))))) (.call (spec_StoreSheets_nst_l0_g v69 v70 v71 v72 v73 ((gS (vAt e 4)), (gI (vAt e 11)))) fun x => .sum x (fun b0 => .leaf (spec_StoreSheets_nst_l0_X v69 v70 v71 v72 v73 (.inl b0))) (fun c0 => .leaf (spec_StoreSheets_nst_l0_X v69 v70 v71 v72 v73 (.inr c0))))
  | _ => .fail
noncomputable def spec_StoreSheets_nst_tab : List (FuncId × DFn × Bool) := [(34, spec_l07Sheet_F, true), (35, spec_l07Store_F, true)]
theorem spec_StoreSheets_nst_hO : OrcOk Try.prog (tabD spec_StoreSheets_nst_tab) (tabM spec_StoreSheets_nst_tab) := tabD_cons spec_l07Sheet_Fok (tabD_cons spec_l07Store_Fok (tabD_nil _))
theorem spec_StoreSheets_nst_l0_be (v69 : List ByteArray) (v70 : List Int) (v71 : List Int) (v72 : List (List Nat)) (v73 : List Nat) (s : ByteArray × Int) : bodyT TT (tabD spec_StoreSheets_nst_tab) (tabM spec_StoreSheets_nst_tab) (spec_StoreSheets_nst_LO v69 v70 v71 v72 v73) 1 spec_StoreSheets_nst_l0_kill spec_StoreSheets_nst_l0_nx (bodyOf Try.f23 0) 0 (spec_StoreSheets_nst_l0_E v69 v70 v71 v72 v73 s) = (spec_StoreSheets_nst_l0_T v69 v70 v71 v72 v73 s).bind fun y => .leaf (outS (spec_StoreSheets_nst_l0_E v69 v70 v71 v72 v73) (spec_StoreSheets_nst_l0_X v69 v70 v71 v72 v73) y) := by kernel_rfl
theorem spec_StoreSheets_nst_l0_ok (v69 : List ByteArray) (v70 : List Int) (v71 : List Int) (v72 : List (List Nat)) (v73 : List Nat) : LSound Try.prog 1 (spec_StoreSheets_nst_LO v69 v70 v71 v72 v73) 0 (bodyOf Try.f23 0) := by
  intro e L out h
  exact lo_ok (E := spec_StoreSheets_nst_l0_E v69 v70 v71 v72 v73) (gT := spec_StoreSheets_nst_l0_T v69 v70 v71 v72 v73) (X := spec_StoreSheets_nst_l0_X v69 v70 v71 v72 v73) (s0 := ((gS (vAt e 4)), (gI (vAt e 11)))) tok spec_StoreSheets_nst_hO mixed (LoopsOk_eq (l := []) (by kernel_rfl) trivial) (spec_StoreSheets_nst_l0_be v69 v70 v71 v72 v73) rfl (by intro x; (cases x with | inl b => rfl | inr x => exact rfl)) h
noncomputable def spec_StoreSheets_nst_T (v69 : List ByteArray) (v70 : List Int) (v71 : List Int) (v72 : List (List Nat)) (v73 : List Nat) : Tree ((ByteArray) ⊕ (ByteArray)) :=
  (.br (decide ((8 : Int) < (((v69).length : Nat) : Int))) (
  .leaf (.inl (ByteArray.mk #[]))
  ) (
  (.need (some (spec_StoreSheets_nst_l0_E v69 v70 v71 v72 v73 ((ByteArray.mk #[]), (0 : Int))) = some (spec_StoreSheets_nst_l0_E v69 v70 v71 v72 v73 ((ByteArray.mk #[]), (0 : Int)))) <|
  (.call (spec_StoreSheets_nst_l0_g v69 v70 v71 v72 v73 ((ByteArray.mk #[]), (0 : Int))) fun v140 =>
  (.sum v140 (fun v141 =>
  .leaf (.inl (ByteArray.mk #[]))
  ) (fun v142 =>
  .leaf (.inr v142)
  ))))
  ))

noncomputable def spec_StoreSheets_nst_g (v69 : List ByteArray) (v70 : List Int) (v71 : List Int) (v72 : List (List Nat)) (v73 : List Nat) : Option ((ByteArray) ⊕ (ByteArray)) := (spec_StoreSheets_nst_T v69 v70 v71 v72 v73).run
def spec_StoreSheets_nst_enc (v69 : List ByteArray) (v70 : List Int) (v71 : List Int) (v72 : List (List Nat)) (v73 : List Nat) (y : (ByteArray) ⊕ (ByteArray)) : Rs := (match y with | .inl y => (.tup [.str y, .lit false], [.nest [.pl (.str v69), .pl (.i64 v70), .pl (.i64 v71), .sl (.f32 v72) v73] false 0]) | .inr y => (.tup [.str y, .lit true], [.nest [.pl (.str v69), .pl (.i64 v70), .pl (.i64 v71), .sl (.f32 v72) v73] false 0]))
theorem spec_StoreSheets_nst_den (v69 : List ByteArray) (v70 : List Int) (v71 : List Int) (v72 : List (List Nat)) (v73 : List Nat) : (den TT (tabD spec_StoreSheets_nst_tab) (tabM spec_StoreSheets_nst_tab) (spec_StoreSheets_nst_LO v69 v70 v71 v72 v73) (codeOf Try.f23) ([.nest 0 0 4 ((v69).length)] ++ List.replicate (Try.f23.ntmps - ([.nest 0 0 4 ((v69).length)] : List DV).length) .undef) [.nest [.pl (.str v69), .pl (.i64 v70), .pl (.i64 v71), .sl (.f32 v72) v73] false 0]).bind (retD TT Try.f23.results.toList 1) = (spec_StoreSheets_nst_T v69 v70 v71 v72 v73).bind fun y => .leaf (spec_StoreSheets_nst_enc v69 v70 v71 v72 v73 y) := by kernel_rfl
theorem spec_StoreSheets_nst_fn (v69 : List ByteArray) (v70 : List Int) (v71 : List Int) (v72 : List (List Nat)) (v73 : List Nat) (F : Fr) (h0 : St F [.nest [.pl (.str v69), .pl (.i64 v70), .pl (.i64 v71), .sl (.f32 v72) v73] false 0] F.H0) (hA : DVs.Ok F [.nest [.pl (.str v69), .pl (.i64 v70), .pl (.i64 v71), .sl (.f32 v72) v73] false 0] [.nest 0 0 4 ((v69).length)]) {y : (ByteArray) ⊕ (ByteArray)} (hy : spec_StoreSheets_nst_g v69 v70 v71 v72 v73 = some y) : ∃ F' H', Fwd 1 F F' [.nest [.pl (.str v69), .pl (.i64 v70), .pl (.i64 v71), .sl (.f32 v72) v73] false 0] (spec_StoreSheets_nst_enc v69 v70 v71 v72 v73 y).2 ∧ FnOk Try.prog 23 (DVs.av F [.nest 0 0 4 ((v69).length)]) F.H0 ((spec_StoreSheets_nst_enc v69 v70 v71 v72 v73 y).1.av F') H' ∧ St F' (spec_StoreSheets_nst_enc v69 v70 v71 v72 v73 y).2 H' ∧ (spec_StoreSheets_nst_enc v69 v70 v71 v72 v73 y).1.Ok F' (spec_StoreSheets_nst_enc v69 v70 v71 v72 v73 y).2 :=
  fn_fin tok spec_StoreSheets_nst_hO mixed Try.func23 Try.call23 (by kernel_rfl) (LoopsOk_eq (l := [(0, bodyOf Try.f23 0)]) (by kernel_rfl) ⟨spec_StoreSheets_nst_l0_ok v69 v70 v71 v72 v73, trivial⟩) (spec_StoreSheets_nst_den v69 v70 v71 v72 v73) hy h0 hA
noncomputable def spec_StoreSheets_nst_F : DFn := fun args L =>
  match args with
  | [a1] =>
    optT (nestN L false 4 a1) fun qn0 =>
    (match qn0.2 with
    | [.pl (.str v69), .pl (.i64 v70), .pl (.i64 v71), .sl (.f32 v72) v73] =>
    (match sepB [qn0.1] [] with
    | true =>
    .call (spec_StoreSheets_nst_g v69 v70 v71 v72 v73) fun y => .sum y (fun y0 => .grd (decide ((v69).length = (v69).length)) (.leaf (.tup [.str y0, .lit false], setB L [(qn0.1, .nest [.pl (.str v69), .pl (.i64 v70), .pl (.i64 v71), .sl (.f32 v72) v73] false (verAt L qn0.1))] ++ []))) (fun z0 => .grd (decide ((v69).length = (v69).length)) (.leaf (.tup [.str z0, .lit true], setB L [(qn0.1, .nest [.pl (.str v69), .pl (.i64 v70), .pl (.i64 v71), .sl (.f32 v72) v73] false (verAt L qn0.1))] ++ [])))
    | false => .fail)
    | _ => .fail)
  | _ => .fail
theorem spec_StoreSheets_nst_Fok : COk Try.prog 23 spec_StoreSheets_nst_F false := by
  intro F L H args r L' hs ha hr
  unfold spec_StoreSheets_nst_F at hr
  split at hr
  · rename_i a1
    obtain ⟨⟨jn0, cn0⟩, hn0, hr⟩ := optT_run hr
    simp only at hr
    split at hr
    · rename_i v69 v70 v71 v72 v73
      obtain ⟨hne0, hnu0, hnl0, hnv0, hnm0, hno0⟩ := nestN_spec hs (DVs.okAt ha 0 rfl) hn0
      split at hr
      · rename_i hsep
        obtain ⟨hnd, hsepv⟩ := sepB_spec hsep
        simp only [Tree.run] at hr
        obtain ⟨y, hy, hr⟩ := Option.bind_eq_some_iff.1 hr
        cases y with
        | inl y =>
          try simp only [Tree.run] at hr
          obtain ⟨hl0, hr⟩ := ite_run hr
          simp only [Option.some.injEq, Prod.mk.injEq] at hr
          obtain ⟨rfl, rfl⟩ := hr
          exact mutG_ok hs [a1] ⟨(DVs.okAt ha 0 rfl), trivial⟩ [a1] [.nest 0 0 4 ((v69).length)] [jn0] [verAt L jn0] [.nest [.pl (.str v69), .pl (.i64 v70), .pl (.i64 v71), .sl (.f32 v72) v73] false 0] [.nest [.pl (.str v69), .pl (.i64 v70), .pl (.i64 v71), .sl (.f32 v72) v73] false 0] [.nest [.pl (.str v69), .pl (.i64 v70), .pl (.i64 v71), .sl (.f32 v72) v73] false (verAt L jn0)] [] hnd rfl rfl (fun j hj => by
              simp at hj
              subst hj; exact ex_nest hne0) (fun j hj => by
              simp at hj
              subst hj; exact reach_refs (by simp [DVs.refs, DV.refs, hnu0])) (fun F' h0 hρ ab hpl hS => by
              have ab0 := ab 0 _ rfl;
              have hnx0 : a1.av F = (.nest 0 0 4 ((v69).length) : DV).av F' := nestN_av (hpl 0 _ rfl) hnv0
              refine ⟨fun i j b' h1 h2 => ?_, by simp [DBlk.blk, DVs.av, DV.av, BR.av, hρ, Row.len, hnx0, ab0, ab0], fun hst => spec_StoreSheets_nst_fn v69 v70 v71 v72 v73 F' hst ⟨(nest_ok0 (i := 0) rfl rfl hnm0), trivial⟩ hy⟩
              rcases i with _ | i
              · simp at h1 h2; subst h1; subst h2; obtain ⟨ver_, hv_⟩ := hne0; exact ⟨_, hv_, .nest _ _ _ _, nest_blk (hpl 0 _ rfl) _ _ _ _, hno0 _ _⟩
              · simp at h1) rfl rfl (fun i j b b' h1 h2 h3 => by
              rcases i with _ | i
              · simp at h1; subst h1; cases h3; exact growN hne0 (by first | exact of_decide_eq_true hl0 | rfl) rfl h2
              · simp at h1)
        | inr y =>
          try simp only [Tree.run] at hr
          obtain ⟨hl0, hr⟩ := ite_run hr
          simp only [Option.some.injEq, Prod.mk.injEq] at hr
          obtain ⟨rfl, rfl⟩ := hr
          exact mutG_ok hs [a1] ⟨(DVs.okAt ha 0 rfl), trivial⟩ [a1] [.nest 0 0 4 ((v69).length)] [jn0] [verAt L jn0] [.nest [.pl (.str v69), .pl (.i64 v70), .pl (.i64 v71), .sl (.f32 v72) v73] false 0] [.nest [.pl (.str v69), .pl (.i64 v70), .pl (.i64 v71), .sl (.f32 v72) v73] false 0] [.nest [.pl (.str v69), .pl (.i64 v70), .pl (.i64 v71), .sl (.f32 v72) v73] false (verAt L jn0)] [] hnd rfl rfl (fun j hj => by
              simp at hj
              subst hj; exact ex_nest hne0) (fun j hj => by
              simp at hj
              subst hj; exact reach_refs (by simp [DVs.refs, DV.refs, hnu0])) (fun F' h0 hρ ab hpl hS => by
              have ab0 := ab 0 _ rfl;
              have hnx0 : a1.av F = (.nest 0 0 4 ((v69).length) : DV).av F' := nestN_av (hpl 0 _ rfl) hnv0
              refine ⟨fun i j b' h1 h2 => ?_, by simp [DBlk.blk, DVs.av, DV.av, BR.av, hρ, Row.len, hnx0, ab0, ab0], fun hst => spec_StoreSheets_nst_fn v69 v70 v71 v72 v73 F' hst ⟨(nest_ok0 (i := 0) rfl rfl hnm0), trivial⟩ hy⟩
              rcases i with _ | i
              · simp at h1 h2; subst h1; subst h2; obtain ⟨ver_, hv_⟩ := hne0; exact ⟨_, hv_, .nest _ _ _ _, nest_blk (hpl 0 _ rfl) _ _ _ _, hno0 _ _⟩
              · simp at h1) rfl rfl (fun i j b b' h1 h2 h3 => by
              rcases i with _ | i
              · simp at h1; subst h1; cases h3; exact growN hne0 (by first | exact of_decide_eq_true hl0 | rfl) rfl h2
              · simp at h1)
      · cases hr
    · cases hr
  · cases hr
/-! impl.inRange -/
noncomputable def impl_inRange_LO (v178 : Int) (v179 : Int) (v180 : Int) : LOr := fun id e L =>
  match id with
  | _ => .fail
noncomputable def impl_inRange_tab : List (FuncId × DFn × Bool) := []
theorem impl_inRange_hO : OrcOk Try.prog (tabD impl_inRange_tab) (tabM impl_inRange_tab) := tabD_nil _
noncomputable def impl_inRange_T (v178 : Int) (v179 : Int) (v180 : Int) : Tree (Bool) :=
  (.br (decide (v179 ≤ v178)) (
  .leaf (decide (v178 ≤ v180))
  ) (
  .leaf false
  ))

noncomputable def impl_inRange_g (v178 : Int) (v179 : Int) (v180 : Int) : Option (Bool) := (impl_inRange_T v178 v179 v180).run
def impl_inRange_enc (v178 : Int) (v179 : Int) (v180 : Int) (y : Bool) : Rs := (.bool y, [])
theorem impl_inRange_den (v178 : Int) (v179 : Int) (v180 : Int) : (den TT (tabD impl_inRange_tab) (tabM impl_inRange_tab) (impl_inRange_LO v178 v179 v180) (codeOf Try.f78) ([.int .i64 v178, .int .i64 v179, .int .i64 v180] ++ List.replicate (Try.f78.ntmps - ([.int .i64 v178, .int .i64 v179, .int .i64 v180] : List DV).length) .undef) []).bind (retD TT Try.f78.results.toList 0) = (impl_inRange_T v178 v179 v180).bind fun y => .leaf (impl_inRange_enc v178 v179 v180 y) := by kernel_rfl
theorem impl_inRange_fn (v178 : Int) (v179 : Int) (v180 : Int) (F : Fr) (h0 : St F [] F.H0) (hA : DVs.Ok F [] [.int .i64 v178, .int .i64 v179, .int .i64 v180]) {y : Bool} (hy : impl_inRange_g v178 v179 v180 = some y) : ∃ F' H', Fwd 0 F F' [] (impl_inRange_enc v178 v179 v180 y).2 ∧ FnOk Try.prog 78 (DVs.av F [.int .i64 v178, .int .i64 v179, .int .i64 v180]) F.H0 ((impl_inRange_enc v178 v179 v180 y).1.av F') H' ∧ St F' (impl_inRange_enc v178 v179 v180 y).2 H' ∧ (impl_inRange_enc v178 v179 v180 y).1.Ok F' (impl_inRange_enc v178 v179 v180 y).2 :=
  fn_fin tok impl_inRange_hO mixed Try.func78 Try.call78 (by kernel_rfl) (LoopsOk_eq (l := []) (by kernel_rfl) trivial) (impl_inRange_den v178 v179 v180) hy h0 hA
def impl_inRange_v (v178 : Int) (v179 : Int) (v180 : Int) : Bool :=
  if (decide (v179 ≤ v178)) = true then (
  decide (v178 ≤ v180)
  ) else (
  false
  )
theorem impl_inRange_tot (v178 : Int) (v179 : Int) (v180 : Int) : impl_inRange_g v178 v179 v180 = some (impl_inRange_v v178 v179 v180) := by
  unfold impl_inRange_g impl_inRange_T impl_inRange_v
  simp only [Tree.run]
  repeat' (first | rfl | split)
noncomputable def impl_inRange_F : DFn := fun args L =>
  match args with
  | [.int .i64 v178, .int .i64 v179, .int .i64 v180] =>
    .leaf (.bool (impl_inRange_v v178 v179 v180), L)
  | _ => .fail
theorem impl_inRange_Fok : COk Try.prog 78 impl_inRange_F true := by
  intro F L H args r L' hs ha hr
  unfold impl_inRange_F at hr
  split at hr
  · rename_i v178 v179 v180
    have hy := impl_inRange_tot v178 v179 v180
    generalize impl_inRange_v v178 v179 v180 = y at hy hr
    simp only [Tree.run, Option.some.injEq, Prod.mk.injEq] at hr
    obtain ⟨rfl, rfl⟩ := hr
    exact call_ok0 hs (fun k => (([] : List AV)[k]?).getD .top) [.int .i64 v178, .int .i64 v179, .int .i64 v180] [.int .i64 v178, .int .i64 v179, .int .i64 v180] (fun F' h0 hi hρ => ⟨by simp [DVs.av, DV.av, BR.av, hρ], impl_inRange_fn v178 v179 v180 F' (st_nil hi) ⟨trivial, trivial, trivial, trivial⟩ hy⟩) rfl
  · cases hr
/-! impl.IsName -/
noncomputable def impl_IsName_l0_T (v171 : ByteArray) (s : Int) : Tree ((Int) ⊕ ((Unit) ⊕ (Unit))) :=
  (.br (decide (s < ((v171.size : Nat) : Int))) (
  (.grd (inb s v171.size) <|
  (.br (decide (bt v171 s < (97 : Int))) (
  .leaf (.inr (.inl ()))
  ) (
  (.grd (inb s v171.size) <|
  (.br (decide ((122 : Int) < bt v171 s)) (
  .leaf (.inr (.inl ()))
  ) (
  .leaf (.inl (IntKind.i64.wrap (s + (1 : Int))))
  )))
  )))
  ) (
  .leaf (.inr (.inr ()))
  ))

noncomputable def impl_IsName_l0_g (v171 : ByteArray) (s0 : Int) : Option ((Unit) ⊕ (Unit)) := whileM (fun s => (impl_IsName_l0_T v171 s).run) s0
def impl_IsName_l0_E (v171 : ByteArray) (s : Int) : Sd := ([.str v171,tp,tp,tp,tp,.int .i64 ((v171.size : Nat) : Int),.int .i64 s,tp,tp,tp,tp,tp,tp,tp,tp,tp,tp,tp,tp,tp,tp,tp,tp], [])
def impl_IsName_l0_X (v171 : ByteArray) (x : (Unit) ⊕ (Unit)) : Out := (match x with | .inl x => (.ret, [tp,tp,.lit false,tp,tp,tp,tp,tp,tp,tp,tp,tp,tp,tp,tp,tp,tp,tp,tp,tp,tp,tp,tp], []) | .inr x => (.normal, [.str v171,tp,tp,tp,tp,tp,tp,tp,tp,tp,tp,tp,tp,tp,tp,tp,tp,tp,tp,tp,tp,tp,tp], []))
def impl_IsName_l0_kill : List Nat := KL true [0,1,4,2,16]
def impl_IsName_l0_nx : Exit → List Nat
  | .exit 0 => KL true [0,1,22]
  | .ret => KL true [2,1,20]
  | _ => []
noncomputable def impl_IsName_LO (v171 : ByteArray) : LOr := fun id e L =>
  match id with
  | 0 => .need (normA 0 impl_IsName_l0_kill e L = some (impl_IsName_l0_E v171 (gI (vAt e 6)))) (.call (impl_IsName_l0_g v171 (gI (vAt e 6))) fun x => .sum x (fun b0 => .leaf (impl_IsName_l0_X v171 (.inl b0))) (fun c0 => .leaf (impl_IsName_l0_X v171 (.inr c0))))
  | _ => .fail
noncomputable def impl_IsName_tab : List (FuncId × DFn × Bool) := [(78, impl_inRange_F, true)]
theorem impl_IsName_hO : OrcOk Try.prog (tabD impl_IsName_tab) (tabM impl_IsName_tab) := tabD_cons impl_inRange_Fok (tabD_nil _)
theorem impl_IsName_l0_be (v171 : ByteArray) (s : Int) : bodyT TT (tabD impl_IsName_tab) (tabM impl_IsName_tab) (impl_IsName_LO v171) 0 impl_IsName_l0_kill impl_IsName_l0_nx (bodyOf Try.f57 0) 0 (impl_IsName_l0_E v171 s) = (impl_IsName_l0_T v171 s).bind fun y => .leaf (outS (impl_IsName_l0_E v171) (impl_IsName_l0_X v171) y) := by kernel_rfl
theorem impl_IsName_l0_ok (v171 : ByteArray) : LSound Try.prog 0 (impl_IsName_LO v171) 0 (bodyOf Try.f57 0) := by
  intro e L out h
  exact lo_ok (E := impl_IsName_l0_E v171) (gT := impl_IsName_l0_T v171) (X := impl_IsName_l0_X v171) (s0 := (gI (vAt e 6))) tok impl_IsName_hO mixed (LoopsOk_eq (l := []) (by kernel_rfl) trivial) (impl_IsName_l0_be v171) rfl (by intro x; (cases x with | inl b => rfl | inr x => exact rfl)) h
noncomputable def impl_IsName_T (v171 : ByteArray) : Tree (Bool) :=
  (.need (some (impl_IsName_l0_E v171 (0 : Int)) = some (impl_IsName_l0_E v171 (0 : Int))) <|
  (.call (impl_IsName_l0_g v171 (0 : Int)) fun v175 =>
  (.sum v175 (fun v176 =>
  .leaf false
  ) (fun v177 =>
  .leaf (impl_inRange_v ((v171.size : Nat) : Int) (1 : Int) (8 : Int))
  ))))

noncomputable def impl_IsName_g (v171 : ByteArray) : Option (Bool) := (impl_IsName_T v171).run
def impl_IsName_enc (v171 : ByteArray) (y : Bool) : Rs := (.bool y, [])
theorem impl_IsName_den (v171 : ByteArray) : (den TT (tabD impl_IsName_tab) (tabM impl_IsName_tab) (impl_IsName_LO v171) (codeOf Try.f57) ([.str v171] ++ List.replicate (Try.f57.ntmps - ([.str v171] : List DV).length) .undef) []).bind (retD TT Try.f57.results.toList 0) = (impl_IsName_T v171).bind fun y => .leaf (impl_IsName_enc v171 y) := by kernel_rfl
theorem impl_IsName_fn (v171 : ByteArray) (F : Fr) (h0 : St F [] F.H0) (hA : DVs.Ok F [] [.str v171]) {y : Bool} (hy : impl_IsName_g v171 = some y) : ∃ F' H', Fwd 0 F F' [] (impl_IsName_enc v171 y).2 ∧ FnOk Try.prog 57 (DVs.av F [.str v171]) F.H0 ((impl_IsName_enc v171 y).1.av F') H' ∧ St F' (impl_IsName_enc v171 y).2 H' ∧ (impl_IsName_enc v171 y).1.Ok F' (impl_IsName_enc v171 y).2 :=
  fn_fin tok impl_IsName_hO mixed Try.func57 Try.call57 (by kernel_rfl) (LoopsOk_eq (l := [(0, bodyOf Try.f57 0)]) (by kernel_rfl) ⟨impl_IsName_l0_ok v171, trivial⟩) (impl_IsName_den v171) hy h0 hA
noncomputable def impl_IsName_F : DFn := fun args L =>
  match args with
  | [.str v171] =>
    .call (impl_IsName_g v171) fun y => .leaf (.bool y, L)
  | _ => .fail
theorem impl_IsName_Fok : COk Try.prog 57 impl_IsName_F true := by
  intro F L H args r L' hs ha hr
  unfold impl_IsName_F at hr
  split at hr
  · rename_i v171
    simp only [Tree.run] at hr
    obtain ⟨y, hy, hr⟩ := Option.bind_eq_some_iff.1 hr
    simp only [Tree.run, Option.some.injEq, Prod.mk.injEq] at hr
    obtain ⟨rfl, rfl⟩ := hr
    exact call_ok0 hs (fun k => (([] : List AV)[k]?).getD .top) [.str v171] [.str v171] (fun F' h0 hi hρ => ⟨by simp [DVs.av, DV.av, BR.av, hρ], impl_IsName_fn v171 F' (st_nil hi) ⟨trivial, trivial⟩ hy⟩) rfl
  · cases hr
/-! impl.isSide -/
noncomputable def impl_isSide_LO (v185 : Int) : LOr := fun id e L =>
  match id with
  | _ => .fail
noncomputable def impl_isSide_tab : List (FuncId × DFn × Bool) := [(78, impl_inRange_F, true)]
theorem impl_isSide_hO : OrcOk Try.prog (tabD impl_isSide_tab) (tabM impl_isSide_tab) := tabD_cons impl_inRange_Fok (tabD_nil _)
noncomputable def impl_isSide_T (v185 : Int) : Tree (Bool) :=
  .leaf (impl_inRange_v v185 (1 : Int) (12 : Int))

noncomputable def impl_isSide_g (v185 : Int) : Option (Bool) := (impl_isSide_T v185).run
def impl_isSide_enc (v185 : Int) (y : Bool) : Rs := (.bool y, [])
theorem impl_isSide_den (v185 : Int) : (den TT (tabD impl_isSide_tab) (tabM impl_isSide_tab) (impl_isSide_LO v185) (codeOf Try.f79) ([.int .i64 v185] ++ List.replicate (Try.f79.ntmps - ([.int .i64 v185] : List DV).length) .undef) []).bind (retD TT Try.f79.results.toList 0) = (impl_isSide_T v185).bind fun y => .leaf (impl_isSide_enc v185 y) := by kernel_rfl
theorem impl_isSide_fn (v185 : Int) (F : Fr) (h0 : St F [] F.H0) (hA : DVs.Ok F [] [.int .i64 v185]) {y : Bool} (hy : impl_isSide_g v185 = some y) : ∃ F' H', Fwd 0 F F' [] (impl_isSide_enc v185 y).2 ∧ FnOk Try.prog 79 (DVs.av F [.int .i64 v185]) F.H0 ((impl_isSide_enc v185 y).1.av F') H' ∧ St F' (impl_isSide_enc v185 y).2 H' ∧ (impl_isSide_enc v185 y).1.Ok F' (impl_isSide_enc v185 y).2 :=
  fn_fin tok impl_isSide_hO mixed Try.func79 Try.call79 (by kernel_rfl) (LoopsOk_eq (l := []) (by kernel_rfl) trivial) (impl_isSide_den v185) hy h0 hA
def impl_isSide_v (v185 : Int) : Bool :=
  (impl_inRange_v v185 (1 : Int) (12 : Int))
theorem impl_isSide_tot (v185 : Int) : impl_isSide_g v185 = some (impl_isSide_v v185) := by
  unfold impl_isSide_g impl_isSide_T impl_isSide_v
  simp only [Tree.run]
  repeat' (first | rfl | split)
noncomputable def impl_isSide_F : DFn := fun args L =>
  match args with
  | [.int .i64 v185] =>
    .leaf (.bool (impl_isSide_v v185), L)
  | _ => .fail
theorem impl_isSide_Fok : COk Try.prog 79 impl_isSide_F true := by
  intro F L H args r L' hs ha hr
  unfold impl_isSide_F at hr
  split at hr
  · rename_i v185
    have hy := impl_isSide_tot v185
    generalize impl_isSide_v v185 = y at hy hr
    simp only [Tree.run, Option.some.injEq, Prod.mk.injEq] at hr
    obtain ⟨rfl, rfl⟩ := hr
    exact call_ok0 hs (fun k => (([] : List AV)[k]?).getD .top) [.int .i64 v185] [.int .i64 v185] (fun F' h0 hi hρ => ⟨by simp [DVs.av, DV.av, BR.av, hρ], impl_isSide_fn v185 F' (st_nil hi) ⟨trivial, trivial⟩ hy⟩) rfl
  · cases hr
/-! impl.length[float32] -/
noncomputable def impl_lengthF_LO (v186 : List Nat) : LOr := fun id e L =>
  match id with
  | _ => .fail
noncomputable def impl_lengthF_tab : List (FuncId × DFn × Bool) := []
theorem impl_lengthF_hO : OrcOk Try.prog (tabD impl_lengthF_tab) (tabM impl_lengthF_tab) := tabD_nil _
noncomputable def impl_lengthF_T (v186 : List Nat) : Tree (Int) :=
  .leaf ((v186.length : Nat) : Int)

noncomputable def impl_lengthF_g (v186 : List Nat) : Option (Int) := (impl_lengthF_T v186).run
def impl_lengthF_enc (v186 : List Nat) (y : Int) : Rs := (.int .i64 y, [])
theorem impl_lengthF_den (v186 : List Nat) : (den TT (tabD impl_lengthF_tab) (tabM impl_lengthF_tab) (impl_lengthF_LO v186) (codeOf Try.f80) ([.bslc (BR.root 0) (.f32 v186)] ++ List.replicate (Try.f80.ntmps - ([.bslc (BR.root 0) (.f32 v186)] : List DV).length) .undef) []).bind (retD TT Try.f80.results.toList 0) = (impl_lengthF_T v186).bind fun y => .leaf (impl_lengthF_enc v186 y) := by kernel_rfl
theorem impl_lengthF_fn (v186 : List Nat) (F : Fr) (h0 : St F [] F.H0) (hA : DVs.Ok F [] [.bslc (BR.root 0) (.f32 v186)]) {y : Int} (hy : impl_lengthF_g v186 = some y) : ∃ F' H', Fwd 0 F F' [] (impl_lengthF_enc v186 y).2 ∧ FnOk Try.prog 80 (DVs.av F [.bslc (BR.root 0) (.f32 v186)]) F.H0 ((impl_lengthF_enc v186 y).1.av F') H' ∧ St F' (impl_lengthF_enc v186 y).2 H' ∧ (impl_lengthF_enc v186 y).1.Ok F' (impl_lengthF_enc v186 y).2 :=
  fn_fin tok impl_lengthF_hO mixed Try.func80 Try.call80 (by kernel_rfl) (LoopsOk_eq (l := []) (by kernel_rfl) trivial) (impl_lengthF_den v186) hy h0 hA
def impl_lengthF_v (v186 : List Nat) : Int :=
  ((v186.length : Nat) : Int)
theorem impl_lengthF_tot (v186 : List Nat) : impl_lengthF_g v186 = some (impl_lengthF_v v186) := by
  unfold impl_lengthF_g impl_lengthF_T impl_lengthF_v
  simp only [Tree.run]
  repeat' (first | rfl | split)
noncomputable def impl_lengthF_F : DFn := fun args L =>
  match args with
  | [a1] =>
    optT (rowF32 L a1) fun v186 =>
    .leaf (.int .i64 (impl_lengthF_v v186), L)
  | _ => .fail
theorem impl_lengthF_Fok : COk Try.prog 80 impl_lengthF_F true := by
  intro F L H args r L' hs ha hr
  unfold impl_lengthF_F at hr
  split at hr
  · rename_i a1
    obtain ⟨v186, hv186, hr⟩ := optT_run hr
    have hy := impl_lengthF_tot v186
    generalize impl_lengthF_v v186 = y at hy hr
    simp only [Tree.run, Option.some.injEq, Prod.mk.injEq] at hr
    obtain ⟨rfl, rfl⟩ := hr
    exact call_ok0 hs (fun k => (([a1.av F] : List AV)[k]?).getD .top) [a1] [.bslc (BR.root 0) (.f32 v186)] (fun F' h0 hi hρ => ⟨by simp [DVs.av, DV.av, BR.av, hρ], impl_lengthF_fn v186 F' (st_nil hi) ⟨bslc_ok hi (by rw [h0, hρ]; exact rowF32_ok hs (DVs.okAt ha 0 rfl) hv186), trivial⟩ hy⟩) rfl
  · cases hr
/-! math.IsNaN -/
noncomputable def math_IsNaN_LO (v194 : Nat) : LOr := fun id e L =>
  match id with
  | _ => .fail
noncomputable def math_IsNaN_tab : List (FuncId × DFn × Bool) := []
theorem math_IsNaN_hO : OrcOk Try.prog (tabD math_IsNaN_tab) (tabM math_IsNaN_tab) := tabD_nil _
noncomputable def math_IsNaN_T (v194 : Nat) : Tree (Bool) :=
  .leaf (!feq .f64 v194 v194)

noncomputable def math_IsNaN_g (v194 : Nat) : Option (Bool) := (math_IsNaN_T v194).run
def math_IsNaN_enc (v194 : Nat) (y : Bool) : Rs := (.bool y, [])
theorem math_IsNaN_den (v194 : Nat) : (den TT (tabD math_IsNaN_tab) (tabM math_IsNaN_tab) (math_IsNaN_LO v194) (codeOf Try.f98) ([.flt .f64 v194] ++ List.replicate (Try.f98.ntmps - ([.flt .f64 v194] : List DV).length) .undef) []).bind (retD TT Try.f98.results.toList 0) = (math_IsNaN_T v194).bind fun y => .leaf (math_IsNaN_enc v194 y) := by kernel_rfl
theorem math_IsNaN_fn (v194 : Nat) (F : Fr) (h0 : St F [] F.H0) (hA : DVs.Ok F [] [.flt .f64 v194]) {y : Bool} (hy : math_IsNaN_g v194 = some y) : ∃ F' H', Fwd 0 F F' [] (math_IsNaN_enc v194 y).2 ∧ FnOk Try.prog 98 (DVs.av F [.flt .f64 v194]) F.H0 ((math_IsNaN_enc v194 y).1.av F') H' ∧ St F' (math_IsNaN_enc v194 y).2 H' ∧ (math_IsNaN_enc v194 y).1.Ok F' (math_IsNaN_enc v194 y).2 :=
  fn_fin tok math_IsNaN_hO mixed Try.func98 Try.call98 (by kernel_rfl) (LoopsOk_eq (l := []) (by kernel_rfl) trivial) (math_IsNaN_den v194) hy h0 hA
def math_IsNaN_v (v194 : Nat) : Bool :=
  !feq .f64 v194 v194
theorem math_IsNaN_tot (v194 : Nat) : math_IsNaN_g v194 = some (math_IsNaN_v v194) := by
  unfold math_IsNaN_g math_IsNaN_T math_IsNaN_v
  simp only [Tree.run]
  repeat' (first | rfl | split)
noncomputable def math_IsNaN_F : DFn := fun args L =>
  match args with
  | [.flt .f64 v194] =>
    .leaf (.bool (math_IsNaN_v v194), L)
  | _ => .fail
theorem math_IsNaN_Fok : COk Try.prog 98 math_IsNaN_F true := by
  intro F L H args r L' hs ha hr
  unfold math_IsNaN_F at hr
  split at hr
  · rename_i v194
    have hy := math_IsNaN_tot v194
    generalize math_IsNaN_v v194 = y at hy hr
    simp only [Tree.run, Option.some.injEq, Prod.mk.injEq] at hr
    obtain ⟨rfl, rfl⟩ := hr
    exact call_ok0 hs (fun k => (([] : List AV)[k]?).getD .top) [.flt .f64 v194] [.flt .f64 v194] (fun F' h0 hi hρ => ⟨by simp [DVs.av, DV.av, BR.av, hρ], math_IsNaN_fn v194 F' (st_nil hi) ⟨trivial, trivial⟩ hy⟩) rfl
  · cases hr
/-! math.IsInf -/
noncomputable def math_IsInf_LO (v195 : Nat) (v196 : Int) : LOr := fun id e L =>
  match id with
  | _ => .fail
noncomputable def math_IsInf_tab : List (FuncId × DFn × Bool) := [(100, Abs_F, true)]
theorem math_IsInf_hO : OrcOk Try.prog (tabD math_IsInf_tab) (tabM math_IsInf_tab) := tabD_cons Abs_Fok (tabD_nil _)
noncomputable def math_IsInf_T (v195 : Nat) (v196 : Int) : Tree (Bool) :=
  (.br (decide (v196 = (0 : Int))) (
  .leaf (fgrt .f64 (fabs v195) (9218868437227405311 : Nat))
  ) (
  (.br (decide (v196 < (0 : Int))) (
  .leaf (fgrt .f64 (fneg .f64 v195) (9218868437227405311 : Nat))
  ) (
  .leaf (fgrt .f64 v195 (9218868437227405311 : Nat))
  ))
  ))

noncomputable def math_IsInf_g (v195 : Nat) (v196 : Int) : Option (Bool) := (math_IsInf_T v195 v196).run
def math_IsInf_enc (v195 : Nat) (v196 : Int) (y : Bool) : Rs := (.bool y, [])
theorem math_IsInf_den (v195 : Nat) (v196 : Int) : (den TT (tabD math_IsInf_tab) (tabM math_IsInf_tab) (math_IsInf_LO v195 v196) (codeOf Try.f99) ([.flt .f64 v195, .int .i64 v196] ++ List.replicate (Try.f99.ntmps - ([.flt .f64 v195, .int .i64 v196] : List DV).length) .undef) []).bind (retD TT Try.f99.results.toList 0) = (math_IsInf_T v195 v196).bind fun y => .leaf (math_IsInf_enc v195 v196 y) := by kernel_rfl
theorem math_IsInf_fn (v195 : Nat) (v196 : Int) (F : Fr) (h0 : St F [] F.H0) (hA : DVs.Ok F [] [.flt .f64 v195, .int .i64 v196]) {y : Bool} (hy : math_IsInf_g v195 v196 = some y) : ∃ F' H', Fwd 0 F F' [] (math_IsInf_enc v195 v196 y).2 ∧ FnOk Try.prog 99 (DVs.av F [.flt .f64 v195, .int .i64 v196]) F.H0 ((math_IsInf_enc v195 v196 y).1.av F') H' ∧ St F' (math_IsInf_enc v195 v196 y).2 H' ∧ (math_IsInf_enc v195 v196 y).1.Ok F' (math_IsInf_enc v195 v196 y).2 :=
  fn_fin tok math_IsInf_hO mixed Try.func99 Try.call99 (by kernel_rfl) (LoopsOk_eq (l := []) (by kernel_rfl) trivial) (math_IsInf_den v195 v196) hy h0 hA
def math_IsInf_v (v195 : Nat) (v196 : Int) : Bool :=
  if (decide (v196 = (0 : Int))) = true then (
  fgrt .f64 (fabs v195) (9218868437227405311 : Nat)
  ) else (
  if (decide (v196 < (0 : Int))) = true then (
  fgrt .f64 (fneg .f64 v195) (9218868437227405311 : Nat)
  ) else (
  fgrt .f64 v195 (9218868437227405311 : Nat)
  )
  )
theorem math_IsInf_tot (v195 : Nat) (v196 : Int) : math_IsInf_g v195 v196 = some (math_IsInf_v v195 v196) := by
  unfold math_IsInf_g math_IsInf_T math_IsInf_v
  simp only [Tree.run]
  repeat' (first | rfl | split)
noncomputable def math_IsInf_F : DFn := fun args L =>
  match args with
  | [.flt .f64 v195, .int .i64 v196] =>
    .leaf (.bool (math_IsInf_v v195 v196), L)
  | _ => .fail
theorem math_IsInf_Fok : COk Try.prog 99 math_IsInf_F true := by
  intro F L H args r L' hs ha hr
  unfold math_IsInf_F at hr
  split at hr
  · rename_i v195 v196
    have hy := math_IsInf_tot v195 v196
    generalize math_IsInf_v v195 v196 = y at hy hr
    simp only [Tree.run, Option.some.injEq, Prod.mk.injEq] at hr
    obtain ⟨rfl, rfl⟩ := hr
    exact call_ok0 hs (fun k => (([] : List AV)[k]?).getD .top) [.flt .f64 v195, .int .i64 v196] [.flt .f64 v195, .int .i64 v196] (fun F' h0 hi hρ => ⟨by simp [DVs.av, DV.av, BR.av, hρ], math_IsInf_fn v195 v196 F' (st_nil hi) ⟨trivial, trivial, trivial⟩ hy⟩) rfl
  · cases hr
/-! impl.isFinite64 -/
noncomputable def impl_isFinite64_LO (v193 : Nat) : LOr := fun id e L =>
  match id with
  | _ => .fail
noncomputable def impl_isFinite64_tab : List (FuncId × DFn × Bool) := [(98, math_IsNaN_F, true), (99, math_IsInf_F, true)]
theorem impl_isFinite64_hO : OrcOk Try.prog (tabD impl_isFinite64_tab) (tabM impl_isFinite64_tab) := tabD_cons math_IsNaN_Fok (tabD_cons math_IsInf_Fok (tabD_nil _))
noncomputable def impl_isFinite64_T (v193 : Nat) : Tree (Bool) :=
  (.br (!(math_IsNaN_v v193)) (
  .leaf (!(math_IsInf_v v193 (0 : Int)))
  ) (
  .leaf false
  ))

noncomputable def impl_isFinite64_g (v193 : Nat) : Option (Bool) := (impl_isFinite64_T v193).run
def impl_isFinite64_enc (v193 : Nat) (y : Bool) : Rs := (.bool y, [])
theorem impl_isFinite64_den (v193 : Nat) : (den TT (tabD impl_isFinite64_tab) (tabM impl_isFinite64_tab) (impl_isFinite64_LO v193) (codeOf Try.f96) ([.flt .f64 v193] ++ List.replicate (Try.f96.ntmps - ([.flt .f64 v193] : List DV).length) .undef) []).bind (retD TT Try.f96.results.toList 0) = (impl_isFinite64_T v193).bind fun y => .leaf (impl_isFinite64_enc v193 y) := by kernel_rfl
theorem impl_isFinite64_fn (v193 : Nat) (F : Fr) (h0 : St F [] F.H0) (hA : DVs.Ok F [] [.flt .f64 v193]) {y : Bool} (hy : impl_isFinite64_g v193 = some y) : ∃ F' H', Fwd 0 F F' [] (impl_isFinite64_enc v193 y).2 ∧ FnOk Try.prog 96 (DVs.av F [.flt .f64 v193]) F.H0 ((impl_isFinite64_enc v193 y).1.av F') H' ∧ St F' (impl_isFinite64_enc v193 y).2 H' ∧ (impl_isFinite64_enc v193 y).1.Ok F' (impl_isFinite64_enc v193 y).2 :=
  fn_fin tok impl_isFinite64_hO mixed Try.func96 Try.call96 (by kernel_rfl) (LoopsOk_eq (l := []) (by kernel_rfl) trivial) (impl_isFinite64_den v193) hy h0 hA
def impl_isFinite64_v (v193 : Nat) : Bool :=
  if (!(math_IsNaN_v v193)) = true then (
  !(math_IsInf_v v193 (0 : Int))
  ) else (
  false
  )
theorem impl_isFinite64_tot (v193 : Nat) : impl_isFinite64_g v193 = some (impl_isFinite64_v v193) := by
  unfold impl_isFinite64_g impl_isFinite64_T impl_isFinite64_v
  simp only [Tree.run]
  repeat' (first | rfl | split)
noncomputable def impl_isFinite64_F : DFn := fun args L =>
  match args with
  | [.flt .f64 v193] =>
    .leaf (.bool (impl_isFinite64_v v193), L)
  | _ => .fail
theorem impl_isFinite64_Fok : COk Try.prog 96 impl_isFinite64_F true := by
  intro F L H args r L' hs ha hr
  unfold impl_isFinite64_F at hr
  split at hr
  · rename_i v193
    have hy := impl_isFinite64_tot v193
    generalize impl_isFinite64_v v193 = y at hy hr
    simp only [Tree.run, Option.some.injEq, Prod.mk.injEq] at hr
    obtain ⟨rfl, rfl⟩ := hr
    exact call_ok0 hs (fun k => (([] : List AV)[k]?).getD .top) [.flt .f64 v193] [.flt .f64 v193] (fun F' h0 hi hρ => ⟨by simp [DVs.av, DV.av, BR.av, hρ], impl_isFinite64_fn v193 F' (st_nil hi) ⟨trivial, trivial⟩ hy⟩) rfl
  · cases hr
/-! impl.IsFinite -/
noncomputable def impl_IsFinite_LO (v192 : Nat) : LOr := fun id e L =>
  match id with
  | _ => .fail
noncomputable def impl_IsFinite_tab : List (FuncId × DFn × Bool) := [(96, impl_isFinite64_F, true)]
theorem impl_IsFinite_hO : OrcOk Try.prog (tabD impl_IsFinite_tab) (tabM impl_IsFinite_tab) := tabD_cons impl_isFinite64_Fok (tabD_nil _)
noncomputable def impl_IsFinite_T (v192 : Nat) : Tree (Bool) :=
  .leaf (impl_isFinite64_v (wid v192))

noncomputable def impl_IsFinite_g (v192 : Nat) : Option (Bool) := (impl_IsFinite_T v192).run
def impl_IsFinite_enc (v192 : Nat) (y : Bool) : Rs := (.bool y, [])
theorem impl_IsFinite_den (v192 : Nat) : (den TT (tabD impl_IsFinite_tab) (tabM impl_IsFinite_tab) (impl_IsFinite_LO v192) (codeOf Try.f91) ([.flt .f32 v192] ++ List.replicate (Try.f91.ntmps - ([.flt .f32 v192] : List DV).length) .undef) []).bind (retD TT Try.f91.results.toList 0) = (impl_IsFinite_T v192).bind fun y => .leaf (impl_IsFinite_enc v192 y) := by kernel_rfl
theorem impl_IsFinite_fn (v192 : Nat) (F : Fr) (h0 : St F [] F.H0) (hA : DVs.Ok F [] [.flt .f32 v192]) {y : Bool} (hy : impl_IsFinite_g v192 = some y) : ∃ F' H', Fwd 0 F F' [] (impl_IsFinite_enc v192 y).2 ∧ FnOk Try.prog 91 (DVs.av F [.flt .f32 v192]) F.H0 ((impl_IsFinite_enc v192 y).1.av F') H' ∧ St F' (impl_IsFinite_enc v192 y).2 H' ∧ (impl_IsFinite_enc v192 y).1.Ok F' (impl_IsFinite_enc v192 y).2 :=
  fn_fin tok impl_IsFinite_hO mixed Try.func91 Try.call91 (by kernel_rfl) (LoopsOk_eq (l := []) (by kernel_rfl) trivial) (impl_IsFinite_den v192) hy h0 hA
def impl_IsFinite_v (v192 : Nat) : Bool :=
  (impl_isFinite64_v (wid v192))
theorem impl_IsFinite_tot (v192 : Nat) : impl_IsFinite_g v192 = some (impl_IsFinite_v v192) := by
  unfold impl_IsFinite_g impl_IsFinite_T impl_IsFinite_v
  simp only [Tree.run]
  repeat' (first | rfl | split)
noncomputable def impl_IsFinite_F : DFn := fun args L =>
  match args with
  | [.flt .f32 v192] =>
    .leaf (.bool (impl_IsFinite_v v192), L)
  | _ => .fail
theorem impl_IsFinite_Fok : COk Try.prog 91 impl_IsFinite_F true := by
  intro F L H args r L' hs ha hr
  unfold impl_IsFinite_F at hr
  split at hr
  · rename_i v192
    have hy := impl_IsFinite_tot v192
    generalize impl_IsFinite_v v192 = y at hy hr
    simp only [Tree.run, Option.some.injEq, Prod.mk.injEq] at hr
    obtain ⟨rfl, rfl⟩ := hr
    exact call_ok0 hs (fun k => (([] : List AV)[k]?).getD .top) [.flt .f32 v192] [.flt .f32 v192] (fun F' h0 hi hρ => ⟨by simp [DVs.av, DV.av, BR.av, hρ], impl_IsFinite_fn v192 F' (st_nil hi) ⟨trivial, trivial⟩ hy⟩) rfl
  · cases hr
/-! impl.areFinite$1 -/
noncomputable def impl_areFinite_1_LO (v191 : Nat) : LOr := fun id e L =>
  match id with
  | _ => .fail
noncomputable def impl_areFinite_1_tab : List (FuncId × DFn × Bool) := [(91, impl_IsFinite_F, true)]
theorem impl_areFinite_1_hO : OrcOk Try.prog (tabD impl_areFinite_1_tab) (tabM impl_areFinite_1_tab) := tabD_cons impl_IsFinite_Fok (tabD_nil _)
noncomputable def impl_areFinite_1_T (v191 : Nat) : Tree (Bool) :=
  .leaf (!(impl_IsFinite_v v191))

noncomputable def impl_areFinite_1_g (v191 : Nat) : Option (Bool) := (impl_areFinite_1_T v191).run
def impl_areFinite_1_enc (v191 : Nat) (y : Bool) : Rs := (.bool y, [])
theorem impl_areFinite_1_den (v191 : Nat) : (den TT (tabD impl_areFinite_1_tab) (tabM impl_areFinite_1_tab) (impl_areFinite_1_LO v191) (codeOf Try.f90) ([.flt .f32 v191] ++ List.replicate (Try.f90.ntmps - ([.flt .f32 v191] : List DV).length) .undef) []).bind (retD TT Try.f90.results.toList 0) = (impl_areFinite_1_T v191).bind fun y => .leaf (impl_areFinite_1_enc v191 y) := by kernel_rfl
theorem impl_areFinite_1_fn (v191 : Nat) (F : Fr) (h0 : St F [] F.H0) (hA : DVs.Ok F [] [.flt .f32 v191]) {y : Bool} (hy : impl_areFinite_1_g v191 = some y) : ∃ F' H', Fwd 0 F F' [] (impl_areFinite_1_enc v191 y).2 ∧ FnOk Try.prog 90 (DVs.av F [.flt .f32 v191]) F.H0 ((impl_areFinite_1_enc v191 y).1.av F') H' ∧ St F' (impl_areFinite_1_enc v191 y).2 H' ∧ (impl_areFinite_1_enc v191 y).1.Ok F' (impl_areFinite_1_enc v191 y).2 :=
  fn_fin tok impl_areFinite_1_hO mixed Try.func90 Try.call90 (by kernel_rfl) (LoopsOk_eq (l := []) (by kernel_rfl) trivial) (impl_areFinite_1_den v191) hy h0 hA
def impl_areFinite_1_v (v191 : Nat) : Bool :=
  !(impl_IsFinite_v v191)
theorem impl_areFinite_1_tot (v191 : Nat) : impl_areFinite_1_g v191 = some (impl_areFinite_1_v v191) := by
  unfold impl_areFinite_1_g impl_areFinite_1_T impl_areFinite_1_v
  simp only [Tree.run]
  repeat' (first | rfl | split)
noncomputable def impl_areFinite_1_F : DFn := fun args L =>
  match args with
  | [.flt .f32 v191] =>
    .leaf (.bool (impl_areFinite_1_v v191), L)
  | _ => .fail
theorem impl_areFinite_1_Fok : COk Try.prog 90 impl_areFinite_1_F true := by
  intro F L H args r L' hs ha hr
  unfold impl_areFinite_1_F at hr
  split at hr
  · rename_i v191
    have hy := impl_areFinite_1_tot v191
    generalize impl_areFinite_1_v v191 = y at hy hr
    simp only [Tree.run, Option.some.injEq, Prod.mk.injEq] at hr
    obtain ⟨rfl, rfl⟩ := hr
    exact call_ok0 hs (fun k => (([] : List AV)[k]?).getD .top) [.flt .f32 v191] [.flt .f32 v191] (fun F' h0 hi hρ => ⟨by simp [DVs.av, DV.av, BR.av, hρ], impl_areFinite_1_fn v191 F' (st_nil hi) ⟨trivial, trivial⟩ hy⟩) rfl
  · cases hr
/-! slices.IndexFunc[list of float32,float32] -/
noncomputable def slices_IndexFuncF_l0_T (v189 : List Nat) (s : Int) : Tree ((Int) ⊕ ((Int) ⊕ (Unit))) :=
  (.br (decide (s < ((v189.length : Nat) : Int))) (
  (.grd (inb s v189.length) <|
  (.br (impl_areFinite_1_v (nth v189 (Int.toNat s))) (
  .leaf (.inr (.inl s))
  ) (
  .leaf (.inl (IntKind.i64.wrap (s + (1 : Int))))
  )))
  ) (
  .leaf (.inr (.inr ()))
  ))

noncomputable def slices_IndexFuncF_l0_g (v189 : List Nat) (s0 : Int) : Option ((Int) ⊕ (Unit)) := whileM (fun s => (slices_IndexFuncF_l0_T v189 s).run) s0
def slices_IndexFuncF_l0_E (v189 : List Nat) (s : Int) : Sd := ([.bslc (BR.root 0) (.f32 v189),.fn 90 [],tp,tp,tp,tp,tp,.int .i64 ((v189.length : Nat) : Int),.int .i64 s,tp,tp,tp,tp,tp,tp,tp,tp,tp,tp], [])
def slices_IndexFuncF_l0_X (v189 : List Nat) (x : (Int) ⊕ (Unit)) : Out := (match x with | .inl x => (.ret, [tp,tp,tp,tp,.int .i64 x,tp,tp,tp,tp,tp,tp,tp,tp,tp,tp,tp,tp,tp,tp], []) | .inr x => (.normal, [tp,tp,tp,tp,tp,tp,tp,tp,tp,tp,tp,tp,tp,tp,tp,tp,tp,tp,tp], []))
def slices_IndexFuncF_l0_kill : List Nat := KL true [0,2,5,2,10]
def slices_IndexFuncF_l0_nx : Exit → List Nat
  | .exit 0 => KL true [19]
  | .ret => KL true [4,1,14]
  | _ => []
noncomputable def slices_IndexFuncF_LO (v189 : List Nat) : LOr := fun id e L =>
  match id with
  | 0 => .need (normA 0 slices_IndexFuncF_l0_kill e L = some (slices_IndexFuncF_l0_E v189 (gI (vAt e 8)))) (.call (slices_IndexFuncF_l0_g v189 (gI (vAt e 8))) fun x => .sum x (fun b0 => .leaf (slices_IndexFuncF_l0_X v189 (.inl b0))) (fun c0 => .leaf (slices_IndexFuncF_l0_X v189 (.inr c0))))
  | _ => .fail
noncomputable def slices_IndexFuncF_tab : List (FuncId × DFn × Bool) := [(90, impl_areFinite_1_F, true)]
theorem slices_IndexFuncF_hO : OrcOk Try.prog (tabD slices_IndexFuncF_tab) (tabM slices_IndexFuncF_tab) := tabD_cons impl_areFinite_1_Fok (tabD_nil _)
theorem slices_IndexFuncF_l0_be (v189 : List Nat) (s : Int) : bodyT TT (tabD slices_IndexFuncF_tab) (tabM slices_IndexFuncF_tab) (slices_IndexFuncF_LO v189) 0 slices_IndexFuncF_l0_kill slices_IndexFuncF_l0_nx (bodyOf Try.f95 0) 0 (slices_IndexFuncF_l0_E v189 s) = (slices_IndexFuncF_l0_T v189 s).bind fun y => .leaf (outS (slices_IndexFuncF_l0_E v189) (slices_IndexFuncF_l0_X v189) y) := by kernel_rfl
theorem slices_IndexFuncF_l0_ok (v189 : List Nat) : LSound Try.prog 0 (slices_IndexFuncF_LO v189) 0 (bodyOf Try.f95 0) := by
  intro e L out h
  exact lo_ok (E := slices_IndexFuncF_l0_E v189) (gT := slices_IndexFuncF_l0_T v189) (X := slices_IndexFuncF_l0_X v189) (s0 := (gI (vAt e 8))) tok slices_IndexFuncF_hO mixed (LoopsOk_eq (l := []) (by kernel_rfl) trivial) (slices_IndexFuncF_l0_be v189) rfl (by intro x; (cases x with | inl b => rfl | inr x => exact rfl)) h
noncomputable def slices_IndexFuncF_T (v189 : List Nat) : Tree (Int) :=
  (.need (some (slices_IndexFuncF_l0_E v189 (0 : Int)) = some (slices_IndexFuncF_l0_E v189 (0 : Int))) <|
  (.call (slices_IndexFuncF_l0_g v189 (0 : Int)) fun v199 =>
  (.sum v199 (fun v200 =>
  .leaf v200
  ) (fun v201 =>
  .leaf (-1 : Int)
  ))))

noncomputable def slices_IndexFuncF_g (v189 : List Nat) : Option (Int) := (slices_IndexFuncF_T v189).run
def slices_IndexFuncF_enc (v189 : List Nat) (y : Int) : Rs := (.int .i64 y, [])
theorem slices_IndexFuncF_den (v189 : List Nat) : (den TT (tabD slices_IndexFuncF_tab) (tabM slices_IndexFuncF_tab) (slices_IndexFuncF_LO v189) (codeOf Try.f95) ([.bslc (BR.root 0) (.f32 v189), .fn 90 []] ++ List.replicate (Try.f95.ntmps - ([.bslc (BR.root 0) (.f32 v189), .fn 90 []] : List DV).length) .undef) []).bind (retD TT Try.f95.results.toList 0) = (slices_IndexFuncF_T v189).bind fun y => .leaf (slices_IndexFuncF_enc v189 y) := by kernel_rfl
theorem slices_IndexFuncF_fn (v189 : List Nat) (F : Fr) (h0 : St F [] F.H0) (hA : DVs.Ok F [] [.bslc (BR.root 0) (.f32 v189), .fn 90 []]) {y : Int} (hy : slices_IndexFuncF_g v189 = some y) : ∃ F' H', Fwd 0 F F' [] (slices_IndexFuncF_enc v189 y).2 ∧ FnOk Try.prog 95 (DVs.av F [.bslc (BR.root 0) (.f32 v189), .fn 90 []]) F.H0 ((slices_IndexFuncF_enc v189 y).1.av F') H' ∧ St F' (slices_IndexFuncF_enc v189 y).2 H' ∧ (slices_IndexFuncF_enc v189 y).1.Ok F' (slices_IndexFuncF_enc v189 y).2 :=
  fn_fin tok slices_IndexFuncF_hO mixed Try.func95 Try.call95 (by kernel_rfl) (LoopsOk_eq (l := [(0, bodyOf Try.f95 0)]) (by kernel_rfl) ⟨slices_IndexFuncF_l0_ok v189, trivial⟩) (slices_IndexFuncF_den v189) hy h0 hA
noncomputable def slices_IndexFuncF_F : DFn := fun args L =>
  match args with
  | [a1, .fn 90 []] =>
    optT (rowF32 L a1) fun v189 =>
    .call (slices_IndexFuncF_g v189) fun y => .leaf (.int .i64 y, L)
  | _ => .fail
theorem slices_IndexFuncF_Fok : COk Try.prog 95 slices_IndexFuncF_F true := by
  intro F L H args r L' hs ha hr
  unfold slices_IndexFuncF_F at hr
  split at hr
  · rename_i a1
    obtain ⟨v189, hv189, hr⟩ := optT_run hr
    simp only [Tree.run] at hr
    obtain ⟨y, hy, hr⟩ := Option.bind_eq_some_iff.1 hr
    simp only [Tree.run, Option.some.injEq, Prod.mk.injEq] at hr
    obtain ⟨rfl, rfl⟩ := hr
    exact call_ok0 hs (fun k => (([a1.av F] : List AV)[k]?).getD .top) [a1, .fn 90 []] [.bslc (BR.root 0) (.f32 v189), .fn 90 []] (fun F' h0 hi hρ => ⟨by simp [DVs.av, DV.av, BR.av, hρ], slices_IndexFuncF_fn v189 F' (st_nil hi) ⟨bslc_ok hi (by rw [h0, hρ]; exact rowF32_ok hs (DVs.okAt ha 0 rfl) hv189), trivial, trivial⟩ hy⟩) rfl
  · cases hr
/-! slices.ContainsFunc[list of float32,float32] -/
noncomputable def slices_ContainsFuncF_LO (v188 : List Nat) : LOr := fun id e L =>
  match id with
  | _ => .fail
noncomputable def slices_ContainsFuncF_tab : List (FuncId × DFn × Bool) := [(95, slices_IndexFuncF_F, true)]
theorem slices_ContainsFuncF_hO : OrcOk Try.prog (tabD slices_ContainsFuncF_tab) (tabM slices_ContainsFuncF_tab) := tabD_cons slices_IndexFuncF_Fok (tabD_nil _)
noncomputable def slices_ContainsFuncF_T (v188 : List Nat) : Tree (Bool) :=
  (.call (slices_IndexFuncF_g v188) fun v202 =>
  .leaf (decide ((0 : Int) ≤ v202)))

noncomputable def slices_ContainsFuncF_g (v188 : List Nat) : Option (Bool) := (slices_ContainsFuncF_T v188).run
def slices_ContainsFuncF_enc (v188 : List Nat) (y : Bool) : Rs := (.bool y, [])
theorem slices_ContainsFuncF_den (v188 : List Nat) : (den TT (tabD slices_ContainsFuncF_tab) (tabM slices_ContainsFuncF_tab) (slices_ContainsFuncF_LO v188) (codeOf Try.f89) ([.bslc (BR.root 0) (.f32 v188), .fn 90 []] ++ List.replicate (Try.f89.ntmps - ([.bslc (BR.root 0) (.f32 v188), .fn 90 []] : List DV).length) .undef) []).bind (retD TT Try.f89.results.toList 0) = (slices_ContainsFuncF_T v188).bind fun y => .leaf (slices_ContainsFuncF_enc v188 y) := by kernel_rfl
theorem slices_ContainsFuncF_fn (v188 : List Nat) (F : Fr) (h0 : St F [] F.H0) (hA : DVs.Ok F [] [.bslc (BR.root 0) (.f32 v188), .fn 90 []]) {y : Bool} (hy : slices_ContainsFuncF_g v188 = some y) : ∃ F' H', Fwd 0 F F' [] (slices_ContainsFuncF_enc v188 y).2 ∧ FnOk Try.prog 89 (DVs.av F [.bslc (BR.root 0) (.f32 v188), .fn 90 []]) F.H0 ((slices_ContainsFuncF_enc v188 y).1.av F') H' ∧ St F' (slices_ContainsFuncF_enc v188 y).2 H' ∧ (slices_ContainsFuncF_enc v188 y).1.Ok F' (slices_ContainsFuncF_enc v188 y).2 :=
  fn_fin tok slices_ContainsFuncF_hO mixed Try.func89 Try.call89 (by kernel_rfl) (LoopsOk_eq (l := []) (by kernel_rfl) trivial) (slices_ContainsFuncF_den v188) hy h0 hA
noncomputable def slices_ContainsFuncF_F : DFn := fun args L =>
  match args with
  | [a1, .fn 90 []] =>
    optT (rowF32 L a1) fun v188 =>
    .call (slices_ContainsFuncF_g v188) fun y => .leaf (.bool y, L)
  | _ => .fail
theorem slices_ContainsFuncF_Fok : COk Try.prog 89 slices_ContainsFuncF_F true := by
  intro F L H args r L' hs ha hr
  unfold slices_ContainsFuncF_F at hr
  split at hr
  · rename_i a1
    obtain ⟨v188, hv188, hr⟩ := optT_run hr
    simp only [Tree.run] at hr
    obtain ⟨y, hy, hr⟩ := Option.bind_eq_some_iff.1 hr
    simp only [Tree.run, Option.some.injEq, Prod.mk.injEq] at hr
    obtain ⟨rfl, rfl⟩ := hr
    exact call_ok0 hs (fun k => (([a1.av F] : List AV)[k]?).getD .top) [a1, .fn 90 []] [.bslc (BR.root 0) (.f32 v188), .fn 90 []] (fun F' h0 hi hρ => ⟨by simp [DVs.av, DV.av, BR.av, hρ], slices_ContainsFuncF_fn v188 F' (st_nil hi) ⟨bslc_ok hi (by rw [h0, hρ]; exact rowF32_ok hs (DVs.okAt ha 0 rfl) hv188), trivial, trivial⟩ hy⟩) rfl
  · cases hr
/-! impl.areFinite -/
noncomputable def impl_areFinite_LO (v187 : List Nat) : LOr := fun id e L =>
  match id with
  | _ => .fail
noncomputable def impl_areFinite_tab : List (FuncId × DFn × Bool) := [(89, slices_ContainsFuncF_F, true)]
theorem impl_areFinite_hO : OrcOk Try.prog (tabD impl_areFinite_tab) (tabM impl_areFinite_tab) := tabD_cons slices_ContainsFuncF_Fok (tabD_nil _)
noncomputable def impl_areFinite_T (v187 : List Nat) : Tree (Bool) :=
  (.call (slices_ContainsFuncF_g v187) fun v203 =>
  .leaf (!v203))

noncomputable def impl_areFinite_g (v187 : List Nat) : Option (Bool) := (impl_areFinite_T v187).run
def impl_areFinite_enc (v187 : List Nat) (y : Bool) : Rs := (.bool y, [])
theorem impl_areFinite_den (v187 : List Nat) : (den TT (tabD impl_areFinite_tab) (tabM impl_areFinite_tab) (impl_areFinite_LO v187) (codeOf Try.f81) ([.bslc (BR.root 0) (.f32 v187)] ++ List.replicate (Try.f81.ntmps - ([.bslc (BR.root 0) (.f32 v187)] : List DV).length) .undef) []).bind (retD TT Try.f81.results.toList 0) = (impl_areFinite_T v187).bind fun y => .leaf (impl_areFinite_enc v187 y) := by kernel_rfl
theorem impl_areFinite_fn (v187 : List Nat) (F : Fr) (h0 : St F [] F.H0) (hA : DVs.Ok F [] [.bslc (BR.root 0) (.f32 v187)]) {y : Bool} (hy : impl_areFinite_g v187 = some y) : ∃ F' H', Fwd 0 F F' [] (impl_areFinite_enc v187 y).2 ∧ FnOk Try.prog 81 (DVs.av F [.bslc (BR.root 0) (.f32 v187)]) F.H0 ((impl_areFinite_enc v187 y).1.av F') H' ∧ St F' (impl_areFinite_enc v187 y).2 H' ∧ (impl_areFinite_enc v187 y).1.Ok F' (impl_areFinite_enc v187 y).2 :=
  fn_fin tok impl_areFinite_hO mixed Try.func81 Try.call81 (by kernel_rfl) (LoopsOk_eq (l := []) (by kernel_rfl) trivial) (impl_areFinite_den v187) hy h0 hA
noncomputable def impl_areFinite_F : DFn := fun args L =>
  match args with
  | [a1] =>
    optT (rowF32 L a1) fun v187 =>
    .call (impl_areFinite_g v187) fun y => .leaf (.bool y, L)
  | _ => .fail
theorem impl_areFinite_Fok : COk Try.prog 81 impl_areFinite_F true := by
  intro F L H args r L' hs ha hr
  unfold impl_areFinite_F at hr
  split at hr
  · rename_i a1
    obtain ⟨v187, hv187, hr⟩ := optT_run hr
    simp only [Tree.run] at hr
    obtain ⟨y, hy, hr⟩ := Option.bind_eq_some_iff.1 hr
    simp only [Tree.run, Option.some.injEq, Prod.mk.injEq] at hr
    obtain ⟨rfl, rfl⟩ := hr
    exact call_ok0 hs (fun k => (([a1.av F] : List AV)[k]?).getD .top) [a1] [.bslc (BR.root 0) (.f32 v187)] (fun F' h0 hi hρ => ⟨by simp [DVs.av, DV.av, BR.av, hρ], impl_areFinite_fn v187 F' (st_nil hi) ⟨bslc_ok hi (by rw [h0, hρ]; exact rowF32_ok hs (DVs.okAt ha 0 rfl) hv187), trivial⟩ hy⟩) rfl
  · cases hr
/-! impl.ValidMatrix -/
noncomputable def impl_ValidMatrix_LO (v182 : Int) (v183 : Int) (v184 : List Nat) : LOr := fun id e L =>
  match id with
  | _ => .fail
noncomputable def impl_ValidMatrix_tab : List (FuncId × DFn × Bool) := [(79, impl_isSide_F, true), (80, impl_lengthF_F, true), (81, impl_areFinite_F, true)]
theorem impl_ValidMatrix_hO : OrcOk Try.prog (tabD impl_ValidMatrix_tab) (tabM impl_ValidMatrix_tab) := tabD_cons impl_isSide_Fok (tabD_cons impl_lengthF_Fok (tabD_cons impl_areFinite_Fok (tabD_nil _)))
noncomputable def impl_ValidMatrix_T (v182 : Int) (v183 : Int) (v184 : List Nat) : Tree (Bool) :=
  (.br (impl_isSide_v v182) (
  (.br (impl_isSide_v v183) (
  (.br (decide ((impl_lengthF_v v184) = IntKind.i64.wrap (v182 * v183))) (
  (.call (impl_areFinite_g v184) fun v204 =>
  .leaf v204)
  ) (
  .leaf false
  ))
  ) (
  .leaf false
  ))
  ) (
  .leaf false
  ))

noncomputable def impl_ValidMatrix_g (v182 : Int) (v183 : Int) (v184 : List Nat) : Option (Bool) := (impl_ValidMatrix_T v182 v183 v184).run
def impl_ValidMatrix_enc (v182 : Int) (v183 : Int) (v184 : List Nat) (y : Bool) : Rs := (.bool y, [])
theorem impl_ValidMatrix_den (v182 : Int) (v183 : Int) (v184 : List Nat) : (den TT (tabD impl_ValidMatrix_tab) (tabM impl_ValidMatrix_tab) (impl_ValidMatrix_LO v182 v183 v184) (codeOf Try.f58) ([.agg [.int .i64 v182, .int .i64 v183, .bslc (BR.root 0) (.f32 v184)]] ++ List.replicate (Try.f58.ntmps - ([.agg [.int .i64 v182, .int .i64 v183, .bslc (BR.root 0) (.f32 v184)]] : List DV).length) .undef) []).bind (retD TT Try.f58.results.toList 0) = (impl_ValidMatrix_T v182 v183 v184).bind fun y => .leaf (impl_ValidMatrix_enc v182 v183 v184 y) := by kernel_rfl
theorem impl_ValidMatrix_fn (v182 : Int) (v183 : Int) (v184 : List Nat) (F : Fr) (h0 : St F [] F.H0) (hA : DVs.Ok F [] [.agg [.int .i64 v182, .int .i64 v183, .bslc (BR.root 0) (.f32 v184)]]) {y : Bool} (hy : impl_ValidMatrix_g v182 v183 v184 = some y) : ∃ F' H', Fwd 0 F F' [] (impl_ValidMatrix_enc v182 v183 v184 y).2 ∧ FnOk Try.prog 58 (DVs.av F [.agg [.int .i64 v182, .int .i64 v183, .bslc (BR.root 0) (.f32 v184)]]) F.H0 ((impl_ValidMatrix_enc v182 v183 v184 y).1.av F') H' ∧ St F' (impl_ValidMatrix_enc v182 v183 v184 y).2 H' ∧ (impl_ValidMatrix_enc v182 v183 v184 y).1.Ok F' (impl_ValidMatrix_enc v182 v183 v184 y).2 :=
  fn_fin tok impl_ValidMatrix_hO mixed Try.func58 Try.call58 (by kernel_rfl) (LoopsOk_eq (l := []) (by kernel_rfl) trivial) (impl_ValidMatrix_den v182 v183 v184) hy h0 hA
noncomputable def impl_ValidMatrix_F : DFn := fun args L =>
  match args with
  | [.agg [.int .i64 v182, .int .i64 v183, a1]] =>
    optT (rowF32 L a1) fun v184 =>
    .call (impl_ValidMatrix_g v182 v183 v184) fun y => .leaf (.bool y, L)
  | _ => .fail
theorem impl_ValidMatrix_Fok : COk Try.prog 58 impl_ValidMatrix_F true := by
  intro F L H args r L' hs ha hr
  unfold impl_ValidMatrix_F at hr
  split at hr
  · rename_i v182 v183 a1
    obtain ⟨v184, hv184, hr⟩ := optT_run hr
    simp only [Tree.run] at hr
    obtain ⟨y, hy, hr⟩ := Option.bind_eq_some_iff.1 hr
    simp only [Tree.run, Option.some.injEq, Prod.mk.injEq] at hr
    obtain ⟨rfl, rfl⟩ := hr
    exact call_ok0 hs (fun k => (([a1.av F] : List AV)[k]?).getD .top) [.agg [.int .i64 v182, .int .i64 v183, a1]] [.agg [.int .i64 v182, .int .i64 v183, .bslc (BR.root 0) (.f32 v184)]] (fun F' h0 hi hρ => ⟨by simp [DVs.av, DV.av, BR.av, hρ], impl_ValidMatrix_fn v182 v183 v184 F' (st_nil hi) ⟨⟨trivial, trivial, bslc_ok hi (by rw [h0, hρ]; exact rowF32_ok hs (DVs.okAt (DVs.okAt ha 0 rfl) 2 rfl) hv184), trivial⟩, trivial⟩ hy⟩) rfl
  · cases hr
/-! impl.ValidSheet -/
noncomputable def impl_ValidSheet_LO (v167 : ByteArray) (v168 : Int) (v169 : Int) (v170 : List Nat) : LOr := fun id e L =>
  match id with
  | _ => .fail
noncomputable def impl_ValidSheet_tab : List (FuncId × DFn × Bool) := [(57, impl_IsName_F, true), (58, impl_ValidMatrix_F, true)]
theorem impl_ValidSheet_hO : OrcOk Try.prog (tabD impl_ValidSheet_tab) (tabM impl_ValidSheet_tab) := tabD_cons impl_IsName_Fok (tabD_cons impl_ValidMatrix_Fok (tabD_nil _))
noncomputable def impl_ValidSheet_T (v167 : ByteArray) (v168 : Int) (v169 : Int) (v170 : List Nat) : Tree (Bool) :=
  (.call (impl_IsName_g v167) fun v181 =>
  (.br v181 (
  (.call (impl_ValidMatrix_g v168 v169 v170) fun v205 =>
  .leaf v205)
  ) (
  .leaf false
  )))

noncomputable def impl_ValidSheet_g (v167 : ByteArray) (v168 : Int) (v169 : Int) (v170 : List Nat) : Option (Bool) := (impl_ValidSheet_T v167 v168 v169 v170).run
def impl_ValidSheet_enc (v167 : ByteArray) (v168 : Int) (v169 : Int) (v170 : List Nat) (y : Bool) : Rs := (.bool y, [])
theorem impl_ValidSheet_den (v167 : ByteArray) (v168 : Int) (v169 : Int) (v170 : List Nat) : (den TT (tabD impl_ValidSheet_tab) (tabM impl_ValidSheet_tab) (impl_ValidSheet_LO v167 v168 v169 v170) (codeOf Try.f31) ([.agg [.str v167, .int .i64 v168, .int .i64 v169, .bslc (BR.root 0) (.f32 v170)]] ++ List.replicate (Try.f31.ntmps - ([.agg [.str v167, .int .i64 v168, .int .i64 v169, .bslc (BR.root 0) (.f32 v170)]] : List DV).length) .undef) []).bind (retD TT Try.f31.results.toList 0) = (impl_ValidSheet_T v167 v168 v169 v170).bind fun y => .leaf (impl_ValidSheet_enc v167 v168 v169 v170 y) := by kernel_rfl
theorem impl_ValidSheet_fn (v167 : ByteArray) (v168 : Int) (v169 : Int) (v170 : List Nat) (F : Fr) (h0 : St F [] F.H0) (hA : DVs.Ok F [] [.agg [.str v167, .int .i64 v168, .int .i64 v169, .bslc (BR.root 0) (.f32 v170)]]) {y : Bool} (hy : impl_ValidSheet_g v167 v168 v169 v170 = some y) : ∃ F' H', Fwd 0 F F' [] (impl_ValidSheet_enc v167 v168 v169 v170 y).2 ∧ FnOk Try.prog 31 (DVs.av F [.agg [.str v167, .int .i64 v168, .int .i64 v169, .bslc (BR.root 0) (.f32 v170)]]) F.H0 ((impl_ValidSheet_enc v167 v168 v169 v170 y).1.av F') H' ∧ St F' (impl_ValidSheet_enc v167 v168 v169 v170 y).2 H' ∧ (impl_ValidSheet_enc v167 v168 v169 v170 y).1.Ok F' (impl_ValidSheet_enc v167 v168 v169 v170 y).2 :=
  fn_fin tok impl_ValidSheet_hO mixed Try.func31 Try.call31 (by kernel_rfl) (LoopsOk_eq (l := []) (by kernel_rfl) trivial) (impl_ValidSheet_den v167 v168 v169 v170) hy h0 hA
noncomputable def impl_ValidSheet_F : DFn := fun args L =>
  match args with
  | [.agg [.str v167, .int .i64 v168, .int .i64 v169, a1]] =>
    optT (rowF32 L a1) fun v170 =>
    .call (impl_ValidSheet_g v167 v168 v169 v170) fun y => .leaf (.bool y, L)
  | _ => .fail
theorem impl_ValidSheet_Fok : COk Try.prog 31 impl_ValidSheet_F true := by
  intro F L H args r L' hs ha hr
  unfold impl_ValidSheet_F at hr
  split at hr
  · rename_i v167 v168 v169 a1
    obtain ⟨v170, hv170, hr⟩ := optT_run hr
    simp only [Tree.run] at hr
    obtain ⟨y, hy, hr⟩ := Option.bind_eq_some_iff.1 hr
    simp only [Tree.run, Option.some.injEq, Prod.mk.injEq] at hr
    obtain ⟨rfl, rfl⟩ := hr
    exact call_ok0 hs (fun k => (([a1.av F] : List AV)[k]?).getD .top) [.agg [.str v167, .int .i64 v168, .int .i64 v169, a1]] [.agg [.str v167, .int .i64 v168, .int .i64 v169, .bslc (BR.root 0) (.f32 v170)]] (fun F' h0 hi hρ => ⟨by simp [DVs.av, DV.av, BR.av, hρ], impl_ValidSheet_fn v167 v168 v169 v170 F' (st_nil hi) ⟨⟨trivial, trivial, trivial, bslc_ok hi (by rw [h0, hρ]; exact rowF32_ok hs (DVs.okAt (DVs.okAt ha 0 rfl) 3 rfl) hv170), trivial⟩, trivial⟩ hy⟩) rfl
  · cases hr
/-! impl.StoreSheets$1 -/
noncomputable def impl_StoreSheets_1_LO (v163 : ByteArray) (v164 : Int) (v165 : Int) (v166 : List Nat) : LOr := fun id e L =>
  match id with
  | _ => .fail
noncomputable def impl_StoreSheets_1_tab : List (FuncId × DFn × Bool) := [(31, impl_ValidSheet_F, true)]
theorem impl_StoreSheets_1_hO : OrcOk Try.prog (tabD impl_StoreSheets_1_tab) (tabM impl_StoreSheets_1_tab) := tabD_cons impl_ValidSheet_Fok (tabD_nil _)
noncomputable def impl_StoreSheets_1_T (v163 : ByteArray) (v164 : Int) (v165 : Int) (v166 : List Nat) : Tree (Bool) :=
  (.call (impl_ValidSheet_g v163 v164 v165 v166) fun v206 =>
  .leaf (!v206))

noncomputable def impl_StoreSheets_1_g (v163 : ByteArray) (v164 : Int) (v165 : Int) (v166 : List Nat) : Option (Bool) := (impl_StoreSheets_1_T v163 v164 v165 v166).run
def impl_StoreSheets_1_enc (v163 : ByteArray) (v164 : Int) (v165 : Int) (v166 : List Nat) (y : Bool) : Rs := (.bool y, [])
theorem impl_StoreSheets_1_den (v163 : ByteArray) (v164 : Int) (v165 : Int) (v166 : List Nat) : (den TT (tabD impl_StoreSheets_1_tab) (tabM impl_StoreSheets_1_tab) (impl_StoreSheets_1_LO v163 v164 v165 v166) (codeOf Try.f48) ([.agg [.str v163, .int .i64 v164, .int .i64 v165, .bslc (BR.root 0) (.f32 v166)]] ++ List.replicate (Try.f48.ntmps - ([.agg [.str v163, .int .i64 v164, .int .i64 v165, .bslc (BR.root 0) (.f32 v166)]] : List DV).length) .undef) []).bind (retD TT Try.f48.results.toList 0) = (impl_StoreSheets_1_T v163 v164 v165 v166).bind fun y => .leaf (impl_StoreSheets_1_enc v163 v164 v165 v166 y) := by kernel_rfl
theorem impl_StoreSheets_1_fn (v163 : ByteArray) (v164 : Int) (v165 : Int) (v166 : List Nat) (F : Fr) (h0 : St F [] F.H0) (hA : DVs.Ok F [] [.agg [.str v163, .int .i64 v164, .int .i64 v165, .bslc (BR.root 0) (.f32 v166)]]) {y : Bool} (hy : impl_StoreSheets_1_g v163 v164 v165 v166 = some y) : ∃ F' H', Fwd 0 F F' [] (impl_StoreSheets_1_enc v163 v164 v165 v166 y).2 ∧ FnOk Try.prog 48 (DVs.av F [.agg [.str v163, .int .i64 v164, .int .i64 v165, .bslc (BR.root 0) (.f32 v166)]]) F.H0 ((impl_StoreSheets_1_enc v163 v164 v165 v166 y).1.av F') H' ∧ St F' (impl_StoreSheets_1_enc v163 v164 v165 v166 y).2 H' ∧ (impl_StoreSheets_1_enc v163 v164 v165 v166 y).1.Ok F' (impl_StoreSheets_1_enc v163 v164 v165 v166 y).2 :=
  fn_fin tok impl_StoreSheets_1_hO mixed Try.func48 Try.call48 (by kernel_rfl) (LoopsOk_eq (l := []) (by kernel_rfl) trivial) (impl_StoreSheets_1_den v163 v164 v165 v166) hy h0 hA
noncomputable def impl_StoreSheets_1_F : DFn := fun args L =>
  match args with
  | [.agg [.str v163, .int .i64 v164, .int .i64 v165, a1]] =>
    optT (rowF32 L a1) fun v166 =>
    .call (impl_StoreSheets_1_g v163 v164 v165 v166) fun y => .leaf (.bool y, L)
  | _ => .fail
theorem impl_StoreSheets_1_Fok : COk Try.prog 48 impl_StoreSheets_1_F true := by
  intro F L H args r L' hs ha hr
  unfold impl_StoreSheets_1_F at hr
  split at hr
  · rename_i v163 v164 v165 a1
    obtain ⟨v166, hv166, hr⟩ := optT_run hr
    simp only [Tree.run] at hr
    obtain ⟨y, hy, hr⟩ := Option.bind_eq_some_iff.1 hr
    simp only [Tree.run, Option.some.injEq, Prod.mk.injEq] at hr
    obtain ⟨rfl, rfl⟩ := hr
    exact call_ok0 hs (fun k => (([a1.av F] : List AV)[k]?).getD .top) [.agg [.str v163, .int .i64 v164, .int .i64 v165, a1]] [.agg [.str v163, .int .i64 v164, .int .i64 v165, .bslc (BR.root 0) (.f32 v166)]] (fun F' h0 hi hρ => ⟨by simp [DVs.av, DV.av, BR.av, hρ], impl_StoreSheets_1_fn v163 v164 v165 v166 F' (st_nil hi) ⟨⟨trivial, trivial, trivial, bslc_ok hi (by rw [h0, hρ]; exact rowF32_ok hs (DVs.okAt (DVs.okAt ha 0 rfl) 3 rfl) hv166), trivial⟩, trivial⟩ hy⟩) rfl
  · cases hr
/-! slices.IndexFunc[list of impl.Sheet,impl.Sheet] -/
noncomputable def slices_IndexFunc_impl_Sheet_impl_Sheet_nst_l0_T (v157 : List ByteArray) (v158 : List Int) (v159 : List Int) (v160 : List (List Nat)) (v161 : List Nat) (s : Int) : Tree ((Int) ⊕ ((Int) ⊕ (Unit))) :=
  (.br (decide (s < (((v157).length : Nat) : Int))) (
  (.grd (inb s ((v157).length)) <|
  (.call (impl_StoreSheets_1_g (nth v157 (Int.toNat s)) (nth v158 (Int.toNat s)) (nth v159 (Int.toNat s)) (nget v160 (nth v161 (Int.toNat s)))) fun v211 =>
  (.br v211 (
  .leaf (.inr (.inl s))
  ) (
  .leaf (.inl (IntKind.i64.wrap (s + (1 : Int))))
  ))))
  ) (
  .leaf (.inr (.inr ()))
  ))

noncomputable def slices_IndexFunc_impl_Sheet_impl_Sheet_nst_l0_g (v157 : List ByteArray) (v158 : List Int) (v159 : List Int) (v160 : List (List Nat)) (v161 : List Nat) (s0 : Int) : Option ((Int) ⊕ (Unit)) := whileM (fun s => (slices_IndexFunc_impl_Sheet_impl_Sheet_nst_l0_T v157 v158 v159 v160 v161 s).run) s0
def slices_IndexFunc_impl_Sheet_impl_Sheet_nst_l0_E (v157 : List ByteArray) (v158 : List Int) (v159 : List Int) (v160 : List (List Nat)) (v161 : List Nat) (s : Int) : Sd := ([.nest 0 0 4 ((v157).length),.fn 48 [],tp,tp,tp,tp,tp,.int .i64 (((v157).length : Nat) : Int),.int .i64 s,tp,tp,tp,tp,tp,tp,tp,tp,tp,tp], [.nest [.pl (.str v157), .pl (.i64 v158), .pl (.i64 v159), .sl (.f32 v160) v161] false 0])
def slices_IndexFunc_impl_Sheet_impl_Sheet_nst_l0_X (v157 : List ByteArray) (v158 : List Int) (v159 : List Int) (v160 : List (List Nat)) (v161 : List Nat) (x : (Int) ⊕ (Unit)) : Out := (match x with | .inl x => (.ret, [tp,tp,tp,tp,.int .i64 x,tp,tp,tp,tp,tp,tp,tp,tp,tp,tp,tp,tp,tp,tp], [.nest [.pl (.str v157), .pl (.i64 v158), .pl (.i64 v159), .sl (.f32 v160) v161] false 0]) | .inr x => (.normal, [tp,tp,tp,tp,tp,tp,tp,tp,tp,tp,tp,tp,tp,tp,tp,tp,tp,tp,tp], [.nest [.pl (.str v157), .pl (.i64 v158), .pl (.i64 v159), .sl (.f32 v160) v161] false 0]))
def slices_IndexFunc_impl_Sheet_impl_Sheet_nst_l0_kill : List Nat := KL true [0,2,5,2,10]
def slices_IndexFunc_impl_Sheet_impl_Sheet_nst_l0_nx : Exit → List Nat
  | .exit 0 => KL true [19]
  | .ret => KL true [4,1,14]
  | _ => []
noncomputable def slices_IndexFunc_impl_Sheet_impl_Sheet_nst_LO (v157 : List ByteArray) (v158 : List Int) (v159 : List Int) (v160 : List (List Nat)) (v161 : List Nat) : LOr := fun id e L =>
  match id with
  | 0 => .need (normA 1 slices_IndexFunc_impl_Sheet_impl_Sheet_nst_l0_kill e L = some (slices_IndexFunc_impl_Sheet_impl_Sheet_nst_l0_E v157 v158 v159 v160 v161 (gI (vAt e 8)))) (.call (slices_IndexFunc_impl_Sheet_impl_Sheet_nst_l0_g v157 v158 v159 v160 v161 (gI (vAt e 8))) fun x => .sum x (fun b0 => .leaf (slices_IndexFunc_impl_Sheet_impl_Sheet_nst_l0_X v157 v158 v159 v160 v161 (.inl b0))) (fun c0 => .leaf (slices_IndexFunc_impl_Sheet_impl_Sheet_nst_l0_X v157 v158 v159 v160 v161 (.inr c0))))
  | _ => .fail
noncomputable def slices_IndexFunc_impl_Sheet_impl_Sheet_nst_tab : List (FuncId × DFn × Bool) := [(48, impl_StoreSheets_1_F, true)]
theorem slices_IndexFunc_impl_Sheet_impl_Sheet_nst_hO : OrcOk Try.prog (tabD slices_IndexFunc_impl_Sheet_impl_Sheet_nst_tab) (tabM slices_IndexFunc_impl_Sheet_impl_Sheet_nst_tab) := tabD_cons impl_StoreSheets_1_Fok (tabD_nil _)
theorem slices_IndexFunc_impl_Sheet_impl_Sheet_nst_l0_be (v157 : List ByteArray) (v158 : List Int) (v159 : List Int) (v160 : List (List Nat)) (v161 : List Nat) (s : Int) : bodyT TT (tabD slices_IndexFunc_impl_Sheet_impl_Sheet_nst_tab) (tabM slices_IndexFunc_impl_Sheet_impl_Sheet_nst_tab) (slices_IndexFunc_impl_Sheet_impl_Sheet_nst_LO v157 v158 v159 v160 v161) 1 slices_IndexFunc_impl_Sheet_impl_Sheet_nst_l0_kill slices_IndexFunc_impl_Sheet_impl_Sheet_nst_l0_nx (bodyOf Try.f75 0) 0 (slices_IndexFunc_impl_Sheet_impl_Sheet_nst_l0_E v157 v158 v159 v160 v161 s) = (slices_IndexFunc_impl_Sheet_impl_Sheet_nst_l0_T v157 v158 v159 v160 v161 s).bind fun y => .leaf (outS (slices_IndexFunc_impl_Sheet_impl_Sheet_nst_l0_E v157 v158 v159 v160 v161) (slices_IndexFunc_impl_Sheet_impl_Sheet_nst_l0_X v157 v158 v159 v160 v161) y) := by kernel_rfl
theorem slices_IndexFunc_impl_Sheet_impl_Sheet_nst_l0_ok (v157 : List ByteArray) (v158 : List Int) (v159 : List Int) (v160 : List (List Nat)) (v161 : List Nat) : LSound Try.prog 1 (slices_IndexFunc_impl_Sheet_impl_Sheet_nst_LO v157 v158 v159 v160 v161) 0 (bodyOf Try.f75 0) := by
  intro e L out h
  exact lo_ok (E := slices_IndexFunc_impl_Sheet_impl_Sheet_nst_l0_E v157 v158 v159 v160 v161) (gT := slices_IndexFunc_impl_Sheet_impl_Sheet_nst_l0_T v157 v158 v159 v160 v161) (X := slices_IndexFunc_impl_Sheet_impl_Sheet_nst_l0_X v157 v158 v159 v160 v161) (s0 := (gI (vAt e 8))) tok slices_IndexFunc_impl_Sheet_impl_Sheet_nst_hO mixed (LoopsOk_eq (l := []) (by kernel_rfl) trivial) (slices_IndexFunc_impl_Sheet_impl_Sheet_nst_l0_be v157 v158 v159 v160 v161) rfl (by intro x; (cases x with | inl b => rfl | inr x => exact rfl)) h
noncomputable def slices_IndexFunc_impl_Sheet_impl_Sheet_nst_T (v157 : List ByteArray) (v158 : List Int) (v159 : List Int) (v160 : List (List Nat)) (v161 : List Nat) : Tree (Int) :=
  (.need (some (slices_IndexFunc_impl_Sheet_impl_Sheet_nst_l0_E v157 v158 v159 v160 v161 (0 : Int)) = some (slices_IndexFunc_impl_Sheet_impl_Sheet_nst_l0_E v157 v158 v159 v160 v161 (0 : Int))) <|
  (.call (slices_IndexFunc_impl_Sheet_impl_Sheet_nst_l0_g v157 v158 v159 v160 v161 (0 : Int)) fun v212 =>
  (.sum v212 (fun v213 =>
  .leaf v213
  ) (fun v214 =>
  .leaf (-1 : Int)
  ))))

noncomputable def slices_IndexFunc_impl_Sheet_impl_Sheet_nst_g (v157 : List ByteArray) (v158 : List Int) (v159 : List Int) (v160 : List (List Nat)) (v161 : List Nat) : Option (Int) := (slices_IndexFunc_impl_Sheet_impl_Sheet_nst_T v157 v158 v159 v160 v161).run
def slices_IndexFunc_impl_Sheet_impl_Sheet_nst_enc (v157 : List ByteArray) (v158 : List Int) (v159 : List Int) (v160 : List (List Nat)) (v161 : List Nat) (y : Int) : Rs := (.int .i64 y, [.nest [.pl (.str v157), .pl (.i64 v158), .pl (.i64 v159), .sl (.f32 v160) v161] false 0])
theorem slices_IndexFunc_impl_Sheet_impl_Sheet_nst_den (v157 : List ByteArray) (v158 : List Int) (v159 : List Int) (v160 : List (List Nat)) (v161 : List Nat) : (den TT (tabD slices_IndexFunc_impl_Sheet_impl_Sheet_nst_tab) (tabM slices_IndexFunc_impl_Sheet_impl_Sheet_nst_tab) (slices_IndexFunc_impl_Sheet_impl_Sheet_nst_LO v157 v158 v159 v160 v161) (codeOf Try.f75) ([.nest 0 0 4 ((v157).length), .fn 48 []] ++ List.replicate (Try.f75.ntmps - ([.nest 0 0 4 ((v157).length), .fn 48 []] : List DV).length) .undef) [.nest [.pl (.str v157), .pl (.i64 v158), .pl (.i64 v159), .sl (.f32 v160) v161] false 0]).bind (retD TT Try.f75.results.toList 1) = (slices_IndexFunc_impl_Sheet_impl_Sheet_nst_T v157 v158 v159 v160 v161).bind fun y => .leaf (slices_IndexFunc_impl_Sheet_impl_Sheet_nst_enc v157 v158 v159 v160 v161 y) := by kernel_rfl
theorem slices_IndexFunc_impl_Sheet_impl_Sheet_nst_fn (v157 : List ByteArray) (v158 : List Int) (v159 : List Int) (v160 : List (List Nat)) (v161 : List Nat) (F : Fr) (h0 : St F [.nest [.pl (.str v157), .pl (.i64 v158), .pl (.i64 v159), .sl (.f32 v160) v161] false 0] F.H0) (hA : DVs.Ok F [.nest [.pl (.str v157), .pl (.i64 v158), .pl (.i64 v159), .sl (.f32 v160) v161] false 0] [.nest 0 0 4 ((v157).length), .fn 48 []]) {y : Int} (hy : slices_IndexFunc_impl_Sheet_impl_Sheet_nst_g v157 v158 v159 v160 v161 = some y) : ∃ F' H', Fwd 1 F F' [.nest [.pl (.str v157), .pl (.i64 v158), .pl (.i64 v159), .sl (.f32 v160) v161] false 0] (slices_IndexFunc_impl_Sheet_impl_Sheet_nst_enc v157 v158 v159 v160 v161 y).2 ∧ FnOk Try.prog 75 (DVs.av F [.nest 0 0 4 ((v157).length), .fn 48 []]) F.H0 ((slices_IndexFunc_impl_Sheet_impl_Sheet_nst_enc v157 v158 v159 v160 v161 y).1.av F') H' ∧ St F' (slices_IndexFunc_impl_Sheet_impl_Sheet_nst_enc v157 v158 v159 v160 v161 y).2 H' ∧ (slices_IndexFunc_impl_Sheet_impl_Sheet_nst_enc v157 v158 v159 v160 v161 y).1.Ok F' (slices_IndexFunc_impl_Sheet_impl_Sheet_nst_enc v157 v158 v159 v160 v161 y).2 :=
  fn_fin tok slices_IndexFunc_impl_Sheet_impl_Sheet_nst_hO mixed Try.func75 Try.call75 (by kernel_rfl) (LoopsOk_eq (l := [(0, bodyOf Try.f75 0)]) (by kernel_rfl) ⟨slices_IndexFunc_impl_Sheet_impl_Sheet_nst_l0_ok v157 v158 v159 v160 v161, trivial⟩) (slices_IndexFunc_impl_Sheet_impl_Sheet_nst_den v157 v158 v159 v160 v161) hy h0 hA
noncomputable def slices_IndexFunc_impl_Sheet_impl_Sheet_nst_F : DFn := fun args L =>
  match args with
  | [a1, .fn 48 []] =>
    optT (nestN L false 4 a1) fun qn0 =>
    (match qn0.2 with
    | [.pl (.str v157), .pl (.i64 v158), .pl (.i64 v159), .sl (.f32 v160) v161] =>
    (match sepB [qn0.1] [] with
    | true =>
    .call (slices_IndexFunc_impl_Sheet_impl_Sheet_nst_g v157 v158 v159 v160 v161) fun y => .grd (decide ((v157).length = (v157).length)) (.leaf (.int .i64 y, setB L [(qn0.1, .nest [.pl (.str v157), .pl (.i64 v158), .pl (.i64 v159), .sl (.f32 v160) v161] false (verAt L qn0.1))] ++ []))
    | false => .fail)
    | _ => .fail)
  | _ => .fail
theorem slices_IndexFunc_impl_Sheet_impl_Sheet_nst_Fok : COk Try.prog 75 slices_IndexFunc_impl_Sheet_impl_Sheet_nst_F false := by
  intro F L H args r L' hs ha hr
  unfold slices_IndexFunc_impl_Sheet_impl_Sheet_nst_F at hr
  split at hr
  · rename_i a1
    obtain ⟨⟨jn0, cn0⟩, hn0, hr⟩ := optT_run hr
    simp only at hr
    split at hr
    · rename_i v157 v158 v159 v160 v161
      obtain ⟨hne0, hnu0, hnl0, hnv0, hnm0, hno0⟩ := nestN_spec hs (DVs.okAt ha 0 rfl) hn0
      split at hr
      · rename_i hsep
        obtain ⟨hnd, hsepv⟩ := sepB_spec hsep
        simp only [Tree.run] at hr
        obtain ⟨y, hy, hr⟩ := Option.bind_eq_some_iff.1 hr
        try simp only [Tree.run] at hr
        obtain ⟨hl0, hr⟩ := ite_run hr
        simp only [Option.some.injEq, Prod.mk.injEq] at hr
        obtain ⟨rfl, rfl⟩ := hr
        exact mutG_ok hs [a1] ⟨(DVs.okAt ha 0 rfl), trivial⟩ [a1, .fn 48 []] [.nest 0 0 4 ((v157).length), .fn 48 []] [jn0] [verAt L jn0] [.nest [.pl (.str v157), .pl (.i64 v158), .pl (.i64 v159), .sl (.f32 v160) v161] false 0] [.nest [.pl (.str v157), .pl (.i64 v158), .pl (.i64 v159), .sl (.f32 v160) v161] false 0] [.nest [.pl (.str v157), .pl (.i64 v158), .pl (.i64 v159), .sl (.f32 v160) v161] false (verAt L jn0)] [] hnd rfl rfl (fun j hj => by
            simp at hj
            subst hj; exact ex_nest hne0) (fun j hj => by
            simp at hj
            subst hj; exact reach_refs (by simp [DVs.refs, DV.refs, hnu0])) (fun F' h0 hρ ab hpl hS => by
            have ab0 := ab 0 _ rfl;
            have hnx0 : a1.av F = (.nest 0 0 4 ((v157).length) : DV).av F' := nestN_av (hpl 0 _ rfl) hnv0
            refine ⟨fun i j b' h1 h2 => ?_, by simp [DBlk.blk, DVs.av, DV.av, BR.av, hρ, Row.len, hnx0, ab0, ab0], fun hst => slices_IndexFunc_impl_Sheet_impl_Sheet_nst_fn v157 v158 v159 v160 v161 F' hst ⟨(nest_ok0 (i := 0) rfl rfl hnm0), trivial, trivial⟩ hy⟩
            rcases i with _ | i
            · simp at h1 h2; subst h1; subst h2; obtain ⟨ver_, hv_⟩ := hne0; exact ⟨_, hv_, .nest _ _ _ _, nest_blk (hpl 0 _ rfl) _ _ _ _, hno0 _ _⟩
            · simp at h1) rfl rfl (fun i j b b' h1 h2 h3 => by
            rcases i with _ | i
            · simp at h1; subst h1; cases h3; exact growN hne0 (by first | exact of_decide_eq_true hl0 | rfl) rfl h2
            · simp at h1)
      · cases hr
    · cases hr
  · cases hr
/-! slices.ContainsFunc[list of impl.Sheet,impl.Sheet] -/
noncomputable def slices_ContainsFunc_impl_Sheet_impl_Sheet_nst_LO (v152 : List ByteArray) (v153 : List Int) (v154 : List Int) (v155 : List (List Nat)) (v156 : List Nat) : LOr := fun id e L =>
  match id with
  | _ => .fail
noncomputable def slices_ContainsFunc_impl_Sheet_impl_Sheet_nst_tab : List (FuncId × DFn × Bool) := [(75, slices_IndexFunc_impl_Sheet_impl_Sheet_nst_F, false)]
theorem slices_ContainsFunc_impl_Sheet_impl_Sheet_nst_hO : OrcOk Try.prog (tabD slices_ContainsFunc_impl_Sheet_impl_Sheet_nst_tab) (tabM slices_ContainsFunc_impl_Sheet_impl_Sheet_nst_tab) := tabD_cons slices_IndexFunc_impl_Sheet_impl_Sheet_nst_Fok (tabD_nil _)
noncomputable def slices_ContainsFunc_impl_Sheet_impl_Sheet_nst_T (v152 : List ByteArray) (v153 : List Int) (v154 : List Int) (v155 : List (List Nat)) (v156 : List Nat) : Tree (Bool) :=
  (.call (slices_IndexFunc_impl_Sheet_impl_Sheet_nst_g v152 v153 v154 v155 v156) fun v215 =>
  (.grd (decide ((v152).length = (v152).length)) <|
  .leaf (decide ((0 : Int) ≤ v215))))

noncomputable def slices_ContainsFunc_impl_Sheet_impl_Sheet_nst_g (v152 : List ByteArray) (v153 : List Int) (v154 : List Int) (v155 : List (List Nat)) (v156 : List Nat) : Option (Bool) := (slices_ContainsFunc_impl_Sheet_impl_Sheet_nst_T v152 v153 v154 v155 v156).run
def slices_ContainsFunc_impl_Sheet_impl_Sheet_nst_enc (v152 : List ByteArray) (v153 : List Int) (v154 : List Int) (v155 : List (List Nat)) (v156 : List Nat) (y : Bool) : Rs := (.bool y, [.nest [.pl (.str v152), .pl (.i64 v153), .pl (.i64 v154), .sl (.f32 v155) v156] false 0])
theorem slices_ContainsFunc_impl_Sheet_impl_Sheet_nst_den (v152 : List ByteArray) (v153 : List Int) (v154 : List Int) (v155 : List (List Nat)) (v156 : List Nat) : (den TT (tabD slices_ContainsFunc_impl_Sheet_impl_Sheet_nst_tab) (tabM slices_ContainsFunc_impl_Sheet_impl_Sheet_nst_tab) (slices_ContainsFunc_impl_Sheet_impl_Sheet_nst_LO v152 v153 v154 v155 v156) (codeOf Try.f47) ([.nest 0 0 4 ((v152).length), .fn 48 []] ++ List.replicate (Try.f47.ntmps - ([.nest 0 0 4 ((v152).length), .fn 48 []] : List DV).length) .undef) [.nest [.pl (.str v152), .pl (.i64 v153), .pl (.i64 v154), .sl (.f32 v155) v156] false 0]).bind (retD TT Try.f47.results.toList 1) = (slices_ContainsFunc_impl_Sheet_impl_Sheet_nst_T v152 v153 v154 v155 v156).bind fun y => .leaf (slices_ContainsFunc_impl_Sheet_impl_Sheet_nst_enc v152 v153 v154 v155 v156 y) := by kernel_rfl
theorem slices_ContainsFunc_impl_Sheet_impl_Sheet_nst_fn (v152 : List ByteArray) (v153 : List Int) (v154 : List Int) (v155 : List (List Nat)) (v156 : List Nat) (F : Fr) (h0 : St F [.nest [.pl (.str v152), .pl (.i64 v153), .pl (.i64 v154), .sl (.f32 v155) v156] false 0] F.H0) (hA : DVs.Ok F [.nest [.pl (.str v152), .pl (.i64 v153), .pl (.i64 v154), .sl (.f32 v155) v156] false 0] [.nest 0 0 4 ((v152).length), .fn 48 []]) {y : Bool} (hy : slices_ContainsFunc_impl_Sheet_impl_Sheet_nst_g v152 v153 v154 v155 v156 = some y) : ∃ F' H', Fwd 1 F F' [.nest [.pl (.str v152), .pl (.i64 v153), .pl (.i64 v154), .sl (.f32 v155) v156] false 0] (slices_ContainsFunc_impl_Sheet_impl_Sheet_nst_enc v152 v153 v154 v155 v156 y).2 ∧ FnOk Try.prog 47 (DVs.av F [.nest 0 0 4 ((v152).length), .fn 48 []]) F.H0 ((slices_ContainsFunc_impl_Sheet_impl_Sheet_nst_enc v152 v153 v154 v155 v156 y).1.av F') H' ∧ St F' (slices_ContainsFunc_impl_Sheet_impl_Sheet_nst_enc v152 v153 v154 v155 v156 y).2 H' ∧ (slices_ContainsFunc_impl_Sheet_impl_Sheet_nst_enc v152 v153 v154 v155 v156 y).1.Ok F' (slices_ContainsFunc_impl_Sheet_impl_Sheet_nst_enc v152 v153 v154 v155 v156 y).2 :=
  fn_fin tok slices_ContainsFunc_impl_Sheet_impl_Sheet_nst_hO mixed Try.func47 Try.call47 (by kernel_rfl) (LoopsOk_eq (l := []) (by kernel_rfl) trivial) (slices_ContainsFunc_impl_Sheet_impl_Sheet_nst_den v152 v153 v154 v155 v156) hy h0 hA
noncomputable def slices_ContainsFunc_impl_Sheet_impl_Sheet_nst_F : DFn := fun args L =>
  match args with
  | [a1, .fn 48 []] =>
    optT (nestN L false 4 a1) fun qn0 =>
    (match qn0.2 with
    | [.pl (.str v152), .pl (.i64 v153), .pl (.i64 v154), .sl (.f32 v155) v156] =>
    (match sepB [qn0.1] [] with
    | true =>
    .call (slices_ContainsFunc_impl_Sheet_impl_Sheet_nst_g v152 v153 v154 v155 v156) fun y => .grd (decide ((v152).length = (v152).length)) (.leaf (.bool y, setB L [(qn0.1, .nest [.pl (.str v152), .pl (.i64 v153), .pl (.i64 v154), .sl (.f32 v155) v156] false (verAt L qn0.1))] ++ []))
    | false => .fail)
    | _ => .fail)
  | _ => .fail
theorem slices_ContainsFunc_impl_Sheet_impl_Sheet_nst_Fok : COk Try.prog 47 slices_ContainsFunc_impl_Sheet_impl_Sheet_nst_F false := by
  intro F L H args r L' hs ha hr
  unfold slices_ContainsFunc_impl_Sheet_impl_Sheet_nst_F at hr
  split at hr
  · rename_i a1
    obtain ⟨⟨jn0, cn0⟩, hn0, hr⟩ := optT_run hr
    simp only at hr
    split at hr
    · rename_i v152 v153 v154 v155 v156
      obtain ⟨hne0, hnu0, hnl0, hnv0, hnm0, hno0⟩ := nestN_spec hs (DVs.okAt ha 0 rfl) hn0
      split at hr
      · rename_i hsep
        obtain ⟨hnd, hsepv⟩ := sepB_spec hsep
        simp only [Tree.run] at hr
        obtain ⟨y, hy, hr⟩ := Option.bind_eq_some_iff.1 hr
        try simp only [Tree.run] at hr
        obtain ⟨hl0, hr⟩ := ite_run hr
        simp only [Option.some.injEq, Prod.mk.injEq] at hr
        obtain ⟨rfl, rfl⟩ := hr
        exact mutG_ok hs [a1] ⟨(DVs.okAt ha 0 rfl), trivial⟩ [a1, .fn 48 []] [.nest 0 0 4 ((v152).length), .fn 48 []] [jn0] [verAt L jn0] [.nest [.pl (.str v152), .pl (.i64 v153), .pl (.i64 v154), .sl (.f32 v155) v156] false 0] [.nest [.pl (.str v152), .pl (.i64 v153), .pl (.i64 v154), .sl (.f32 v155) v156] false 0] [.nest [.pl (.str v152), .pl (.i64 v153), .pl (.i64 v154), .sl (.f32 v155) v156] false (verAt L jn0)] [] hnd rfl rfl (fun j hj => by
            simp at hj
            subst hj; exact ex_nest hne0) (fun j hj => by
            simp at hj
            subst hj; exact reach_refs (by simp [DVs.refs, DV.refs, hnu0])) (fun F' h0 hρ ab hpl hS => by
            have ab0 := ab 0 _ rfl;
            have hnx0 : a1.av F = (.nest 0 0 4 ((v152).length) : DV).av F' := nestN_av (hpl 0 _ rfl) hnv0
            refine ⟨fun i j b' h1 h2 => ?_, by simp [DBlk.blk, DVs.av, DV.av, BR.av, hρ, Row.len, hnx0, ab0, ab0], fun hst => slices_ContainsFunc_impl_Sheet_impl_Sheet_nst_fn v152 v153 v154 v155 v156 F' hst ⟨(nest_ok0 (i := 0) rfl rfl hnm0), trivial, trivial⟩ hy⟩
            rcases i with _ | i
            · simp at h1 h2; subst h1; subst h2; obtain ⟨ver_, hv_⟩ := hne0; exact ⟨_, hv_, .nest _ _ _ _, nest_blk (hpl 0 _ rfl) _ _ _ _, hno0 _ _⟩
            · simp at h1) rfl rfl (fun i j b b' h1 h2 h3 => by
            rcases i with _ | i
            · simp at h1; subst h1; cases h3; exact growN hne0 (by first | exact of_decide_eq_true hl0 | rfl) rfl h2
            · simp at h1)
      · cases hr
    · cases hr
  · cases hr
/-! impl.BitsOf -/
noncomputable def impl_BitsOf_LO (v224 : Nat) : LOr := fun id e L =>
  match id with
  | _ => .fail
noncomputable def impl_BitsOf_tab : List (FuncId × DFn × Bool) := [(84, Bits32_F, true)]
theorem impl_BitsOf_hO : OrcOk Try.prog (tabD impl_BitsOf_tab) (tabM impl_BitsOf_tab) := tabD_cons Bits32_Fok (tabD_nil _)
noncomputable def impl_BitsOf_T (v224 : Nat) : Tree (Int) :=
  (.br (!feq .f32 v224 v224) (
  .leaf (2143289344 : Int)
  ) (
  (.grd (!isNan .f32 v224) <|
  .leaf (IntKind.i64.wrap (((v224 : Nat) : Int))))
  ))

noncomputable def impl_BitsOf_g (v224 : Nat) : Option (Int) := (impl_BitsOf_T v224).run
def impl_BitsOf_enc (v224 : Nat) (y : Int) : Rs := (.int .i64 y, [])
theorem impl_BitsOf_den (v224 : Nat) : (den TT (tabD impl_BitsOf_tab) (tabM impl_BitsOf_tab) (impl_BitsOf_LO v224) (codeOf Try.f66) ([.flt .f32 v224] ++ List.replicate (Try.f66.ntmps - ([.flt .f32 v224] : List DV).length) .undef) []).bind (retD TT Try.f66.results.toList 0) = (impl_BitsOf_T v224).bind fun y => .leaf (impl_BitsOf_enc v224 y) := by kernel_rfl
theorem impl_BitsOf_fn (v224 : Nat) (F : Fr) (h0 : St F [] F.H0) (hA : DVs.Ok F [] [.flt .f32 v224]) {y : Int} (hy : impl_BitsOf_g v224 = some y) : ∃ F' H', Fwd 0 F F' [] (impl_BitsOf_enc v224 y).2 ∧ FnOk Try.prog 66 (DVs.av F [.flt .f32 v224]) F.H0 ((impl_BitsOf_enc v224 y).1.av F') H' ∧ St F' (impl_BitsOf_enc v224 y).2 H' ∧ (impl_BitsOf_enc v224 y).1.Ok F' (impl_BitsOf_enc v224 y).2 :=
  fn_fin tok impl_BitsOf_hO mixed Try.func66 Try.call66 (by kernel_rfl) (LoopsOk_eq (l := []) (by kernel_rfl) trivial) (impl_BitsOf_den v224) hy h0 hA
noncomputable def impl_BitsOf_F : DFn := fun args L =>
  match args with
  | [.flt .f32 v224] =>
    .call (impl_BitsOf_g v224) fun y => .leaf (.int .i64 y, L)
  | _ => .fail
theorem impl_BitsOf_Fok : COk Try.prog 66 impl_BitsOf_F true := by
  intro F L H args r L' hs ha hr
  unfold impl_BitsOf_F at hr
  split at hr
  · rename_i v224
    simp only [Tree.run] at hr
    obtain ⟨y, hy, hr⟩ := Option.bind_eq_some_iff.1 hr
    simp only [Tree.run, Option.some.injEq, Prod.mk.injEq] at hr
    obtain ⟨rfl, rfl⟩ := hr
    exact call_ok0 hs (fun k => (([] : List AV)[k]?).getD .top) [.flt .f32 v224] [.flt .f32 v224] (fun F' h0 hi hρ => ⟨by simp [DVs.av, DV.av, BR.av, hρ], impl_BitsOf_fn v224 F' (st_nil hi) ⟨trivial, trivial⟩ hy⟩) rfl
  · cases hr
/-! impl.bytesOf -/
noncomputable def impl_bytesOf_l0_T (v227 : Int) (s : Int × Int × (List Int)) : Tree ((Int × Int × (List Int)) ⊕ ((List Int))) :=
  (.br (decide (s.2.1 < v227)) (
  (.grd (fits (s.2.2 ++ ([IntKind.u8.wrap (s.1)] : List Int)).length) <|
  (.grd (decide (0 ≤ (8 : Int))) <|
  .leaf (.inl (ishr .i64 s.1 (8 : Int), IntKind.i64.wrap (s.2.1 + (1 : Int)), s.2.2 ++ ([IntKind.u8.wrap (s.1)] : List Int)))))
  ) (
  .leaf (.inr s.2.2)
  ))

noncomputable def impl_bytesOf_l0_g (v227 : Int) (s0 : Int × Int × (List Int)) : Option ((List Int)) := whileM (fun s => (impl_bytesOf_l0_T v227 s).run) s0
def impl_bytesOf_l0_E (v226 : Int) (v227 : Int) (s : Int × Int × (List Int)) : Sd := ([.int .i64 s.1,tp,tp,tp,tp,.own 0 0 ((s.2.2).length),tp,.int .i64 v227,.int .i64 s.2.1,tp,tp,tp,tp,tp,tp,tp,tp,tp,tp], [.row (.u8 s.2.2) 0])
def impl_bytesOf_l0_X (v226 : Int) (v227 : Int) (x : (List Int)) : Out := (.normal, [tp,tp,tp,tp,tp,.own 0 0 ((x).length),tp,tp,tp,tp,tp,tp,tp,tp,tp,tp,tp,tp,tp], [.row (.u8 x) 0])
def impl_bytesOf_l0_kill : List Nat := KL true [0,1,4,1,1,2,10]
def impl_bytesOf_l0_nx : Exit → List Nat
  | .exit 0 => KL true [5,1,13]
  | .ret => KL true [4,1,14]
  | _ => []
noncomputable def impl_bytesOf_LO (v226 : Int) (v227 : Int) : LOr := fun id e L =>
  match id with
  | 0 => .need (normA 0 impl_bytesOf_l0_kill e L = some (impl_bytesOf_l0_E v226 v227 ((gI (vAt e 0)), (gI (vAt e 8)), (gRI L (vAt e 5))))) (.call (impl_bytesOf_l0_g v227 ((gI (vAt e 0)), (gI (vAt e 8)), (gRI L (vAt e 5)))) fun x => .leaf (impl_bytesOf_l0_X v226 v227 x))
  | _ => .fail
noncomputable def impl_bytesOf_tab : List (FuncId × DFn × Bool) := []
theorem impl_bytesOf_hO : OrcOk Try.prog (tabD impl_bytesOf_tab) (tabM impl_bytesOf_tab) := tabD_nil _
theorem impl_bytesOf_l0_be (v226 : Int) (v227 : Int) (s : Int × Int × (List Int)) : bodyT TT (tabD impl_bytesOf_tab) (tabM impl_bytesOf_tab) (impl_bytesOf_LO v226 v227) 0 impl_bytesOf_l0_kill impl_bytesOf_l0_nx (bodyOf Try.f65 0) 0 (impl_bytesOf_l0_E v226 v227 s) = (impl_bytesOf_l0_T v227 s).bind fun y => .leaf (outS (impl_bytesOf_l0_E v226 v227) (impl_bytesOf_l0_X v226 v227) y) := by kernel_rfl
theorem impl_bytesOf_l0_ok (v226 : Int) (v227 : Int) : LSound Try.prog 0 (impl_bytesOf_LO v226 v227) 0 (bodyOf Try.f65 0) := by
  intro e L out h
  exact lo_ok (E := impl_bytesOf_l0_E v226 v227) (gT := impl_bytesOf_l0_T v227) (X := impl_bytesOf_l0_X v226 v227) (s0 := ((gI (vAt e 0)), (gI (vAt e 8)), (gRI L (vAt e 5)))) tok impl_bytesOf_hO mixed (LoopsOk_eq (l := []) (by kernel_rfl) trivial) (impl_bytesOf_l0_be v226 v227) rfl (by intro x; rfl) h
noncomputable def impl_bytesOf_T (v226 : Int) (v227 : Int) : Tree ((List Int)) :=
  (.need (some (impl_bytesOf_l0_E v226 v227 (v226, (0 : Int), ([] : List Int))) = some (impl_bytesOf_l0_E v226 v227 (v226, (0 : Int), ([] : List Int)))) <|
  (.call (impl_bytesOf_l0_g v227 (v226, (0 : Int), ([] : List Int))) fun v236 =>
  .leaf v236))

noncomputable def impl_bytesOf_g (v226 : Int) (v227 : Int) : Option ((List Int)) := (impl_bytesOf_T v226 v227).run
def impl_bytesOf_enc (v226 : Int) (v227 : Int) (y : (List Int)) : Rs := (.own 0 0 ((y).length), [.row (.u8 y) 0])
theorem impl_bytesOf_den (v226 : Int) (v227 : Int) : (den TT (tabD impl_bytesOf_tab) (tabM impl_bytesOf_tab) (impl_bytesOf_LO v226 v227) (codeOf Try.f65) ([.int .i64 v226, .int .i64 v227] ++ List.replicate (Try.f65.ntmps - ([.int .i64 v226, .int .i64 v227] : List DV).length) .undef) []).bind (retD TT Try.f65.results.toList 0) = (impl_bytesOf_T v226 v227).bind fun y => .leaf (impl_bytesOf_enc v226 v227 y) := by kernel_rfl
theorem impl_bytesOf_fn (v226 : Int) (v227 : Int) (F : Fr) (h0 : St F [] F.H0) (hA : DVs.Ok F [] [.int .i64 v226, .int .i64 v227]) {y : (List Int)} (hy : impl_bytesOf_g v226 v227 = some y) : ∃ F' H', Fwd 0 F F' [] (impl_bytesOf_enc v226 v227 y).2 ∧ FnOk Try.prog 65 (DVs.av F [.int .i64 v226, .int .i64 v227]) F.H0 ((impl_bytesOf_enc v226 v227 y).1.av F') H' ∧ St F' (impl_bytesOf_enc v226 v227 y).2 H' ∧ (impl_bytesOf_enc v226 v227 y).1.Ok F' (impl_bytesOf_enc v226 v227 y).2 :=
  fn_fin tok impl_bytesOf_hO mixed Try.func65 Try.call65 (by kernel_rfl) (LoopsOk_eq (l := [(0, bodyOf Try.f65 0)]) (by kernel_rfl) ⟨impl_bytesOf_l0_ok v226 v227, trivial⟩) (impl_bytesOf_den v226 v227) hy h0 hA
noncomputable def impl_bytesOf_F : DFn := fun args L =>
  match args with
  | [.int .i64 v226, .int .i64 v227] =>
    .call (impl_bytesOf_g v226 v227) fun y => .leaf (.own (L.length + 0) 0 ((y).length), L ++ [.row (.u8 y) 0])
  | _ => .fail
theorem impl_bytesOf_Fok : COk Try.prog 65 impl_bytesOf_F true := by
  intro F L H args r L' hs ha hr
  unfold impl_bytesOf_F at hr
  split at hr
  · rename_i v226 v227
    simp only [Tree.run] at hr
    obtain ⟨y, hy, hr⟩ := Option.bind_eq_some_iff.1 hr
    simp only [Tree.run, Option.some.injEq, Prod.mk.injEq] at hr
    obtain ⟨rfl, rfl⟩ := hr
    exact call_ok1 hs (fun k => (([] : List AV)[k]?).getD .top) [.int .i64 v226, .int .i64 v227] [.int .i64 v226, .int .i64 v227] (fun F' h0 hi hρ => ⟨by simp [DVs.av, DV.av, BR.av, hρ], impl_bytesOf_fn v226 v227 F' (st_nil hi) ⟨trivial, trivial, trivial⟩ hy⟩) rfl rfl
  · cases hr
/-! impl.checkOf -/
noncomputable def impl_checkOf_l0_T (v248 : ByteArray) (s : Int × Int) : Tree ((Int × Int) ⊕ (Int)) :=
  (.br (decide (s.2 < ((v248.size : Nat) : Int))) (
  (.grd (inb s.2 v248.size) <|
  (.grd (!decide ((65003 : Int) = 0)) <|
  .leaf (.inl (Int.tmod (IntKind.i64.wrap ((IntKind.i64.wrap ((IntKind.i64.wrap ((863 : Int) * s.1)) + (IntKind.i64.wrap (bt v248 s.2)))) + (157 : Int))) (65003 : Int), IntKind.i64.wrap (s.2 + (1 : Int))))))
  ) (
  .leaf (.inr s.1)
  ))

noncomputable def impl_checkOf_l0_g (v248 : ByteArray) (s0 : Int × Int) : Option (Int) := whileM (fun s => (impl_checkOf_l0_T v248 s).run) s0
def impl_checkOf_l0_E (v247 : Int) (v248 : ByteArray) (s : Int × Int) : Sd := ([.int .i64 s.1,.str v248,tp,tp,tp,tp,tp,.int .i64 ((v248.size : Nat) : Int),.int .i64 s.2,tp,tp,tp,tp,tp,tp,tp,tp,tp,tp,tp,tp,tp], [])
def impl_checkOf_l0_X (v247 : Int) (v248 : ByteArray) (x : Int) : Out := (.normal, [.int .i64 x,tp,tp,tp,tp,tp,tp,tp,tp,tp,tp,tp,tp,tp,tp,tp,tp,tp,tp,tp,tp,tp], [])
def impl_checkOf_l0_kill : List Nat := KL true [0,2,5,2,13]
def impl_checkOf_l0_nx : Exit → List Nat
  | .exit 0 => KL true [0,1,21]
  | .ret => KL true [4,1,17]
  | _ => []
noncomputable def impl_checkOf_LO (v247 : Int) (v248 : ByteArray) : LOr := fun id e L =>
  match id with
  | 0 => .need (normA 0 impl_checkOf_l0_kill e L = some (impl_checkOf_l0_E v247 v248 ((gI (vAt e 0)), (gI (vAt e 8))))) (.call (impl_checkOf_l0_g v248 ((gI (vAt e 0)), (gI (vAt e 8)))) fun x => .leaf (impl_checkOf_l0_X v247 v248 x))
  | _ => .fail
noncomputable def impl_checkOf_tab : List (FuncId × DFn × Bool) := []
theorem impl_checkOf_hO : OrcOk Try.prog (tabD impl_checkOf_tab) (tabM impl_checkOf_tab) := tabD_nil _
theorem impl_checkOf_l0_be (v247 : Int) (v248 : ByteArray) (s : Int × Int) : bodyT TT (tabD impl_checkOf_tab) (tabM impl_checkOf_tab) (impl_checkOf_LO v247 v248) 0 impl_checkOf_l0_kill impl_checkOf_l0_nx (bodyOf Try.f67 0) 0 (impl_checkOf_l0_E v247 v248 s) = (impl_checkOf_l0_T v248 s).bind fun y => .leaf (outS (impl_checkOf_l0_E v247 v248) (impl_checkOf_l0_X v247 v248) y) := by kernel_rfl
theorem impl_checkOf_l0_ok (v247 : Int) (v248 : ByteArray) : LSound Try.prog 0 (impl_checkOf_LO v247 v248) 0 (bodyOf Try.f67 0) := by
  intro e L out h
  exact lo_ok (E := impl_checkOf_l0_E v247 v248) (gT := impl_checkOf_l0_T v248) (X := impl_checkOf_l0_X v247 v248) (s0 := ((gI (vAt e 0)), (gI (vAt e 8)))) tok impl_checkOf_hO mixed (LoopsOk_eq (l := []) (by kernel_rfl) trivial) (impl_checkOf_l0_be v247 v248) rfl (by intro x; rfl) h
noncomputable def impl_checkOf_T (v247 : Int) (v248 : ByteArray) : Tree (Int) :=
  (.need (some (impl_checkOf_l0_E v247 v248 (v247, (0 : Int))) = some (impl_checkOf_l0_E v247 v248 (v247, (0 : Int)))) <|
  (.call (impl_checkOf_l0_g v248 (v247, (0 : Int))) fun v255 =>
  .leaf v255))

noncomputable def impl_checkOf_g (v247 : Int) (v248 : ByteArray) : Option (Int) := (impl_checkOf_T v247 v248).run
def impl_checkOf_enc (v247 : Int) (v248 : ByteArray) (y : Int) : Rs := (.int .i64 y, [])
theorem impl_checkOf_den (v247 : Int) (v248 : ByteArray) : (den TT (tabD impl_checkOf_tab) (tabM impl_checkOf_tab) (impl_checkOf_LO v247 v248) (codeOf Try.f67) ([.int .i64 v247, .str v248] ++ List.replicate (Try.f67.ntmps - ([.int .i64 v247, .str v248] : List DV).length) .undef) []).bind (retD TT Try.f67.results.toList 0) = (impl_checkOf_T v247 v248).bind fun y => .leaf (impl_checkOf_enc v247 v248 y) := by kernel_rfl
theorem impl_checkOf_fn (v247 : Int) (v248 : ByteArray) (F : Fr) (h0 : St F [] F.H0) (hA : DVs.Ok F [] [.int .i64 v247, .str v248]) {y : Int} (hy : impl_checkOf_g v247 v248 = some y) : ∃ F' H', Fwd 0 F F' [] (impl_checkOf_enc v247 v248 y).2 ∧ FnOk Try.prog 67 (DVs.av F [.int .i64 v247, .str v248]) F.H0 ((impl_checkOf_enc v247 v248 y).1.av F') H' ∧ St F' (impl_checkOf_enc v247 v248 y).2 H' ∧ (impl_checkOf_enc v247 v248 y).1.Ok F' (impl_checkOf_enc v247 v248 y).2 :=
  fn_fin tok impl_checkOf_hO mixed Try.func67 Try.call67 (by kernel_rfl) (LoopsOk_eq (l := [(0, bodyOf Try.f67 0)]) (by kernel_rfl) ⟨impl_checkOf_l0_ok v247 v248, trivial⟩) (impl_checkOf_den v247 v248) hy h0 hA
noncomputable def impl_checkOf_F : DFn := fun args L =>
  match args with
  | [.int .i64 v247, .str v248] =>
    .call (impl_checkOf_g v247 v248) fun y => .leaf (.int .i64 y, L)
  | _ => .fail
theorem impl_checkOf_Fok : COk Try.prog 67 impl_checkOf_F true := by
  intro F L H args r L' hs ha hr
  unfold impl_checkOf_F at hr
  split at hr
  · rename_i v247 v248
    simp only [Tree.run] at hr
    obtain ⟨y, hy, hr⟩ := Option.bind_eq_some_iff.1 hr
    simp only [Tree.run, Option.some.injEq, Prod.mk.injEq] at hr
    obtain ⟨rfl, rfl⟩ := hr
    exact call_ok0 hs (fun k => (([] : List AV)[k]?).getD .top) [.int .i64 v247, .str v248] [.int .i64 v247, .str v248] (fun F' h0 hi hρ => ⟨by simp [DVs.av, DV.av, BR.av, hρ], impl_checkOf_fn v247 v248 F' (st_nil hi) ⟨trivial, trivial, trivial⟩ hy⟩) rfl
  · cases hr
/-! impl.storeSheet -/
noncomputable def impl_storeSheet_l0_T (v222 : List Nat) (s : Int × (List Int)) : Tree ((Int × (List Int)) ⊕ ((List Int))) :=
  (.br (decide (s.1 < ((v222.length : Nat) : Int))) (
  (.grd (inb s.1 v222.length) <|
  (.call (impl_BitsOf_g (nth v222 (Int.toNat s.1))) fun v244 =>
  (.call (impl_bytesOf_g v244 (4 : Int)) fun v245 =>
  (.grd (fits (s.2 ++ v245).length) <|
  .leaf (.inl (IntKind.i64.wrap (s.1 + (1 : Int)), s.2 ++ v245))))))
  ) (
  .leaf (.inr s.2)
  ))

noncomputable def impl_storeSheet_l0_g (v222 : List Nat) (s0 : Int × (List Int)) : Option ((List Int)) := whileM (fun s => (impl_storeSheet_l0_T v222 s).run) s0
def impl_storeSheet_l0_E (v219 : ByteArray) (v220 : Int) (v221 : Int) (v222 : List Nat) (s : Int × (List Int)) : Sd := ([tp,tp,tp,.own 0 0 ((s.2).length),tp,tp,tp,tp,tp,tp,tp,tp,tp,tp,tp,tp,tp,tp,tp,tp,tp,tp,tp,tp,tp,tp,tp,tp,tp,tp,tp,.bslc (BR.root 0) (.f32 v222),.int .i64 ((v222.length : Nat) : Int),.int .i64 s.1,tp,tp,tp,tp,tp,tp,tp,tp,tp,tp,tp,tp,tp,tp,tp,tp], [.row (.u8 s.2) 0])
def impl_storeSheet_l0_X (v219 : ByteArray) (v220 : Int) (v221 : Int) (v222 : List Nat) (x : (List Int)) : Out := (.normal, [tp,tp,tp,.own 0 0 ((x).length),tp,tp,tp,tp,tp,tp,tp,tp,tp,tp,tp,tp,tp,tp,tp,tp,tp,tp,tp,tp,tp,tp,tp,tp,tp,tp,tp,tp,tp,tp,tp,tp,tp,tp,tp,tp,tp,tp,tp,tp,tp,tp,tp,tp,tp,tp], [.row (.u8 x) 0])
def impl_storeSheet_l0_kill : List Nat := KL true [3,1,27,3,16]
def impl_storeSheet_l0_nx : Exit → List Nat
  | .exit 0 => KL true [3,1,46]
  | .ret => KL true [2,1,47]
  | _ => []
noncomputable def impl_storeSheet_LO (v219 : ByteArray) (v220 : Int) (v221 : Int) (v222 : List Nat) : LOr := fun id e L =>
  match id with
  | 0 => .need (normA 0 impl_storeSheet_l0_kill e L = some (impl_storeSheet_l0_E v219 v220 v221 v222 ((gI (vAt e 33)), (gRI L (vAt e 3))))) (.call (impl_storeSheet_l0_g v222 ((gI (vAt e 33)), (gRI L (vAt e 3)))) fun x => .leaf (impl_storeSheet_l0_X v219 v220 v221 v222 x))
  | _ => .fail
noncomputable def impl_storeSheet_tab : List (FuncId × DFn × Bool) := [(66, impl_BitsOf_F, true), (65, impl_bytesOf_F, true), (67, impl_checkOf_F, true)]
theorem impl_storeSheet_hO : OrcOk Try.prog (tabD impl_storeSheet_tab) (tabM impl_storeSheet_tab) := tabD_cons impl_BitsOf_Fok (tabD_cons impl_bytesOf_Fok (tabD_cons impl_checkOf_Fok (tabD_nil _)))
theorem impl_storeSheet_l0_be (v219 : ByteArray) (v220 : Int) (v221 : Int) (v222 : List Nat) (s : Int × (List Int)) : bodyT TT (tabD impl_storeSheet_tab) (tabM impl_storeSheet_tab) (impl_storeSheet_LO v219 v220 v221 v222) 0 impl_storeSheet_l0_kill impl_storeSheet_l0_nx (bodyOf Try.f37 0) 0 (impl_storeSheet_l0_E v219 v220 v221 v222 s) = (impl_storeSheet_l0_T v222 s).bind fun y => .leaf (outS (impl_storeSheet_l0_E v219 v220 v221 v222) (impl_storeSheet_l0_X v219 v220 v221 v222) y) := by kernel_rfl
theorem impl_storeSheet_l0_ok (v219 : ByteArray) (v220 : Int) (v221 : Int) (v222 : List Nat) : LSound Try.prog 0 (impl_storeSheet_LO v219 v220 v221 v222) 0 (bodyOf Try.f37 0) := by
  intro e L out h
  exact lo_ok (E := impl_storeSheet_l0_E v219 v220 v221 v222) (gT := impl_storeSheet_l0_T v222) (X := impl_storeSheet_l0_X v219 v220 v221 v222) (s0 := ((gI (vAt e 33)), (gRI L (vAt e 3)))) tok impl_storeSheet_hO mixed (LoopsOk_eq (l := []) (by kernel_rfl) trivial) (impl_storeSheet_l0_be v219 v220 v221 v222) rfl (by intro x; rfl) h
noncomputable def impl_storeSheet_T (v219 : ByteArray) (v220 : Int) (v221 : Int) (v222 : List Nat) : Tree (ByteArray) :=
  (.grd (decide (0 < (([(77 : Int), (65 : Int), (84 : Int), (49 : Int)] : List Int).length))) <|
  (.grd (fits (([(77 : Int), (65 : Int), (84 : Int), (49 : Int)] : List Int) ++ ([IntKind.u8.wrap (((v219.size : Nat) : Int))] : List Int)).length) <|
  (.grd (fits ((([(77 : Int), (65 : Int), (84 : Int), (49 : Int)] : List Int) ++ ([IntKind.u8.wrap (((v219.size : Nat) : Int))] : List Int)) ++ numsS v219).length) <|
  (.grd (fits (((([(77 : Int), (65 : Int), (84 : Int), (49 : Int)] : List Int) ++ ([IntKind.u8.wrap (((v219.size : Nat) : Int))] : List Int)) ++ numsS v219) ++ ([IntKind.u8.wrap (v220), IntKind.u8.wrap (v221)] : List Int)).length) <|
  (.need (some (impl_storeSheet_l0_E v219 v220 v221 v222 ((0 : Int), ((([(77 : Int), (65 : Int), (84 : Int), (49 : Int)] : List Int) ++ ([IntKind.u8.wrap (((v219.size : Nat) : Int))] : List Int)) ++ numsS v219) ++ ([IntKind.u8.wrap (v220), IntKind.u8.wrap (v221)] : List Int))) = some (impl_storeSheet_l0_E v219 v220 v221 v222 ((0 : Int), ((([(77 : Int), (65 : Int), (84 : Int), (49 : Int)] : List Int) ++ ([IntKind.u8.wrap (((v219.size : Nat) : Int))] : List Int)) ++ numsS v219) ++ ([IntKind.u8.wrap (v220), IntKind.u8.wrap (v221)] : List Int)))) <|
  (.call (impl_storeSheet_l0_g v222 ((0 : Int), ((([(77 : Int), (65 : Int), (84 : Int), (49 : Int)] : List Int) ++ ([IntKind.u8.wrap (((v219.size : Nat) : Int))] : List Int)) ++ numsS v219) ++ ([IntKind.u8.wrap (v220), IntKind.u8.wrap (v221)] : List Int))) fun v246 =>
  (.call (impl_checkOf_g (0 : Int) (strOfNums v246)) fun v256 =>
  (.call (impl_bytesOf_g v256 (2 : Int)) fun v257 =>
  (.grd (fits (v246 ++ v257).length) <|
  .leaf (strOfNums (v246 ++ v257)))))))))))

noncomputable def impl_storeSheet_g (v219 : ByteArray) (v220 : Int) (v221 : Int) (v222 : List Nat) : Option (ByteArray) := (impl_storeSheet_T v219 v220 v221 v222).run
def impl_storeSheet_enc (v219 : ByteArray) (v220 : Int) (v221 : Int) (v222 : List Nat) (y : ByteArray) : Rs := (.str y, [])
theorem impl_storeSheet_den (v219 : ByteArray) (v220 : Int) (v221 : Int) (v222 : List Nat) : (den TT (tabD impl_storeSheet_tab) (tabM impl_storeSheet_tab) (impl_storeSheet_LO v219 v220 v221 v222) (codeOf Try.f37) ([.agg [.str v219, .int .i64 v220, .int .i64 v221, .bslc (BR.root 0) (.f32 v222)]] ++ List.replicate (Try.f37.ntmps - ([.agg [.str v219, .int .i64 v220, .int .i64 v221, .bslc (BR.root 0) (.f32 v222)]] : List DV).length) .undef) []).bind (retD TT Try.f37.results.toList 0) = (impl_storeSheet_T v219 v220 v221 v222).bind fun y => .leaf (impl_storeSheet_enc v219 v220 v221 v222 y) := by kernel_rfl
theorem impl_storeSheet_fn (v219 : ByteArray) (v220 : Int) (v221 : Int) (v222 : List Nat) (F : Fr) (h0 : St F [] F.H0) (hA : DVs.Ok F [] [.agg [.str v219, .int .i64 v220, .int .i64 v221, .bslc (BR.root 0) (.f32 v222)]]) {y : ByteArray} (hy : impl_storeSheet_g v219 v220 v221 v222 = some y) : ∃ F' H', Fwd 0 F F' [] (impl_storeSheet_enc v219 v220 v221 v222 y).2 ∧ FnOk Try.prog 37 (DVs.av F [.agg [.str v219, .int .i64 v220, .int .i64 v221, .bslc (BR.root 0) (.f32 v222)]]) F.H0 ((impl_storeSheet_enc v219 v220 v221 v222 y).1.av F') H' ∧ St F' (impl_storeSheet_enc v219 v220 v221 v222 y).2 H' ∧ (impl_storeSheet_enc v219 v220 v221 v222 y).1.Ok F' (impl_storeSheet_enc v219 v220 v221 v222 y).2 :=
  fn_fin tok impl_storeSheet_hO mixed Try.func37 Try.call37 (by kernel_rfl) (LoopsOk_eq (l := [(0, bodyOf Try.f37 0)]) (by kernel_rfl) ⟨impl_storeSheet_l0_ok v219 v220 v221 v222, trivial⟩) (impl_storeSheet_den v219 v220 v221 v222) hy h0 hA
noncomputable def impl_storeSheet_F : DFn := fun args L =>
  match args with
  | [.agg [.str v219, .int .i64 v220, .int .i64 v221, a1]] =>
    optT (rowF32 L a1) fun v222 =>
    .call (impl_storeSheet_g v219 v220 v221 v222) fun y => .leaf (.str y, L)
  | _ => .fail
theorem impl_storeSheet_Fok : COk Try.prog 37 impl_storeSheet_F true := by
  intro F L H args r L' hs ha hr
  unfold impl_storeSheet_F at hr
  split at hr
  · rename_i v219 v220 v221 a1
    obtain ⟨v222, hv222, hr⟩ := optT_run hr
    simp only [Tree.run] at hr
    obtain ⟨y, hy, hr⟩ := Option.bind_eq_some_iff.1 hr
    simp only [Tree.run, Option.some.injEq, Prod.mk.injEq] at hr
    obtain ⟨rfl, rfl⟩ := hr
    exact call_ok0 hs (fun k => (([a1.av F] : List AV)[k]?).getD .top) [.agg [.str v219, .int .i64 v220, .int .i64 v221, a1]] [.agg [.str v219, .int .i64 v220, .int .i64 v221, .bslc (BR.root 0) (.f32 v222)]] (fun F' h0 hi hρ => ⟨by simp [DVs.av, DV.av, BR.av, hρ], impl_storeSheet_fn v219 v220 v221 v222 F' (st_nil hi) ⟨⟨trivial, trivial, trivial, bslc_ok hi (by rw [h0, hρ]; exact rowF32_ok hs (DVs.okAt (DVs.okAt ha 0 rfl) 3 rfl) hv222), trivial⟩, trivial⟩ hy⟩) rfl
  · cases hr
/-! impl.StoreSheets -/
noncomputable def impl_StoreSheets_nst_l0_T (v147 : List ByteArray) (v148 : List Int) (v149 : List Int) (v150 : List (List Nat)) (v151 : List Nat) (s : ByteArray × Int) : Tree ((ByteArray × Int) ⊕ (ByteArray)) :=
  (.br (decide (s.2 < (((v147).length : Nat) : Int))) (
  (.grd (inb s.2 ((v147).length)) <|
  (.call (impl_storeSheet_g (nth v147 (Int.toNat s.2)) (nth v148 (Int.toNat s.2)) (nth v149 (Int.toNat s.2)) (nget v150 (nth v151 (Int.toNat s.2)))) fun v264 =>
  (.grd (fits (s.1.size + v264.size)) <|
  .leaf (.inl (s.1 ++ v264, IntKind.i64.wrap (s.2 + (1 : Int)))))))
  ) (
  .leaf (.inr s.1)
  ))

noncomputable def impl_StoreSheets_nst_l0_g (v147 : List ByteArray) (v148 : List Int) (v149 : List Int) (v150 : List (List Nat)) (v151 : List Nat) (s0 : ByteArray × Int) : Option (ByteArray) := whileM (fun s => (impl_StoreSheets_nst_l0_T v147 v148 v149 v150 v151 s).run) s0
def impl_StoreSheets_nst_l0_E (v147 : List ByteArray) (v148 : List Int) (v149 : List Int) (v150 : List (List Nat)) (v151 : List Nat) (s : ByteArray × Int) : Sd := ([tp,tp,tp,tp,.str s.1,tp,tp,tp,tp,tp,tp,tp,tp,tp,.nest 0 0 4 ((v147).length),.int .i64 (((v147).length : Nat) : Int),.int .i64 s.2,tp,tp,tp,tp,tp,tp,tp,tp,tp], [.nest [.pl (.str v147), .pl (.i64 v148), .pl (.i64 v149), .sl (.f32 v150) v151] false 0])
def impl_StoreSheets_nst_l0_X (v147 : List ByteArray) (v148 : List Int) (v149 : List Int) (v150 : List (List Nat)) (v151 : List Nat) (x : ByteArray) : Out := (.normal, [tp,tp,tp,tp,.str x,tp,tp,tp,tp,tp,tp,tp,tp,tp,tp,tp,tp,tp,tp,tp,tp,tp,tp,tp,tp,tp], [.nest [.pl (.str v147), .pl (.i64 v148), .pl (.i64 v149), .sl (.f32 v150) v151] false 0])
def impl_StoreSheets_nst_l0_kill : List Nat := KL true [4,1,9,3,9]
def impl_StoreSheets_nst_l0_nx : Exit → List Nat
  | .exit 0 => KL true [4,1,21]
  | .ret => KL true [2,2,22]
  | _ => []
noncomputable def impl_StoreSheets_nst_LO (v147 : List ByteArray) (v148 : List Int) (v149 : List Int) (v150 : List (List Nat)) (v151 : List Nat) : LOr := fun id e L =>
  match id with
  | 0 => .need (normA 1 impl_StoreSheets_nst_l0_kill e L = some (impl_StoreSheets_nst_l0_E v147 v148 v149 v150 v151 ((gS (vAt e 4)), (gI (vAt e 16))))) (.call (impl_StoreSheets_nst_l0_g v147 v148 v149 v150 v151 ((gS (vAt e 4)), (gI (vAt e 16)))) fun x => .leaf (impl_StoreSheets_nst_l0_X v147 v148 v149 v150 v151 x))
  | _ => .fail
noncomputable def impl_StoreSheets_nst_tab : List (FuncId × DFn × Bool) := [(47, slices_ContainsFunc_impl_Sheet_impl_Sheet_nst_F, false), (37, impl_storeSheet_F, true)]
theorem impl_StoreSheets_nst_hO : OrcOk Try.prog (tabD impl_StoreSheets_nst_tab) (tabM impl_StoreSheets_nst_tab) := tabD_cons slices_ContainsFunc_impl_Sheet_impl_Sheet_nst_Fok (tabD_cons impl_storeSheet_Fok (tabD_nil _))
theorem impl_StoreSheets_nst_l0_be (v147 : List ByteArray) (v148 : List Int) (v149 : List Int) (v150 : List (List Nat)) (v151 : List Nat) (s : ByteArray × Int) : bodyT TT (tabD impl_StoreSheets_nst_tab) (tabM impl_StoreSheets_nst_tab) (impl_StoreSheets_nst_LO v147 v148 v149 v150 v151) 1 impl_StoreSheets_nst_l0_kill impl_StoreSheets_nst_l0_nx (bodyOf Try.f24 0) 0 (impl_StoreSheets_nst_l0_E v147 v148 v149 v150 v151 s) = (impl_StoreSheets_nst_l0_T v147 v148 v149 v150 v151 s).bind fun y => .leaf (outS (impl_StoreSheets_nst_l0_E v147 v148 v149 v150 v151) (impl_StoreSheets_nst_l0_X v147 v148 v149 v150 v151) y) := by kernel_rfl
theorem impl_StoreSheets_nst_l0_ok (v147 : List ByteArray) (v148 : List Int) (v149 : List Int) (v150 : List (List Nat)) (v151 : List Nat) : LSound Try.prog 1 (impl_StoreSheets_nst_LO v147 v148 v149 v150 v151) 0 (bodyOf Try.f24 0) := by
  intro e L out h
  exact lo_ok (E := impl_StoreSheets_nst_l0_E v147 v148 v149 v150 v151) (gT := impl_StoreSheets_nst_l0_T v147 v148 v149 v150 v151) (X := impl_StoreSheets_nst_l0_X v147 v148 v149 v150 v151) (s0 := ((gS (vAt e 4)), (gI (vAt e 16)))) tok impl_StoreSheets_nst_hO mixed (LoopsOk_eq (l := []) (by kernel_rfl) trivial) (impl_StoreSheets_nst_l0_be v147 v148 v149 v150 v151) rfl (by intro x; rfl) h
noncomputable def impl_StoreSheets_nst_T (v147 : List ByteArray) (v148 : List Int) (v149 : List Int) (v150 : List (List Nat)) (v151 : List Nat) : Tree ((ByteArray) ⊕ (ByteArray)) :=
  (.br (decide ((8 : Int) < (((v147).length : Nat) : Int))) (
  .leaf (.inl (ByteArray.mk #[]))
  ) (
  (.call (slices_ContainsFunc_impl_Sheet_impl_Sheet_nst_g v147 v148 v149 v150 v151) fun v216 =>
  (.grd (decide ((v147).length = (v147).length)) <|
  (.br v216 (
  .leaf (.inl (ByteArray.mk #[]))
  ) (
  (.need (some (impl_StoreSheets_nst_l0_E v147 v148 v149 v150 v151 ((ByteArray.mk #[]), (0 : Int))) = some (impl_StoreSheets_nst_l0_E v147 v148 v149 v150 v151 ((ByteArray.mk #[]), (0 : Int)))) <|
  (.call (impl_StoreSheets_nst_l0_g v147 v148 v149 v150 v151 ((ByteArray.mk #[]), (0 : Int))) fun v265 =>
  .leaf (.inr v265)))
  ))))
  ))

noncomputable def impl_StoreSheets_nst_g (v147 : List ByteArray) (v148 : List Int) (v149 : List Int) (v150 : List (List Nat)) (v151 : List Nat) : Option ((ByteArray) ⊕ (ByteArray)) := (impl_StoreSheets_nst_T v147 v148 v149 v150 v151).run
def impl_StoreSheets_nst_enc (v147 : List ByteArray) (v148 : List Int) (v149 : List Int) (v150 : List (List Nat)) (v151 : List Nat) (y : (ByteArray) ⊕ (ByteArray)) : Rs := (match y with | .inl y => (.tup [.str y, .lit false], [.nest [.pl (.str v147), .pl (.i64 v148), .pl (.i64 v149), .sl (.f32 v150) v151] false 0]) | .inr y => (.tup [.str y, .lit true], [.nest [.pl (.str v147), .pl (.i64 v148), .pl (.i64 v149), .sl (.f32 v150) v151] false 0]))
theorem impl_StoreSheets_nst_den (v147 : List ByteArray) (v148 : List Int) (v149 : List Int) (v150 : List (List Nat)) (v151 : List Nat) : (den TT (tabD impl_StoreSheets_nst_tab) (tabM impl_StoreSheets_nst_tab) (impl_StoreSheets_nst_LO v147 v148 v149 v150 v151) (codeOf Try.f24) ([.nest 0 0 4 ((v147).length)] ++ List.replicate (Try.f24.ntmps - ([.nest 0 0 4 ((v147).length)] : List DV).length) .undef) [.nest [.pl (.str v147), .pl (.i64 v148), .pl (.i64 v149), .sl (.f32 v150) v151] false 0]).bind (retD TT Try.f24.results.toList 1) = (impl_StoreSheets_nst_T v147 v148 v149 v150 v151).bind fun y => .leaf (impl_StoreSheets_nst_enc v147 v148 v149 v150 v151 y) := by kernel_rfl
theorem impl_StoreSheets_nst_fn (v147 : List ByteArray) (v148 : List Int) (v149 : List Int) (v150 : List (List Nat)) (v151 : List Nat) (F : Fr) (h0 : St F [.nest [.pl (.str v147), .pl (.i64 v148), .pl (.i64 v149), .sl (.f32 v150) v151] false 0] F.H0) (hA : DVs.Ok F [.nest [.pl (.str v147), .pl (.i64 v148), .pl (.i64 v149), .sl (.f32 v150) v151] false 0] [.nest 0 0 4 ((v147).length)]) {y : (ByteArray) ⊕ (ByteArray)} (hy : impl_StoreSheets_nst_g v147 v148 v149 v150 v151 = some y) : ∃ F' H', Fwd 1 F F' [.nest [.pl (.str v147), .pl (.i64 v148), .pl (.i64 v149), .sl (.f32 v150) v151] false 0] (impl_StoreSheets_nst_enc v147 v148 v149 v150 v151 y).2 ∧ FnOk Try.prog 24 (DVs.av F [.nest 0 0 4 ((v147).length)]) F.H0 ((impl_StoreSheets_nst_enc v147 v148 v149 v150 v151 y).1.av F') H' ∧ St F' (impl_StoreSheets_nst_enc v147 v148 v149 v150 v151 y).2 H' ∧ (impl_StoreSheets_nst_enc v147 v148 v149 v150 v151 y).1.Ok F' (impl_StoreSheets_nst_enc v147 v148 v149 v150 v151 y).2 :=
  fn_fin tok impl_StoreSheets_nst_hO mixed Try.func24 Try.call24 (by kernel_rfl) (LoopsOk_eq (l := [(0, bodyOf Try.f24 0)]) (by kernel_rfl) ⟨impl_StoreSheets_nst_l0_ok v147 v148 v149 v150 v151, trivial⟩) (impl_StoreSheets_nst_den v147 v148 v149 v150 v151) hy h0 hA
noncomputable def impl_StoreSheets_nst_F : DFn := fun args L =>
  match args with
  | [a1] =>
    optT (nestN L false 4 a1) fun qn0 =>
    (match qn0.2 with
    | [.pl (.str v147), .pl (.i64 v148), .pl (.i64 v149), .sl (.f32 v150) v151] =>
    (match sepB [qn0.1] [] with
    | true =>
    .call (impl_StoreSheets_nst_g v147 v148 v149 v150 v151) fun y => .sum y (fun y0 => .grd (decide ((v147).length = (v147).length)) (.leaf (.tup [.str y0, .lit false], setB L [(qn0.1, .nest [.pl (.str v147), .pl (.i64 v148), .pl (.i64 v149), .sl (.f32 v150) v151] false (verAt L qn0.1))] ++ []))) (fun z0 => .grd (decide ((v147).length = (v147).length)) (.leaf (.tup [.str z0, .lit true], setB L [(qn0.1, .nest [.pl (.str v147), .pl (.i64 v148), .pl (.i64 v149), .sl (.f32 v150) v151] false (verAt L qn0.1))] ++ [])))
    | false => .fail)
    | _ => .fail)
  | _ => .fail
theorem impl_StoreSheets_nst_Fok : COk Try.prog 24 impl_StoreSheets_nst_F false := by
  intro F L H args r L' hs ha hr
  unfold impl_StoreSheets_nst_F at hr
  split at hr
  · rename_i a1
    obtain ⟨⟨jn0, cn0⟩, hn0, hr⟩ := optT_run hr
    simp only at hr
    split at hr
    · rename_i v147 v148 v149 v150 v151
      obtain ⟨hne0, hnu0, hnl0, hnv0, hnm0, hno0⟩ := nestN_spec hs (DVs.okAt ha 0 rfl) hn0
      split at hr
      · rename_i hsep
        obtain ⟨hnd, hsepv⟩ := sepB_spec hsep
        simp only [Tree.run] at hr
        obtain ⟨y, hy, hr⟩ := Option.bind_eq_some_iff.1 hr
        cases y with
        | inl y =>
          try simp only [Tree.run] at hr
          obtain ⟨hl0, hr⟩ := ite_run hr
          simp only [Option.some.injEq, Prod.mk.injEq] at hr
          obtain ⟨rfl, rfl⟩ := hr
          exact mutG_ok hs [a1] ⟨(DVs.okAt ha 0 rfl), trivial⟩ [a1] [.nest 0 0 4 ((v147).length)] [jn0] [verAt L jn0] [.nest [.pl (.str v147), .pl (.i64 v148), .pl (.i64 v149), .sl (.f32 v150) v151] false 0] [.nest [.pl (.str v147), .pl (.i64 v148), .pl (.i64 v149), .sl (.f32 v150) v151] false 0] [.nest [.pl (.str v147), .pl (.i64 v148), .pl (.i64 v149), .sl (.f32 v150) v151] false (verAt L jn0)] [] hnd rfl rfl (fun j hj => by
              simp at hj
              subst hj; exact ex_nest hne0) (fun j hj => by
              simp at hj
              subst hj; exact reach_refs (by simp [DVs.refs, DV.refs, hnu0])) (fun F' h0 hρ ab hpl hS => by
              have ab0 := ab 0 _ rfl;
              have hnx0 : a1.av F = (.nest 0 0 4 ((v147).length) : DV).av F' := nestN_av (hpl 0 _ rfl) hnv0
              refine ⟨fun i j b' h1 h2 => ?_, by simp [DBlk.blk, DVs.av, DV.av, BR.av, hρ, Row.len, hnx0, ab0, ab0], fun hst => impl_StoreSheets_nst_fn v147 v148 v149 v150 v151 F' hst ⟨(nest_ok0 (i := 0) rfl rfl hnm0), trivial⟩ hy⟩
              rcases i with _ | i
              · simp at h1 h2; subst h1; subst h2; obtain ⟨ver_, hv_⟩ := hne0; exact ⟨_, hv_, .nest _ _ _ _, nest_blk (hpl 0 _ rfl) _ _ _ _, hno0 _ _⟩
              · simp at h1) rfl rfl (fun i j b b' h1 h2 h3 => by
              rcases i with _ | i
              · simp at h1; subst h1; cases h3; exact growN hne0 (by first | exact of_decide_eq_true hl0 | rfl) rfl h2
              · simp at h1)
        | inr y =>
          try simp only [Tree.run] at hr
          obtain ⟨hl0, hr⟩ := ite_run hr
          simp only [Option.some.injEq, Prod.mk.injEq] at hr
          obtain ⟨rfl, rfl⟩ := hr
          exact mutG_ok hs [a1] ⟨(DVs.okAt ha 0 rfl), trivial⟩ [a1] [.nest 0 0 4 ((v147).length)] [jn0] [verAt L jn0] [.nest [.pl (.str v147), .pl (.i64 v148), .pl (.i64 v149), .sl (.f32 v150) v151] false 0] [.nest [.pl (.str v147), .pl (.i64 v148), .pl (.i64 v149), .sl (.f32 v150) v151] false 0] [.nest [.pl (.str v147), .pl (.i64 v148), .pl (.i64 v149), .sl (.f32 v150) v151] false (verAt L jn0)] [] hnd rfl rfl (fun j hj => by
              simp at hj
              subst hj; exact ex_nest hne0) (fun j hj => by
              simp at hj
              subst hj; exact reach_refs (by simp [DVs.refs, DV.refs, hnu0])) (fun F' h0 hρ ab hpl hS => by
              have ab0 := ab 0 _ rfl;
              have hnx0 : a1.av F = (.nest 0 0 4 ((v147).length) : DV).av F' := nestN_av (hpl 0 _ rfl) hnv0
              refine ⟨fun i j b' h1 h2 => ?_, by simp [DBlk.blk, DVs.av, DV.av, BR.av, hρ, Row.len, hnx0, ab0, ab0], fun hst => impl_StoreSheets_nst_fn v147 v148 v149 v150 v151 F' hst ⟨(nest_ok0 (i := 0) rfl rfl hnm0), trivial⟩ hy⟩
              rcases i with _ | i
              · simp at h1 h2; subst h1; subst h2; obtain ⟨ver_, hv_⟩ := hne0; exact ⟨_, hv_, .nest _ _ _ _, nest_blk (hpl 0 _ rfl) _ _ _ _, hno0 _ _⟩
              · simp at h1) rfl rfl (fun i j b b' h1 h2 h3 => by
              rcases i with _ | i
              · simp at h1; subst h1; cases h3; exact growN hne0 (by first | exact of_decide_eq_true hl0 | rfl) rfl h2
              · simp at h1)
      · cases hr
    · cases hr
  · cases hr
/-! laws.sameFloat -/
noncomputable def laws_sameFloat_LO (v298 : Nat) (v299 : Nat) : LOr := fun id e L =>
  match id with
  | _ => .fail
noncomputable def laws_sameFloat_tab : List (FuncId × DFn × Bool) := []
theorem laws_sameFloat_hO : OrcOk Try.prog (tabD laws_sameFloat_tab) (tabM laws_sameFloat_tab) := tabD_nil _
noncomputable def laws_sameFloat_T (v298 : Nat) (v299 : Nat) : Tree (Bool) :=
  (.br (!feq .f64 v298 v298) (
  (.br (!feq .f64 v298 v298) (
  .leaf (!feq .f64 v299 v299)
  ) (
  .leaf false
  ))
  ) (
  (.br (!feq .f64 v299 v299) (
  (.br (!feq .f64 v298 v298) (
  .leaf (!feq .f64 v299 v299)
  ) (
  .leaf false
  ))
  ) (
  (.br (feq .f64 v298 (0 : Nat)) (
  (.br (feq .f64 v299 (0 : Nat)) (
  .leaf ((fgrt .f64 (fdiv .f64 (4607182418800017408 : Nat) v298) (0 : Nat)) == (fgrt .f64 (fdiv .f64 (4607182418800017408 : Nat) v299) (0 : Nat)))
  ) (
  .leaf (feq .f64 v298 v299)
  ))
  ) (
  .leaf (feq .f64 v298 v299)
  ))
  ))
  ))

noncomputable def laws_sameFloat_g (v298 : Nat) (v299 : Nat) : Option (Bool) := (laws_sameFloat_T v298 v299).run
def laws_sameFloat_enc (v298 : Nat) (v299 : Nat) (y : Bool) : Rs := (.bool y, [])
theorem laws_sameFloat_den (v298 : Nat) (v299 : Nat) : (den TT (tabD laws_sameFloat_tab) (tabM laws_sameFloat_tab) (laws_sameFloat_LO v298 v299) (codeOf Try.f85) ([.flt .f64 v298, .flt .f64 v299] ++ List.replicate (Try.f85.ntmps - ([.flt .f64 v298, .flt .f64 v299] : List DV).length) .undef) []).bind (retD TT Try.f85.results.toList 0) = (laws_sameFloat_T v298 v299).bind fun y => .leaf (laws_sameFloat_enc v298 v299 y) := by kernel_rfl
theorem laws_sameFloat_fn (v298 : Nat) (v299 : Nat) (F : Fr) (h0 : St F [] F.H0) (hA : DVs.Ok F [] [.flt .f64 v298, .flt .f64 v299]) {y : Bool} (hy : laws_sameFloat_g v298 v299 = some y) : ∃ F' H', Fwd 0 F F' [] (laws_sameFloat_enc v298 v299 y).2 ∧ FnOk Try.prog 85 (DVs.av F [.flt .f64 v298, .flt .f64 v299]) F.H0 ((laws_sameFloat_enc v298 v299 y).1.av F') H' ∧ St F' (laws_sameFloat_enc v298 v299 y).2 H' ∧ (laws_sameFloat_enc v298 v299 y).1.Ok F' (laws_sameFloat_enc v298 v299 y).2 :=
  fn_fin tok laws_sameFloat_hO mixed Try.func85 Try.call85 (by kernel_rfl) (LoopsOk_eq (l := []) (by kernel_rfl) trivial) (laws_sameFloat_den v298 v299) hy h0 hA
def laws_sameFloat_v (v298 : Nat) (v299 : Nat) : Bool :=
  if (!feq .f64 v298 v298) = true then (
  if (!feq .f64 v298 v298) = true then (
  !feq .f64 v299 v299
  ) else (
  false
  )
  ) else (
  if (!feq .f64 v299 v299) = true then (
  if (!feq .f64 v298 v298) = true then (
  !feq .f64 v299 v299
  ) else (
  false
  )
  ) else (
  if (feq .f64 v298 (0 : Nat)) = true then (
  if (feq .f64 v299 (0 : Nat)) = true then (
  (fgrt .f64 (fdiv .f64 (4607182418800017408 : Nat) v298) (0 : Nat)) == (fgrt .f64 (fdiv .f64 (4607182418800017408 : Nat) v299) (0 : Nat))
  ) else (
  feq .f64 v298 v299
  )
  ) else (
  feq .f64 v298 v299
  )
  )
  )
theorem laws_sameFloat_tot (v298 : Nat) (v299 : Nat) : laws_sameFloat_g v298 v299 = some (laws_sameFloat_v v298 v299) := by
  unfold laws_sameFloat_g laws_sameFloat_T laws_sameFloat_v
  simp only [Tree.run]
  repeat' (first | rfl | split)
noncomputable def laws_sameFloat_F : DFn := fun args L =>
  match args with
  | [.flt .f64 v298, .flt .f64 v299] =>
    .leaf (.bool (laws_sameFloat_v v298 v299), L)
  | _ => .fail
theorem laws_sameFloat_Fok : COk Try.prog 85 laws_sameFloat_F true := by
  intro F L H args r L' hs ha hr
  unfold laws_sameFloat_F at hr
  split at hr
  · rename_i v298 v299
    have hy := laws_sameFloat_tot v298 v299
    generalize laws_sameFloat_v v298 v299 = y at hy hr
    simp only [Tree.run, Option.some.injEq, Prod.mk.injEq] at hr
    obtain ⟨rfl, rfl⟩ := hr
    exact call_ok0 hs (fun k => (([] : List AV)[k]?).getD .top) [.flt .f64 v298, .flt .f64 v299] [.flt .f64 v298, .flt .f64 v299] (fun F' h0 hi hρ => ⟨by simp [DVs.av, DV.av, BR.av, hρ], laws_sameFloat_fn v298 v299 F' (st_nil hi) ⟨trivial, trivial, trivial⟩ hy⟩) rfl
  · cases hr
/-! laws.eqFloat32S -/
noncomputable def laws_eqFloat32S_l0_T (v295 : List Nat) (v296 : List Nat) (s : Int) : Tree ((Int) ⊕ ((Unit) ⊕ (Unit))) :=
  (.br (decide (s < ((v295.length : Nat) : Int))) (
  (.grd (inb s v295.length) <|
  (.grd (inb s v296.length) <|
  (.br (!(laws_sameFloat_v (wid (nth v295 (Int.toNat s))) (wid (nth v296 (Int.toNat s))))) (
  .leaf (.inr (.inl ()))
  ) (
  .leaf (.inl (IntKind.i64.wrap (s + (1 : Int))))
  ))))
  ) (
  .leaf (.inr (.inr ()))
  ))

noncomputable def laws_eqFloat32S_l0_g (v295 : List Nat) (v296 : List Nat) (s0 : Int) : Option ((Unit) ⊕ (Unit)) := whileM (fun s => (laws_eqFloat32S_l0_T v295 v296 s).run) s0
def laws_eqFloat32S_l0_E (v295 : List Nat) (v296 : List Nat) (s : Int) : Sd := ([.bslc (BR.root 0) (.f32 v295),.bslc (BR.root 1) (.f32 v296),tp,tp,tp,.int .i64 s,tp,tp,tp,tp,tp,tp,tp,tp,tp,tp,tp,tp,tp,tp,tp,tp,tp,tp,tp,tp,tp,tp,tp], [])
def laws_eqFloat32S_l0_X (v295 : List Nat) (v296 : List Nat) (x : (Unit) ⊕ (Unit)) : Out := (match x with | .inl x => (.ret, [tp,tp,tp,tp,.lit false,tp,tp,tp,tp,tp,tp,tp,tp,tp,tp,tp,tp,tp,tp,tp,tp,tp,tp,tp,tp,tp,tp,tp,tp], []) | .inr x => (.normal, [tp,tp,tp,tp,tp,tp,tp,tp,tp,tp,tp,tp,tp,tp,tp,tp,tp,tp,tp,tp,tp,tp,tp,tp,tp,tp,tp,tp,tp], []))
def laws_eqFloat32S_l0_kill : List Nat := KL true [0,2,3,1,23]
def laws_eqFloat32S_l0_nx : Exit → List Nat
  | .exit 0 => KL true [29]
  | .ret => KL true [4,1,24]
  | _ => []
noncomputable def laws_eqFloat32S_LO (v295 : List Nat) (v296 : List Nat) : LOr := fun id e L =>
  match id with
  | 0 => .need (normA 0 laws_eqFloat32S_l0_kill e L = some (laws_eqFloat32S_l0_E v295 v296 (gI (vAt e 5)))) (.call (laws_eqFloat32S_l0_g v295 v296 (gI (vAt e 5))) fun x => .sum x (fun b0 => .leaf (laws_eqFloat32S_l0_X v295 v296 (.inl b0))) (fun c0 => .leaf (laws_eqFloat32S_l0_X v295 v296 (.inr c0))))
  | _ => .fail
noncomputable def laws_eqFloat32S_tab : List (FuncId × DFn × Bool) := [(85, laws_sameFloat_F, true)]
theorem laws_eqFloat32S_hO : OrcOk Try.prog (tabD laws_eqFloat32S_tab) (tabM laws_eqFloat32S_tab) := tabD_cons laws_sameFloat_Fok (tabD_nil _)
theorem laws_eqFloat32S_l0_be (v295 : List Nat) (v296 : List Nat) (s : Int) : bodyT TT (tabD laws_eqFloat32S_tab) (tabM laws_eqFloat32S_tab) (laws_eqFloat32S_LO v295 v296) 0 laws_eqFloat32S_l0_kill laws_eqFloat32S_l0_nx (bodyOf Try.f68 0) 0 (laws_eqFloat32S_l0_E v295 v296 s) = (laws_eqFloat32S_l0_T v295 v296 s).bind fun y => .leaf (outS (laws_eqFloat32S_l0_E v295 v296) (laws_eqFloat32S_l0_X v295 v296) y) := by kernel_rfl
theorem laws_eqFloat32S_l0_ok (v295 : List Nat) (v296 : List Nat) : LSound Try.prog 0 (laws_eqFloat32S_LO v295 v296) 0 (bodyOf Try.f68 0) := by
  intro e L out h
  exact lo_ok (E := laws_eqFloat32S_l0_E v295 v296) (gT := laws_eqFloat32S_l0_T v295 v296) (X := laws_eqFloat32S_l0_X v295 v296) (s0 := (gI (vAt e 5))) tok laws_eqFloat32S_hO mixed (LoopsOk_eq (l := []) (by kernel_rfl) trivial) (laws_eqFloat32S_l0_be v295 v296) rfl (by intro x; (cases x with | inl b => rfl | inr x => exact rfl)) h
noncomputable def laws_eqFloat32S_T (v295 : List Nat) (v296 : List Nat) : Tree (Bool) :=
  (.br (!decide (((v295.length : Nat) : Int) = ((v296.length : Nat) : Int))) (
  .leaf false
  ) (
  (.need (some (laws_eqFloat32S_l0_E v295 v296 (0 : Int)) = some (laws_eqFloat32S_l0_E v295 v296 (0 : Int))) <|
  (.call (laws_eqFloat32S_l0_g v295 v296 (0 : Int)) fun v302 =>
  (.sum v302 (fun v303 =>
  .leaf false
  ) (fun v304 =>
  .leaf true
  ))))
  ))

noncomputable def laws_eqFloat32S_g (v295 : List Nat) (v296 : List Nat) : Option (Bool) := (laws_eqFloat32S_T v295 v296).run
def laws_eqFloat32S_enc (v295 : List Nat) (v296 : List Nat) (y : Bool) : Rs := (.bool y, [])
theorem laws_eqFloat32S_den (v295 : List Nat) (v296 : List Nat) : (den TT (tabD laws_eqFloat32S_tab) (tabM laws_eqFloat32S_tab) (laws_eqFloat32S_LO v295 v296) (codeOf Try.f68) ([.bslc (BR.root 0) (.f32 v295), .bslc (BR.root 1) (.f32 v296)] ++ List.replicate (Try.f68.ntmps - ([.bslc (BR.root 0) (.f32 v295), .bslc (BR.root 1) (.f32 v296)] : List DV).length) .undef) []).bind (retD TT Try.f68.results.toList 0) = (laws_eqFloat32S_T v295 v296).bind fun y => .leaf (laws_eqFloat32S_enc v295 v296 y) := by kernel_rfl
theorem laws_eqFloat32S_fn (v295 : List Nat) (v296 : List Nat) (F : Fr) (h0 : St F [] F.H0) (hA : DVs.Ok F [] [.bslc (BR.root 0) (.f32 v295), .bslc (BR.root 1) (.f32 v296)]) {y : Bool} (hy : laws_eqFloat32S_g v295 v296 = some y) : ∃ F' H', Fwd 0 F F' [] (laws_eqFloat32S_enc v295 v296 y).2 ∧ FnOk Try.prog 68 (DVs.av F [.bslc (BR.root 0) (.f32 v295), .bslc (BR.root 1) (.f32 v296)]) F.H0 ((laws_eqFloat32S_enc v295 v296 y).1.av F') H' ∧ St F' (laws_eqFloat32S_enc v295 v296 y).2 H' ∧ (laws_eqFloat32S_enc v295 v296 y).1.Ok F' (laws_eqFloat32S_enc v295 v296 y).2 :=
  fn_fin tok laws_eqFloat32S_hO mixed Try.func68 Try.call68 (by kernel_rfl) (LoopsOk_eq (l := [(0, bodyOf Try.f68 0)]) (by kernel_rfl) ⟨laws_eqFloat32S_l0_ok v295 v296, trivial⟩) (laws_eqFloat32S_den v295 v296) hy h0 hA
noncomputable def laws_eqFloat32S_F : DFn := fun args L =>
  match args with
  | [a1, a2] =>
    optT (rowF32 L a1) fun v295 =>
    optT (rowF32 L a2) fun v296 =>
    .call (laws_eqFloat32S_g v295 v296) fun y => .leaf (.bool y, L)
  | _ => .fail
theorem laws_eqFloat32S_Fok : COk Try.prog 68 laws_eqFloat32S_F true := by
  intro F L H args r L' hs ha hr
  unfold laws_eqFloat32S_F at hr
  split at hr
  · rename_i a1 a2
    obtain ⟨v295, hv295, hr⟩ := optT_run hr
    obtain ⟨v296, hv296, hr⟩ := optT_run hr
    simp only [Tree.run] at hr
    obtain ⟨y, hy, hr⟩ := Option.bind_eq_some_iff.1 hr
    simp only [Tree.run, Option.some.injEq, Prod.mk.injEq] at hr
    obtain ⟨rfl, rfl⟩ := hr
    exact call_ok0 hs (fun k => (([a1.av F, a2.av F] : List AV)[k]?).getD .top) [a1, a2] [.bslc (BR.root 0) (.f32 v295), .bslc (BR.root 1) (.f32 v296)] (fun F' h0 hi hρ => ⟨by simp [DVs.av, DV.av, BR.av, hρ], laws_eqFloat32S_fn v295 v296 F' (st_nil hi) ⟨bslc_ok hi (by rw [h0, hρ]; exact rowF32_ok hs (DVs.okAt ha 0 rfl) hv295), bslc_ok hi (by rw [h0, hρ]; exact rowF32_ok hs (DVs.okAt ha 1 rfl) hv296), trivial⟩ hy⟩) rfl
  · cases hr
/-! laws.eqMatrix -/
noncomputable def laws_eqMatrix_LO (v289 : Int) (v290 : Int) (v291 : List Nat) (v292 : Int) (v293 : Int) (v294 : List Nat) : LOr := fun id e L =>
  match id with
  | _ => .fail
noncomputable def laws_eqMatrix_tab : List (FuncId × DFn × Bool) := [(68, laws_eqFloat32S_F, true)]
theorem laws_eqMatrix_hO : OrcOk Try.prog (tabD laws_eqMatrix_tab) (tabM laws_eqMatrix_tab) := tabD_cons laws_eqFloat32S_Fok (tabD_nil _)
noncomputable def laws_eqMatrix_T (v289 : Int) (v290 : Int) (v291 : List Nat) (v292 : Int) (v293 : Int) (v294 : List Nat) : Tree (Bool) :=
  (.br (!decide (v289 = v292)) (
  .leaf false
  ) (
  (.br (!decide (v290 = v293)) (
  .leaf false
  ) (
  (.call (laws_eqFloat32S_g v291 v294) fun v305 =>
  (.br (!v305) (
  .leaf false
  ) (
  .leaf true
  )))
  ))
  ))

noncomputable def laws_eqMatrix_g (v289 : Int) (v290 : Int) (v291 : List Nat) (v292 : Int) (v293 : Int) (v294 : List Nat) : Option (Bool) := (laws_eqMatrix_T v289 v290 v291 v292 v293 v294).run
def laws_eqMatrix_enc (v289 : Int) (v290 : Int) (v291 : List Nat) (v292 : Int) (v293 : Int) (v294 : List Nat) (y : Bool) : Rs := (.bool y, [])
theorem laws_eqMatrix_den (v289 : Int) (v290 : Int) (v291 : List Nat) (v292 : Int) (v293 : Int) (v294 : List Nat) : (den TT (tabD laws_eqMatrix_tab) (tabM laws_eqMatrix_tab) (laws_eqMatrix_LO v289 v290 v291 v292 v293 v294) (codeOf Try.f38) ([.agg [.int .i64 v289, .int .i64 v290, .bslc (BR.root 0) (.f32 v291)], .agg [.int .i64 v292, .int .i64 v293, .bslc (BR.root 1) (.f32 v294)]] ++ List.replicate (Try.f38.ntmps - ([.agg [.int .i64 v289, .int .i64 v290, .bslc (BR.root 0) (.f32 v291)], .agg [.int .i64 v292, .int .i64 v293, .bslc (BR.root 1) (.f32 v294)]] : List DV).length) .undef) []).bind (retD TT Try.f38.results.toList 0) = (laws_eqMatrix_T v289 v290 v291 v292 v293 v294).bind fun y => .leaf (laws_eqMatrix_enc v289 v290 v291 v292 v293 v294 y) := by kernel_rfl
theorem laws_eqMatrix_fn (v289 : Int) (v290 : Int) (v291 : List Nat) (v292 : Int) (v293 : Int) (v294 : List Nat) (F : Fr) (h0 : St F [] F.H0) (hA : DVs.Ok F [] [.agg [.int .i64 v289, .int .i64 v290, .bslc (BR.root 0) (.f32 v291)], .agg [.int .i64 v292, .int .i64 v293, .bslc (BR.root 1) (.f32 v294)]]) {y : Bool} (hy : laws_eqMatrix_g v289 v290 v291 v292 v293 v294 = some y) : ∃ F' H', Fwd 0 F F' [] (laws_eqMatrix_enc v289 v290 v291 v292 v293 v294 y).2 ∧ FnOk Try.prog 38 (DVs.av F [.agg [.int .i64 v289, .int .i64 v290, .bslc (BR.root 0) (.f32 v291)], .agg [.int .i64 v292, .int .i64 v293, .bslc (BR.root 1) (.f32 v294)]]) F.H0 ((laws_eqMatrix_enc v289 v290 v291 v292 v293 v294 y).1.av F') H' ∧ St F' (laws_eqMatrix_enc v289 v290 v291 v292 v293 v294 y).2 H' ∧ (laws_eqMatrix_enc v289 v290 v291 v292 v293 v294 y).1.Ok F' (laws_eqMatrix_enc v289 v290 v291 v292 v293 v294 y).2 :=
  fn_fin tok laws_eqMatrix_hO mixed Try.func38 Try.call38 (by kernel_rfl) (LoopsOk_eq (l := []) (by kernel_rfl) trivial) (laws_eqMatrix_den v289 v290 v291 v292 v293 v294) hy h0 hA
noncomputable def laws_eqMatrix_F : DFn := fun args L =>
  match args with
  | [.agg [.int .i64 v289, .int .i64 v290, a1], .agg [.int .i64 v292, .int .i64 v293, a2]] =>
    optT (rowF32 L a1) fun v291 =>
    optT (rowF32 L a2) fun v294 =>
    .call (laws_eqMatrix_g v289 v290 v291 v292 v293 v294) fun y => .leaf (.bool y, L)
  | _ => .fail
theorem laws_eqMatrix_Fok : COk Try.prog 38 laws_eqMatrix_F true := by
  intro F L H args r L' hs ha hr
  unfold laws_eqMatrix_F at hr
  split at hr
  · rename_i v289 v290 a1 v292 v293 a2
    obtain ⟨v291, hv291, hr⟩ := optT_run hr
    obtain ⟨v294, hv294, hr⟩ := optT_run hr
    simp only [Tree.run] at hr
    obtain ⟨y, hy, hr⟩ := Option.bind_eq_some_iff.1 hr
    simp only [Tree.run, Option.some.injEq, Prod.mk.injEq] at hr
    obtain ⟨rfl, rfl⟩ := hr
    exact call_ok0 hs (fun k => (([a1.av F, a2.av F] : List AV)[k]?).getD .top) [.agg [.int .i64 v289, .int .i64 v290, a1], .agg [.int .i64 v292, .int .i64 v293, a2]] [.agg [.int .i64 v289, .int .i64 v290, .bslc (BR.root 0) (.f32 v291)], .agg [.int .i64 v292, .int .i64 v293, .bslc (BR.root 1) (.f32 v294)]] (fun F' h0 hi hρ => ⟨by simp [DVs.av, DV.av, BR.av, hρ], laws_eqMatrix_fn v289 v290 v291 v292 v293 v294 F' (st_nil hi) ⟨⟨trivial, trivial, bslc_ok hi (by rw [h0, hρ]; exact rowF32_ok hs (DVs.okAt (DVs.okAt ha 0 rfl) 2 rfl) hv291), trivial⟩, ⟨trivial, trivial, bslc_ok hi (by rw [h0, hρ]; exact rowF32_ok hs (DVs.okAt (DVs.okAt ha 1 rfl) 2 rfl) hv294), trivial⟩, trivial⟩ hy⟩) rfl
  · cases hr
/-! laws.eqSheet -/
noncomputable def laws_eqSheet_LO (v281 : ByteArray) (v282 : Int) (v283 : Int) (v284 : List Nat) (v285 : ByteArray) (v286 : Int) (v287 : Int) (v288 : List Nat) : LOr := fun id e L =>
  match id with
  | _ => .fail
noncomputable def laws_eqSheet_tab : List (FuncId × DFn × Bool) := [(38, laws_eqMatrix_F, true)]
theorem laws_eqSheet_hO : OrcOk Try.prog (tabD laws_eqSheet_tab) (tabM laws_eqSheet_tab) := tabD_cons laws_eqMatrix_Fok (tabD_nil _)
noncomputable def laws_eqSheet_T (v281 : ByteArray) (v282 : Int) (v283 : Int) (v284 : List Nat) (v285 : ByteArray) (v286 : Int) (v287 : Int) (v288 : List Nat) : Tree (Bool) :=
  (.br (!(v281.toList == v285.toList)) (
  .leaf false
  ) (
  (.call (laws_eqMatrix_g v282 v283 v284 v286 v287 v288) fun v306 =>
  (.br (!v306) (
  .leaf false
  ) (
  .leaf true
  )))
  ))

noncomputable def laws_eqSheet_g (v281 : ByteArray) (v282 : Int) (v283 : Int) (v284 : List Nat) (v285 : ByteArray) (v286 : Int) (v287 : Int) (v288 : List Nat) : Option (Bool) := (laws_eqSheet_T v281 v282 v283 v284 v285 v286 v287 v288).run
def laws_eqSheet_enc (v281 : ByteArray) (v282 : Int) (v283 : Int) (v284 : List Nat) (v285 : ByteArray) (v286 : Int) (v287 : Int) (v288 : List Nat) (y : Bool) : Rs := (.bool y, [])
theorem laws_eqSheet_den (v281 : ByteArray) (v282 : Int) (v283 : Int) (v284 : List Nat) (v285 : ByteArray) (v286 : Int) (v287 : Int) (v288 : List Nat) : (den TT (tabD laws_eqSheet_tab) (tabM laws_eqSheet_tab) (laws_eqSheet_LO v281 v282 v283 v284 v285 v286 v287 v288) (codeOf Try.f13) ([.agg [.str v281, .int .i64 v282, .int .i64 v283, .bslc (BR.root 0) (.f32 v284)], .agg [.str v285, .int .i64 v286, .int .i64 v287, .bslc (BR.root 1) (.f32 v288)]] ++ List.replicate (Try.f13.ntmps - ([.agg [.str v281, .int .i64 v282, .int .i64 v283, .bslc (BR.root 0) (.f32 v284)], .agg [.str v285, .int .i64 v286, .int .i64 v287, .bslc (BR.root 1) (.f32 v288)]] : List DV).length) .undef) []).bind (retD TT Try.f13.results.toList 0) = (laws_eqSheet_T v281 v282 v283 v284 v285 v286 v287 v288).bind fun y => .leaf (laws_eqSheet_enc v281 v282 v283 v284 v285 v286 v287 v288 y) := by kernel_rfl
theorem laws_eqSheet_fn (v281 : ByteArray) (v282 : Int) (v283 : Int) (v284 : List Nat) (v285 : ByteArray) (v286 : Int) (v287 : Int) (v288 : List Nat) (F : Fr) (h0 : St F [] F.H0) (hA : DVs.Ok F [] [.agg [.str v281, .int .i64 v282, .int .i64 v283, .bslc (BR.root 0) (.f32 v284)], .agg [.str v285, .int .i64 v286, .int .i64 v287, .bslc (BR.root 1) (.f32 v288)]]) {y : Bool} (hy : laws_eqSheet_g v281 v282 v283 v284 v285 v286 v287 v288 = some y) : ∃ F' H', Fwd 0 F F' [] (laws_eqSheet_enc v281 v282 v283 v284 v285 v286 v287 v288 y).2 ∧ FnOk Try.prog 13 (DVs.av F [.agg [.str v281, .int .i64 v282, .int .i64 v283, .bslc (BR.root 0) (.f32 v284)], .agg [.str v285, .int .i64 v286, .int .i64 v287, .bslc (BR.root 1) (.f32 v288)]]) F.H0 ((laws_eqSheet_enc v281 v282 v283 v284 v285 v286 v287 v288 y).1.av F') H' ∧ St F' (laws_eqSheet_enc v281 v282 v283 v284 v285 v286 v287 v288 y).2 H' ∧ (laws_eqSheet_enc v281 v282 v283 v284 v285 v286 v287 v288 y).1.Ok F' (laws_eqSheet_enc v281 v282 v283 v284 v285 v286 v287 v288 y).2 :=
  fn_fin tok laws_eqSheet_hO mixed Try.func13 Try.call13 (by kernel_rfl) (LoopsOk_eq (l := []) (by kernel_rfl) trivial) (laws_eqSheet_den v281 v282 v283 v284 v285 v286 v287 v288) hy h0 hA
noncomputable def laws_eqSheet_F : DFn := fun args L =>
  match args with
  | [.agg [.str v281, .int .i64 v282, .int .i64 v283, a1], .agg [.str v285, .int .i64 v286, .int .i64 v287, a2]] =>
    optT (rowF32 L a1) fun v284 =>
    optT (rowF32 L a2) fun v288 =>
    .call (laws_eqSheet_g v281 v282 v283 v284 v285 v286 v287 v288) fun y => .leaf (.bool y, L)
  | _ => .fail
theorem laws_eqSheet_Fok : COk Try.prog 13 laws_eqSheet_F true := by
  intro F L H args r L' hs ha hr
  unfold laws_eqSheet_F at hr
  split at hr
  · rename_i v281 v282 v283 a1 v285 v286 v287 a2
    obtain ⟨v284, hv284, hr⟩ := optT_run hr
    obtain ⟨v288, hv288, hr⟩ := optT_run hr
    simp only [Tree.run] at hr
    obtain ⟨y, hy, hr⟩ := Option.bind_eq_some_iff.1 hr
    simp only [Tree.run, Option.some.injEq, Prod.mk.injEq] at hr
    obtain ⟨rfl, rfl⟩ := hr
    exact call_ok0 hs (fun k => (([a1.av F, a2.av F] : List AV)[k]?).getD .top) [.agg [.str v281, .int .i64 v282, .int .i64 v283, a1], .agg [.str v285, .int .i64 v286, .int .i64 v287, a2]] [.agg [.str v281, .int .i64 v282, .int .i64 v283, .bslc (BR.root 0) (.f32 v284)], .agg [.str v285, .int .i64 v286, .int .i64 v287, .bslc (BR.root 1) (.f32 v288)]] (fun F' h0 hi hρ => ⟨by simp [DVs.av, DV.av, BR.av, hρ], laws_eqSheet_fn v281 v282 v283 v284 v285 v286 v287 v288 F' (st_nil hi) ⟨⟨trivial, trivial, trivial, bslc_ok hi (by rw [h0, hρ]; exact rowF32_ok hs (DVs.okAt (DVs.okAt ha 0 rfl) 3 rfl) hv284), trivial⟩, ⟨trivial, trivial, trivial, bslc_ok hi (by rw [h0, hρ]; exact rowF32_ok hs (DVs.okAt (DVs.okAt ha 1 rfl) 3 rfl) hv288), trivial⟩, trivial⟩ hy⟩) rfl
  · cases hr
/-! laws.eqSheetS -/
noncomputable def laws_eqSheetS_nst_l0_T (v270 : List ByteArray) (v271 : List Int) (v272 : List Int) (v273 : List (List Nat)) (v274 : List Nat) (v275 : List ByteArray) (v276 : List Int) (v277 : List Int) (v278 : List (List Nat)) (v279 : List Nat) (s : Int) : Tree ((Int) ⊕ ((Unit) ⊕ (Unit))) :=
  (.br (decide (s < (((v270).length : Nat) : Int))) (
  (.grd (inb s ((v270).length)) <|
  (.grd (inb s ((v275).length)) <|
  (.call (laws_eqSheet_g (nth v270 (Int.toNat s)) (nth v271 (Int.toNat s)) (nth v272 (Int.toNat s)) (nget v273 (nth v274 (Int.toNat s))) (nth v275 (Int.toNat s)) (nth v276 (Int.toNat s)) (nth v277 (Int.toNat s)) (nget v278 (nth v279 (Int.toNat s)))) fun v311 =>
  (.br (!v311) (
  .leaf (.inr (.inl ()))
  ) (
  .leaf (.inl (IntKind.i64.wrap (s + (1 : Int))))
  )))))
  ) (
  .leaf (.inr (.inr ()))
  ))

noncomputable def laws_eqSheetS_nst_l0_g (v270 : List ByteArray) (v271 : List Int) (v272 : List Int) (v273 : List (List Nat)) (v274 : List Nat) (v275 : List ByteArray) (v276 : List Int) (v277 : List Int) (v278 : List (List Nat)) (v279 : List Nat) (s0 : Int) : Option ((Unit) ⊕ (Unit)) := whileM (fun s => (laws_eqSheetS_nst_l0_T v270 v271 v272 v273 v274 v275 v276 v277 v278 v279 s).run) s0
def laws_eqSheetS_nst_l0_E (v270 : List ByteArray) (v271 : List Int) (v272 : List Int) (v273 : List (List Nat)) (v274 : List Nat) (v275 : List ByteArray) (v276 : List Int) (v277 : List Int) (v278 : List (List Nat)) (v279 : List Nat) (s : Int) : Sd := ([.nest 0 0 4 ((v270).length),.nest 1 0 4 ((v275).length),tp,tp,tp,.int .i64 s,tp,tp,tp,tp,tp,tp,tp,tp,tp,tp,tp,tp,tp,tp,tp,tp,tp,tp,tp,tp,tp], [.nest [.pl (.str v270), .pl (.i64 v271), .pl (.i64 v272), .sl (.f32 v273) v274] false 0, .nest [.pl (.str v275), .pl (.i64 v276), .pl (.i64 v277), .sl (.f32 v278) v279] false 0])
def laws_eqSheetS_nst_l0_X (v270 : List ByteArray) (v271 : List Int) (v272 : List Int) (v273 : List (List Nat)) (v274 : List Nat) (v275 : List ByteArray) (v276 : List Int) (v277 : List Int) (v278 : List (List Nat)) (v279 : List Nat) (x : (Unit) ⊕ (Unit)) : Out := (match x with | .inl x => (.ret, [tp,tp,tp,tp,.lit false,tp,tp,tp,tp,tp,tp,tp,tp,tp,tp,tp,tp,tp,tp,tp,tp,tp,tp,tp,tp,tp,tp], [.nest [.pl (.str v270), .pl (.i64 v271), .pl (.i64 v272), .sl (.f32 v273) v274] false 0, .nest [.pl (.str v275), .pl (.i64 v276), .pl (.i64 v277), .sl (.f32 v278) v279] false 0]) | .inr x => (.normal, [tp,tp,tp,tp,tp,tp,tp,tp,tp,tp,tp,tp,tp,tp,tp,tp,tp,tp,tp,tp,tp,tp,tp,tp,tp,tp,tp], [.nest [.pl (.str v270), .pl (.i64 v271), .pl (.i64 v272), .sl (.f32 v273) v274] false 0, .nest [.pl (.str v275), .pl (.i64 v276), .pl (.i64 v277), .sl (.f32 v278) v279] false 0]))
def laws_eqSheetS_nst_l0_kill : List Nat := KL true [0,2,3,1,21]
def laws_eqSheetS_nst_l0_nx : Exit → List Nat
  | .exit 0 => KL true [27]
  | .ret => KL true [4,1,22]
  | _ => []
noncomputable def laws_eqSheetS_nst_LO (v270 : List ByteArray) (v271 : List Int) (v272 : List Int) (v273 : List (List Nat)) (v274 : List Nat) (v275 : List ByteArray) (v276 : List Int) (v277 : List Int) (v278 : List (List Nat)) (v279 : List Nat) : LOr := fun id e L =>
  match id with
  | 0 => .need (normA 2 laws_eqSheetS_nst_l0_kill e L = some (laws_eqSheetS_nst_l0_E v270 v271 v272 v273 v274 v275 v276 v277 v278 v279 (gI (vAt e 5)))) (.call (laws_eqSheetS_nst_l0_g v270 v271 v272 v273 v274 v275 v276 v277 v278 v279 (gI (vAt e 5))) fun x => .sum x (fun b0 => .leaf (laws_eqSheetS_nst_l0_X v270 v271 v272 v273 v274 v275 v276 v277 v278 v279 (.inl b0))) (fun c0 => .leaf (laws_eqSheetS_nst_l0_X v270 v271 v272 v273 v274 v275 v276 v277 v278 v279 (.inr c0))))
  | _ => .fail
noncomputable def laws_eqSheetS_nst_tab : List (FuncId × DFn × Bool) := [(13, laws_eqSheet_F, true)]
theorem laws_eqSheetS_nst_hO : OrcOk Try.prog (tabD laws_eqSheetS_nst_tab) (tabM laws_eqSheetS_nst_tab) := tabD_cons laws_eqSheet_Fok (tabD_nil _)
theorem laws_eqSheetS_nst_l0_be (v270 : List ByteArray) (v271 : List Int) (v272 : List Int) (v273 : List (List Nat)) (v274 : List Nat) (v275 : List ByteArray) (v276 : List Int) (v277 : List Int) (v278 : List (List Nat)) (v279 : List Nat) (s : Int) : bodyT TT (tabD laws_eqSheetS_nst_tab) (tabM laws_eqSheetS_nst_tab) (laws_eqSheetS_nst_LO v270 v271 v272 v273 v274 v275 v276 v277 v278 v279) 2 laws_eqSheetS_nst_l0_kill laws_eqSheetS_nst_l0_nx (bodyOf Try.f22 0) 0 (laws_eqSheetS_nst_l0_E v270 v271 v272 v273 v274 v275 v276 v277 v278 v279 s) = (laws_eqSheetS_nst_l0_T v270 v271 v272 v273 v274 v275 v276 v277 v278 v279 s).bind fun y => .leaf (outS (laws_eqSheetS_nst_l0_E v270 v271 v272 v273 v274 v275 v276 v277 v278 v279) (laws_eqSheetS_nst_l0_X v270 v271 v272 v273 v274 v275 v276 v277 v278 v279) y) := by kernel_rfl
theorem laws_eqSheetS_nst_l0_ok (v270 : List ByteArray) (v271 : List Int) (v272 : List Int) (v273 : List (List Nat)) (v274 : List Nat) (v275 : List ByteArray) (v276 : List Int) (v277 : List Int) (v278 : List (List Nat)) (v279 : List Nat) : LSound Try.prog 2 (laws_eqSheetS_nst_LO v270 v271 v272 v273 v274 v275 v276 v277 v278 v279) 0 (bodyOf Try.f22 0) := by
  intro e L out h
  exact lo_ok (E := laws_eqSheetS_nst_l0_E v270 v271 v272 v273 v274 v275 v276 v277 v278 v279) (gT := laws_eqSheetS_nst_l0_T v270 v271 v272 v273 v274 v275 v276 v277 v278 v279) (X := laws_eqSheetS_nst_l0_X v270 v271 v272 v273 v274 v275 v276 v277 v278 v279) (s0 := (gI (vAt e 5))) tok laws_eqSheetS_nst_hO mixed (LoopsOk_eq (l := []) (by kernel_rfl) trivial) (laws_eqSheetS_nst_l0_be v270 v271 v272 v273 v274 v275 v276 v277 v278 v279) rfl (by intro x; (cases x with | inl b => rfl | inr x => exact rfl)) h
noncomputable def laws_eqSheetS_nst_T (v270 : List ByteArray) (v271 : List Int) (v272 : List Int) (v273 : List (List Nat)) (v274 : List Nat) (v275 : List ByteArray) (v276 : List Int) (v277 : List Int) (v278 : List (List Nat)) (v279 : List Nat) : Tree (Bool) :=
  (.br (!decide ((((v270).length : Nat) : Int) = (((v275).length : Nat) : Int))) (
  .leaf false
  ) (
  (.need (some (laws_eqSheetS_nst_l0_E v270 v271 v272 v273 v274 v275 v276 v277 v278 v279 (0 : Int)) = some (laws_eqSheetS_nst_l0_E v270 v271 v272 v273 v274 v275 v276 v277 v278 v279 (0 : Int))) <|
  (.call (laws_eqSheetS_nst_l0_g v270 v271 v272 v273 v274 v275 v276 v277 v278 v279 (0 : Int)) fun v312 =>
  (.sum v312 (fun v313 =>
  .leaf false
  ) (fun v314 =>
  .leaf true
  ))))
  ))

noncomputable def laws_eqSheetS_nst_g (v270 : List ByteArray) (v271 : List Int) (v272 : List Int) (v273 : List (List Nat)) (v274 : List Nat) (v275 : List ByteArray) (v276 : List Int) (v277 : List Int) (v278 : List (List Nat)) (v279 : List Nat) : Option (Bool) := (laws_eqSheetS_nst_T v270 v271 v272 v273 v274 v275 v276 v277 v278 v279).run
def laws_eqSheetS_nst_enc (v270 : List ByteArray) (v271 : List Int) (v272 : List Int) (v273 : List (List Nat)) (v274 : List Nat) (v275 : List ByteArray) (v276 : List Int) (v277 : List Int) (v278 : List (List Nat)) (v279 : List Nat) (y : Bool) : Rs := (.bool y, [.nest [.pl (.str v270), .pl (.i64 v271), .pl (.i64 v272), .sl (.f32 v273) v274] false 0, .nest [.pl (.str v275), .pl (.i64 v276), .pl (.i64 v277), .sl (.f32 v278) v279] false 0])
theorem laws_eqSheetS_nst_den (v270 : List ByteArray) (v271 : List Int) (v272 : List Int) (v273 : List (List Nat)) (v274 : List Nat) (v275 : List ByteArray) (v276 : List Int) (v277 : List Int) (v278 : List (List Nat)) (v279 : List Nat) : (den TT (tabD laws_eqSheetS_nst_tab) (tabM laws_eqSheetS_nst_tab) (laws_eqSheetS_nst_LO v270 v271 v272 v273 v274 v275 v276 v277 v278 v279) (codeOf Try.f22) ([.nest 0 0 4 ((v270).length), .nest 1 0 4 ((v275).length)] ++ List.replicate (Try.f22.ntmps - ([.nest 0 0 4 ((v270).length), .nest 1 0 4 ((v275).length)] : List DV).length) .undef) [.nest [.pl (.str v270), .pl (.i64 v271), .pl (.i64 v272), .sl (.f32 v273) v274] false 0, .nest [.pl (.str v275), .pl (.i64 v276), .pl (.i64 v277), .sl (.f32 v278) v279] false 0]).bind (retD TT Try.f22.results.toList 2) = (laws_eqSheetS_nst_T v270 v271 v272 v273 v274 v275 v276 v277 v278 v279).bind fun y => .leaf (laws_eqSheetS_nst_enc v270 v271 v272 v273 v274 v275 v276 v277 v278 v279 y) := by kernel_rfl
theorem laws_eqSheetS_nst_fn (v270 : List ByteArray) (v271 : List Int) (v272 : List Int) (v273 : List (List Nat)) (v274 : List Nat) (v275 : List ByteArray) (v276 : List Int) (v277 : List Int) (v278 : List (List Nat)) (v279 : List Nat) (F : Fr) (h0 : St F [.nest [.pl (.str v270), .pl (.i64 v271), .pl (.i64 v272), .sl (.f32 v273) v274] false 0, .nest [.pl (.str v275), .pl (.i64 v276), .pl (.i64 v277), .sl (.f32 v278) v279] false 0] F.H0) (hA : DVs.Ok F [.nest [.pl (.str v270), .pl (.i64 v271), .pl (.i64 v272), .sl (.f32 v273) v274] false 0, .nest [.pl (.str v275), .pl (.i64 v276), .pl (.i64 v277), .sl (.f32 v278) v279] false 0] [.nest 0 0 4 ((v270).length), .nest 1 0 4 ((v275).length)]) {y : Bool} (hy : laws_eqSheetS_nst_g v270 v271 v272 v273 v274 v275 v276 v277 v278 v279 = some y) : ∃ F' H', Fwd 2 F F' [.nest [.pl (.str v270), .pl (.i64 v271), .pl (.i64 v272), .sl (.f32 v273) v274] false 0, .nest [.pl (.str v275), .pl (.i64 v276), .pl (.i64 v277), .sl (.f32 v278) v279] false 0] (laws_eqSheetS_nst_enc v270 v271 v272 v273 v274 v275 v276 v277 v278 v279 y).2 ∧ FnOk Try.prog 22 (DVs.av F [.nest 0 0 4 ((v270).length), .nest 1 0 4 ((v275).length)]) F.H0 ((laws_eqSheetS_nst_enc v270 v271 v272 v273 v274 v275 v276 v277 v278 v279 y).1.av F') H' ∧ St F' (laws_eqSheetS_nst_enc v270 v271 v272 v273 v274 v275 v276 v277 v278 v279 y).2 H' ∧ (laws_eqSheetS_nst_enc v270 v271 v272 v273 v274 v275 v276 v277 v278 v279 y).1.Ok F' (laws_eqSheetS_nst_enc v270 v271 v272 v273 v274 v275 v276 v277 v278 v279 y).2 :=
  fn_fin tok laws_eqSheetS_nst_hO mixed Try.func22 Try.call22 (by kernel_rfl) (LoopsOk_eq (l := [(0, bodyOf Try.f22 0)]) (by kernel_rfl) ⟨laws_eqSheetS_nst_l0_ok v270 v271 v272 v273 v274 v275 v276 v277 v278 v279, trivial⟩) (laws_eqSheetS_nst_den v270 v271 v272 v273 v274 v275 v276 v277 v278 v279) hy h0 hA
noncomputable def laws_eqSheetS_nst_F : DFn := fun args L =>
  match args with
  | [a1, a2] =>
    optT (nestN L false 4 a1) fun qn0 =>
    (match qn0.2 with
    | [.pl (.str v270), .pl (.i64 v271), .pl (.i64 v272), .sl (.f32 v273) v274] =>
    optT (nestN L false 4 a2) fun qn1 =>
    (match qn1.2 with
    | [.pl (.str v275), .pl (.i64 v276), .pl (.i64 v277), .sl (.f32 v278) v279] =>
    (match sepB [qn0.1, qn1.1] [] with
    | true =>
    .call (laws_eqSheetS_nst_g v270 v271 v272 v273 v274 v275 v276 v277 v278 v279) fun y => .grd (decide ((v270).length = (v270).length)) (.grd (decide ((v275).length = (v275).length)) (.leaf (.bool y, setB L [(qn0.1, .nest [.pl (.str v270), .pl (.i64 v271), .pl (.i64 v272), .sl (.f32 v273) v274] false (verAt L qn0.1)), (qn1.1, .nest [.pl (.str v275), .pl (.i64 v276), .pl (.i64 v277), .sl (.f32 v278) v279] false (verAt L qn1.1))] ++ [])))
    | false => .fail)
    | _ => .fail)
    | _ => .fail)
  | _ => .fail
theorem laws_eqSheetS_nst_Fok : COk Try.prog 22 laws_eqSheetS_nst_F false := by
  intro F L H args r L' hs ha hr
  unfold laws_eqSheetS_nst_F at hr
  split at hr
  · rename_i a1 a2
    obtain ⟨⟨jn0, cn0⟩, hn0, hr⟩ := optT_run hr
    simp only at hr
    split at hr
    · rename_i v270 v271 v272 v273 v274
      obtain ⟨hne0, hnu0, hnl0, hnv0, hnm0, hno0⟩ := nestN_spec hs (DVs.okAt ha 0 rfl) hn0
      obtain ⟨⟨jn1, cn1⟩, hn1, hr⟩ := optT_run hr
      simp only at hr
      split at hr
      · rename_i v275 v276 v277 v278 v279
        obtain ⟨hne1, hnu1, hnl1, hnv1, hnm1, hno1⟩ := nestN_spec hs (DVs.okAt ha 1 rfl) hn1
        split at hr
        · rename_i hsep
          obtain ⟨hnd, hsepv⟩ := sepB_spec hsep
          simp only [Tree.run] at hr
          obtain ⟨y, hy, hr⟩ := Option.bind_eq_some_iff.1 hr
          try simp only [Tree.run] at hr
          obtain ⟨hl0, hr⟩ := ite_run hr
          obtain ⟨hl1, hr⟩ := ite_run hr
          simp only [Option.some.injEq, Prod.mk.injEq] at hr
          obtain ⟨rfl, rfl⟩ := hr
          exact mutG_ok hs [a1, a2] ⟨(DVs.okAt ha 0 rfl), (DVs.okAt ha 1 rfl), trivial⟩ [a1, a2] [.nest 0 0 4 ((v270).length), .nest 1 0 4 ((v275).length)] [jn0, jn1] [verAt L jn0, verAt L jn1] [.nest [.pl (.str v270), .pl (.i64 v271), .pl (.i64 v272), .sl (.f32 v273) v274] false 0, .nest [.pl (.str v275), .pl (.i64 v276), .pl (.i64 v277), .sl (.f32 v278) v279] false 0] [.nest [.pl (.str v270), .pl (.i64 v271), .pl (.i64 v272), .sl (.f32 v273) v274] false 0, .nest [.pl (.str v275), .pl (.i64 v276), .pl (.i64 v277), .sl (.f32 v278) v279] false 0] [.nest [.pl (.str v270), .pl (.i64 v271), .pl (.i64 v272), .sl (.f32 v273) v274] false (verAt L jn0), .nest [.pl (.str v275), .pl (.i64 v276), .pl (.i64 v277), .sl (.f32 v278) v279] false (verAt L jn1)] [] hnd rfl rfl (fun j hj => by
              simp at hj
              rcases hj with rfl | rfl
              · exact ex_nest hne0
              · exact ex_nest hne1) (fun j hj => by
              simp at hj
              rcases hj with rfl | rfl
              · exact reach_refs (by simp [DVs.refs, DV.refs, hnu0])
              · exact reach_refs (by simp [DVs.refs, DV.refs, hnu1])) (fun F' h0 hρ ab hpl hS => by
              have ab0 := ab 0 _ rfl; have ab1 := ab 1 _ rfl;
              have hnx0 : a1.av F = (.nest 0 0 4 ((v270).length) : DV).av F' := nestN_av (hpl 0 _ rfl) hnv0
              have hnx1 : a2.av F = (.nest 1 0 4 ((v275).length) : DV).av F' := nestN_av (hpl 1 _ rfl) hnv1
              refine ⟨fun i j b' h1 h2 => ?_, by simp [DBlk.blk, DVs.av, DV.av, BR.av, hρ, Row.len, hnx0, hnx1, ab0, ab0, ab1, ab1], fun hst => laws_eqSheetS_nst_fn v270 v271 v272 v273 v274 v275 v276 v277 v278 v279 F' hst ⟨(nest_ok0 (i := 0) rfl rfl hnm0), (nest_ok0 (i := 1) rfl rfl hnm1), trivial⟩ hy⟩
              rcases i with _ | _ | i
              · simp at h1 h2; subst h1; subst h2; obtain ⟨ver_, hv_⟩ := hne0; exact ⟨_, hv_, .nest _ _ _ _, nest_blk (hpl 0 _ rfl) _ _ _ _, hno0 _ _⟩
              · simp at h1 h2; subst h1; subst h2; obtain ⟨ver_, hv_⟩ := hne1; exact ⟨_, hv_, .nest _ _ _ _, nest_blk (hpl 1 _ rfl) _ _ _ _, hno1 _ _⟩
              · simp at h1) rfl rfl (fun i j b b' h1 h2 h3 => by
              rcases i with _ | _ | i
              · simp at h1; subst h1; cases h3; exact growN hne0 (by first | exact of_decide_eq_true hl0 | rfl) rfl h2
              · simp at h1; subst h1; cases h3; exact growN hne1 (by first | exact of_decide_eq_true hl1 | rfl) rfl h2
              · simp at h1)
        · cases hr
      · cases hr
    · cases hr
  · cases hr
/-! laws.FnExactStoreSheets -/
noncomputable def laws_FnExactStoreSheets_LO (v1 : List ByteArray) (v2 : List Int) (v3 : List Int) (v4 : List (List Nat)) : LOr := fun id e L =>
  match id with
  | _ => .fail
noncomputable def laws_FnExactStoreSheets_tab : List (FuncId × DFn × Bool) := [(18, laws_szSheetS_F, true), (20, laws_toSheetS_F, true), (23, spec_StoreSheets_nst_F, false), (24, impl_StoreSheets_nst_F, false), (22, laws_eqSheetS_nst_F, false)]
theorem laws_FnExactStoreSheets_hO : OrcOk Try.prog (tabD laws_FnExactStoreSheets_tab) (tabM laws_FnExactStoreSheets_tab) := tabD_cons laws_szSheetS_Fok (tabD_cons laws_toSheetS_Fok (tabD_cons spec_StoreSheets_nst_Fok (tabD_cons impl_StoreSheets_nst_Fok (tabD_cons laws_eqSheetS_nst_Fok (tabD_nil _)))))
noncomputable def laws_FnExactStoreSheets_T (v1 : List ByteArray) (v2 : List Int) (v3 : List Int) (v4 : List (List Nat)) : Tree (Bool) :=
  (.call (laws_szSheetS_g v1 v2 v3 v4 (1048576 : Int)) fun v30 =>
  (.br (decide (v30 < (0 : Int))) (
  .leaf true
  ) (
  (.call (laws_toSheetS_g v1 v2 v3 v4) fun v68 =>
  (.call (spec_StoreSheets_nst_g v68.1 v68.2.1 v68.2.2.1 v68.2.2.2.1 v68.2.2.2.2) fun v143 =>
  (.sum v143 (fun v144 =>
  (.grd (decide ((v68.1).length = (v68.1).length)) <|
  (.call (laws_toSheetS_g v1 v2 v3 v4) fun v146 =>
  (.call (impl_StoreSheets_nst_g v146.1 v146.2.1 v146.2.2.1 v146.2.2.2.1 v146.2.2.2.2) fun v266 =>
  (.sum v266 (fun v267 =>
  (.grd (decide ((v146.1).length = (v146.1).length)) <|
  (.br (!(v267.toList == v144.toList)) (
  .leaf false
  ) (
  (.br (!(false == false)) (
  .leaf false
  ) (
  (.call (laws_toSheetS_g v1 v2 v3 v4) fun v269 =>
  (.call (laws_eqSheetS_nst_g v146.1 v146.2.1 v146.2.2.1 v146.2.2.2.1 v146.2.2.2.2 v269.1 v269.2.1 v269.2.2.1 v269.2.2.2.1 v269.2.2.2.2) fun v315 =>
  (.grd (decide ((v146.1).length = (v146.1).length)) <|
  (.grd (decide ((v269.1).length = (v269.1).length)) <|
  (.br (!v315) (
  .leaf false
  ) (
  .leaf true
  ))))))
  ))
  )))
  ) (fun v268 =>
  (.grd (decide ((v146.1).length = (v146.1).length)) <|
  (.br (!(v268.toList == v144.toList)) (
  .leaf false
  ) (
  (.br (!(true == false)) (
  .leaf false
  ) (
  (.call (laws_toSheetS_g v1 v2 v3 v4) fun v316 =>
  (.call (laws_eqSheetS_nst_g v146.1 v146.2.1 v146.2.2.1 v146.2.2.2.1 v146.2.2.2.2 v316.1 v316.2.1 v316.2.2.1 v316.2.2.2.1 v316.2.2.2.2) fun v317 =>
  (.grd (decide ((v146.1).length = (v146.1).length)) <|
  (.grd (decide ((v316.1).length = (v316.1).length)) <|
  (.br (!v317) (
  .leaf false
  ) (
  .leaf true
  ))))))
  ))
  )))
  )))))
  ) (fun v145 =>
  (.grd (decide ((v68.1).length = (v68.1).length)) <|
  (.call (laws_toSheetS_g v1 v2 v3 v4) fun v318 =>
  (.call (impl_StoreSheets_nst_g v318.1 v318.2.1 v318.2.2.1 v318.2.2.2.1 v318.2.2.2.2) fun v319 =>
  (.sum v319 (fun v320 =>
  (.grd (decide ((v318.1).length = (v318.1).length)) <|
  (.br (!(v320.toList == v145.toList)) (
  .leaf false
  ) (
  (.br (!(false == true)) (
  .leaf false
  ) (
  (.call (laws_toSheetS_g v1 v2 v3 v4) fun v322 =>
  (.call (laws_eqSheetS_nst_g v318.1 v318.2.1 v318.2.2.1 v318.2.2.2.1 v318.2.2.2.2 v322.1 v322.2.1 v322.2.2.1 v322.2.2.2.1 v322.2.2.2.2) fun v323 =>
  (.grd (decide ((v318.1).length = (v318.1).length)) <|
  (.grd (decide ((v322.1).length = (v322.1).length)) <|
  (.br (!v323) (
  .leaf false
  ) (
  .leaf true
  ))))))
  ))
  )))
  ) (fun v321 =>
  (.grd (decide ((v318.1).length = (v318.1).length)) <|
  (.br (!(v321.toList == v145.toList)) (
  .leaf false
  ) (
  (.br (!(true == true)) (
  .leaf false
  ) (
  (.call (laws_toSheetS_g v1 v2 v3 v4) fun v324 =>
  (.call (laws_eqSheetS_nst_g v318.1 v318.2.1 v318.2.2.1 v318.2.2.2.1 v318.2.2.2.2 v324.1 v324.2.1 v324.2.2.1 v324.2.2.2.1 v324.2.2.2.2) fun v325 =>
  (.grd (decide ((v318.1).length = (v318.1).length)) <|
  (.grd (decide ((v324.1).length = (v324.1).length)) <|
  (.br (!v325) (
  .leaf false
  ) (
  .leaf true
  ))))))
  ))
  )))
  )))))
  ))))
  )))

noncomputable def laws_FnExactStoreSheets_g (v1 : List ByteArray) (v2 : List Int) (v3 : List Int) (v4 : List (List Nat)) : Option (Bool) := (laws_FnExactStoreSheets_T v1 v2 v3 v4).run
def laws_FnExactStoreSheets_enc (v1 : List ByteArray) (v2 : List Int) (v3 : List Int) (v4 : List (List Nat)) (y : Bool) : Rs := (.bool y, [])
theorem laws_FnExactStoreSheets_den (v1 : List ByteArray) (v2 : List Int) (v3 : List Int) (v4 : List (List Nat)) : (den TT (tabD laws_FnExactStoreSheets_tab) (tabM laws_FnExactStoreSheets_tab) (laws_FnExactStoreSheets_LO v1 v2 v3 v4) (codeOf Try.f6) ([.rns 0 [.pl (.str v1), .pl (.i64 v2), .pl (.i64 v3), .sl (.f32 v4)]] ++ List.replicate (Try.f6.ntmps - ([.rns 0 [.pl (.str v1), .pl (.i64 v2), .pl (.i64 v3), .sl (.f32 v4)]] : List DV).length) .undef) []).bind (retD TT Try.f6.results.toList 0) = (laws_FnExactStoreSheets_T v1 v2 v3 v4).bind fun y => .leaf (laws_FnExactStoreSheets_enc v1 v2 v3 v4 y) := by kernel_rfl
theorem laws_FnExactStoreSheets_fn (v1 : List ByteArray) (v2 : List Int) (v3 : List Int) (v4 : List (List Nat)) (F : Fr) (h0 : St F [] F.H0) (hA : DVs.Ok F [] [.rns 0 [.pl (.str v1), .pl (.i64 v2), .pl (.i64 v3), .sl (.f32 v4)]]) {y : Bool} (hy : laws_FnExactStoreSheets_g v1 v2 v3 v4 = some y) : ∃ F' H', Fwd 0 F F' [] (laws_FnExactStoreSheets_enc v1 v2 v3 v4 y).2 ∧ FnOk Try.prog 6 (DVs.av F [.rns 0 [.pl (.str v1), .pl (.i64 v2), .pl (.i64 v3), .sl (.f32 v4)]]) F.H0 ((laws_FnExactStoreSheets_enc v1 v2 v3 v4 y).1.av F') H' ∧ St F' (laws_FnExactStoreSheets_enc v1 v2 v3 v4 y).2 H' ∧ (laws_FnExactStoreSheets_enc v1 v2 v3 v4 y).1.Ok F' (laws_FnExactStoreSheets_enc v1 v2 v3 v4 y).2 :=
  fn_fin tok laws_FnExactStoreSheets_hO mixed Try.func6 Try.call6 (by kernel_rfl) (LoopsOk_eq (l := []) (by kernel_rfl) trivial) (laws_FnExactStoreSheets_den v1 v2 v3 v4) hy h0 hA
noncomputable def laws_FnExactStoreSheets_F : DFn := fun args L =>
  match args with
  | [a1] =>
    optT (rnsV a1) fun qr0 =>
    (match qr0.2 with
    | [.pl (.str v1), .pl (.i64 v2), .pl (.i64 v3), .sl (.f32 v4)] =>
    .call (laws_FnExactStoreSheets_g v1 v2 v3 v4) fun y => .leaf (.bool y, L)
    | _ => .fail)
  | _ => .fail
theorem laws_FnExactStoreSheets_Fok : COk Try.prog 6 laws_FnExactStoreSheets_F true := by
  intro F L H args r L' hs ha hr
  unfold laws_FnExactStoreSheets_F at hr
  split at hr
  · rename_i a1
    obtain ⟨⟨nr0, cr0⟩, hv0, hr⟩ := optT_run hr
    simp only at hr
    split at hr
    · rename_i v1 v2 v3 v4
      have hrn0 := rnsV_ok hs (DVs.okAt ha 0 rfl) hv0
      have hra0 := rnsV_av (F := F) hv0
      simp only [Tree.run] at hr
      obtain ⟨y, hy, hr⟩ := Option.bind_eq_some_iff.1 hr
      simp only [Tree.run, Option.some.injEq, Prod.mk.injEq] at hr
      obtain ⟨rfl, rfl⟩ := hr
      exact call_ok0 hs (fun k => (([a1.av F] : List AV)[k]?).getD (F.ρ (k - 0 + nr0))) [a1] [.rns 0 [.pl (.str v1), .pl (.i64 v2), .pl (.i64 v3), .sl (.f32 v4)]] (fun F' h0 hi hρ => ⟨by simp [DVs.av, DV.av, BR.av, hρ], laws_FnExactStoreSheets_fn v1 v2 v3 v4 F' (st_nil hi) ⟨(rns_ok (n := nr0) hi (by rw [h0]; exact hrn0) (by rw [hρ]; exact hra0) fun m => by rw [hρ]; exact (rho_far (g := fun k => F.ρ (k - 0 + nr0)) (by simp <;> omega)).trans (congrArg F.ρ (by omega))), trivial⟩ hy⟩) rfl
    · cases hr
  · cases hr
/-! laws.szFloat32S -/
noncomputable def laws_szFloat32S_len_LO (v346 : Nat) (v347 : Int) : LOr := fun id e L =>
  match id with
  | _ => .fail
noncomputable def laws_szFloat32S_len_tab : List (FuncId × DFn × Bool) := []
theorem laws_szFloat32S_len_hO : OrcOk Try.prog (tabD laws_szFloat32S_len_tab) (tabM laws_szFloat32S_len_tab) := tabD_nil _
noncomputable def laws_szFloat32S_len_T (v346 : Nat) (v347 : Int) : Tree (Int) :=
  (.br (decide (IntKind.i64.wrap (v347 - ((v346 : Nat) : Int)) < (0 : Int))) (
  .leaf (-1 : Int)
  ) (
  .leaf (IntKind.i64.wrap (v347 - ((v346 : Nat) : Int)))
  ))

noncomputable def laws_szFloat32S_len_g (v346 : Nat) (v347 : Int) : Option (Int) := (laws_szFloat32S_len_T v346 v347).run
def laws_szFloat32S_len_enc (v346 : Nat) (v347 : Int) (y : Int) : Rs := (.int .i64 y, [])
theorem laws_szFloat32S_len_den (v346 : Nat) (v347 : Int) : (den TT (tabD laws_szFloat32S_len_tab) (tabM laws_szFloat32S_len_tab) (laws_szFloat32S_len_LO v346 v347) (codeOf Try.f59) ([.hslc (BR.root 0) v346, .int .i64 v347] ++ List.replicate (Try.f59.ntmps - ([.hslc (BR.root 0) v346, .int .i64 v347] : List DV).length) .undef) []).bind (retD TT Try.f59.results.toList 0) = (laws_szFloat32S_len_T v346 v347).bind fun y => .leaf (laws_szFloat32S_len_enc v346 v347 y) := by kernel_rfl
theorem laws_szFloat32S_len_fn (v346 : Nat) (v347 : Int) (F : Fr) (h0 : St F [] F.H0) (hA : DVs.Ok F [] [.hslc (BR.root 0) v346, .int .i64 v347]) {y : Int} (hy : laws_szFloat32S_len_g v346 v347 = some y) : ∃ F' H', Fwd 0 F F' [] (laws_szFloat32S_len_enc v346 v347 y).2 ∧ FnOk Try.prog 59 (DVs.av F [.hslc (BR.root 0) v346, .int .i64 v347]) F.H0 ((laws_szFloat32S_len_enc v346 v347 y).1.av F') H' ∧ St F' (laws_szFloat32S_len_enc v346 v347 y).2 H' ∧ (laws_szFloat32S_len_enc v346 v347 y).1.Ok F' (laws_szFloat32S_len_enc v346 v347 y).2 :=
  fn_fin tok laws_szFloat32S_len_hO mixed Try.func59 Try.call59 (by kernel_rfl) (LoopsOk_eq (l := []) (by kernel_rfl) trivial) (laws_szFloat32S_len_den v346 v347) hy h0 hA
def laws_szFloat32S_len_v (v346 : Nat) (v347 : Int) : Int :=
  if (decide (IntKind.i64.wrap (v347 - ((v346 : Nat) : Int)) < (0 : Int))) = true then (
  (-1 : Int)
  ) else (
  IntKind.i64.wrap (v347 - ((v346 : Nat) : Int))
  )
theorem laws_szFloat32S_len_tot (v346 : Nat) (v347 : Int) : laws_szFloat32S_len_g v346 v347 = some (laws_szFloat32S_len_v v346 v347) := by
  unfold laws_szFloat32S_len_g laws_szFloat32S_len_T laws_szFloat32S_len_v
  simp only [Tree.run]
  repeat' (first | rfl | split)
noncomputable def laws_szFloat32S_len_F : DFn := fun args L =>
  match args with
  | [a1, .int .i64 v347] =>
    optT (lenV L a1) fun v346 =>
    .leaf (.int .i64 (laws_szFloat32S_len_v v346 v347), L)
  | _ => .fail
theorem laws_szFloat32S_len_Fok : COk Try.prog 59 laws_szFloat32S_len_F true := by
  intro F L H args r L' hs ha hr
  unfold laws_szFloat32S_len_F at hr
  split at hr
  · rename_i a1 v347
    obtain ⟨v346, hv346, hr⟩ := optT_run hr
    have hy := laws_szFloat32S_len_tot v346 v347
    generalize laws_szFloat32S_len_v v346 v347 = y at hy hr
    simp only [Tree.run, Option.some.injEq, Prod.mk.injEq] at hr
    obtain ⟨rfl, rfl⟩ := hr
    exact call_ok0 hs (fun k => (([a1.av F] : List AV)[k]?).getD .top) [a1, .int .i64 v347] [.hslc (BR.root 0) v346, .int .i64 v347] (fun F' h0 hi hρ => ⟨by simp [DVs.av, DV.av, BR.av, hρ], laws_szFloat32S_len_fn v346 v347 F' (st_nil hi) ⟨hslc_ok hi (by rw [h0, hρ]; exact lenV_ok hs (DVs.okAt ha 0 rfl) hv346), trivial, trivial⟩ hy⟩) rfl
  · cases hr
/-! laws.szMatrix -/
noncomputable def laws_szMatrix_len_LO (v342 : Int) (v343 : Int) (v344 : Nat) (v345 : Int) : LOr := fun id e L =>
  match id with
  | _ => .fail
noncomputable def laws_szMatrix_len_tab : List (FuncId × DFn × Bool) := [(59, laws_szFloat32S_len_F, true)]
theorem laws_szMatrix_len_hO : OrcOk Try.prog (tabD laws_szMatrix_len_tab) (tabM laws_szMatrix_len_tab) := tabD_cons laws_szFloat32S_len_Fok (tabD_nil _)
noncomputable def laws_szMatrix_len_T (v344 : Nat) (v345 : Int) : Tree (Int) :=
  (.br (decide ((laws_szFloat32S_len_v v344 v345) < (0 : Int))) (
  .leaf (-1 : Int)
  ) (
  .leaf (laws_szFloat32S_len_v v344 v345)
  ))

noncomputable def laws_szMatrix_len_g (v344 : Nat) (v345 : Int) : Option (Int) := (laws_szMatrix_len_T v344 v345).run
def laws_szMatrix_len_enc (v342 : Int) (v343 : Int) (v344 : Nat) (v345 : Int) (y : Int) : Rs := (.int .i64 y, [])
theorem laws_szMatrix_len_den (v342 : Int) (v343 : Int) (v344 : Nat) (v345 : Int) : (den TT (tabD laws_szMatrix_len_tab) (tabM laws_szMatrix_len_tab) (laws_szMatrix_len_LO v342 v343 v344 v345) (codeOf Try.f33) ([.agg [.int .i64 v342, .int .i64 v343, .hslc (BR.root 0) v344], .int .i64 v345] ++ List.replicate (Try.f33.ntmps - ([.agg [.int .i64 v342, .int .i64 v343, .hslc (BR.root 0) v344], .int .i64 v345] : List DV).length) .undef) []).bind (retD TT Try.f33.results.toList 0) = (laws_szMatrix_len_T v344 v345).bind fun y => .leaf (laws_szMatrix_len_enc v342 v343 v344 v345 y) := by kernel_rfl
theorem laws_szMatrix_len_fn (v342 : Int) (v343 : Int) (v344 : Nat) (v345 : Int) (F : Fr) (h0 : St F [] F.H0) (hA : DVs.Ok F [] [.agg [.int .i64 v342, .int .i64 v343, .hslc (BR.root 0) v344], .int .i64 v345]) {y : Int} (hy : laws_szMatrix_len_g v344 v345 = some y) : ∃ F' H', Fwd 0 F F' [] (laws_szMatrix_len_enc v342 v343 v344 v345 y).2 ∧ FnOk Try.prog 33 (DVs.av F [.agg [.int .i64 v342, .int .i64 v343, .hslc (BR.root 0) v344], .int .i64 v345]) F.H0 ((laws_szMatrix_len_enc v342 v343 v344 v345 y).1.av F') H' ∧ St F' (laws_szMatrix_len_enc v342 v343 v344 v345 y).2 H' ∧ (laws_szMatrix_len_enc v342 v343 v344 v345 y).1.Ok F' (laws_szMatrix_len_enc v342 v343 v344 v345 y).2 :=
  fn_fin tok laws_szMatrix_len_hO mixed Try.func33 Try.call33 (by kernel_rfl) (LoopsOk_eq (l := []) (by kernel_rfl) trivial) (laws_szMatrix_len_den v342 v343 v344 v345) hy h0 hA
def laws_szMatrix_len_v (v344 : Nat) (v345 : Int) : Int :=
  if (decide ((laws_szFloat32S_len_v v344 v345) < (0 : Int))) = true then (
  (-1 : Int)
  ) else (
  (laws_szFloat32S_len_v v344 v345)
  )
theorem laws_szMatrix_len_tot (v344 : Nat) (v345 : Int) : laws_szMatrix_len_g v344 v345 = some (laws_szMatrix_len_v v344 v345) := by
  unfold laws_szMatrix_len_g laws_szMatrix_len_T laws_szMatrix_len_v
  simp only [Tree.run]
  repeat' (first | rfl | split)
noncomputable def laws_szMatrix_len_F : DFn := fun args L =>
  match args with
  | [.agg [.int .i64 v342, .int .i64 v343, a1], .int .i64 v345] =>
    optT (lenV L a1) fun v344 =>
    .leaf (.int .i64 (laws_szMatrix_len_v v344 v345), L)
  | _ => .fail
theorem laws_szMatrix_len_Fok : COk Try.prog 33 laws_szMatrix_len_F true := by
  intro F L H args r L' hs ha hr
  unfold laws_szMatrix_len_F at hr
  split at hr
  · rename_i v342 v343 a1 v345
    obtain ⟨v344, hv344, hr⟩ := optT_run hr
    have hy := laws_szMatrix_len_tot v344 v345
    generalize laws_szMatrix_len_v v344 v345 = y at hy hr
    simp only [Tree.run, Option.some.injEq, Prod.mk.injEq] at hr
    obtain ⟨rfl, rfl⟩ := hr
    exact call_ok0 hs (fun k => (([a1.av F] : List AV)[k]?).getD .top) [.agg [.int .i64 v342, .int .i64 v343, a1], .int .i64 v345] [.agg [.int .i64 v342, .int .i64 v343, .hslc (BR.root 0) v344], .int .i64 v345] (fun F' h0 hi hρ => ⟨by simp [DVs.av, DV.av, BR.av, hρ], laws_szMatrix_len_fn v342 v343 v344 v345 F' (st_nil hi) ⟨⟨trivial, trivial, hslc_ok hi (by rw [h0, hρ]; exact lenV_ok hs (DVs.okAt (DVs.okAt ha 0 rfl) 2 rfl) hv344), trivial⟩, trivial, trivial⟩ hy⟩) rfl
  · cases hr
/-! laws.szSheet -/
noncomputable def laws_szSheet_len_LO (v337 : ByteArray) (v338 : Int) (v339 : Int) (v340 : Nat) (v341 : Int) : LOr := fun id e L =>
  match id with
  | _ => .fail
noncomputable def laws_szSheet_len_tab : List (FuncId × DFn × Bool) := [(33, laws_szMatrix_len_F, true)]
theorem laws_szSheet_len_hO : OrcOk Try.prog (tabD laws_szSheet_len_tab) (tabM laws_szSheet_len_tab) := tabD_cons laws_szMatrix_len_Fok (tabD_nil _)
noncomputable def laws_szSheet_len_T (v337 : ByteArray) (v340 : Nat) (v341 : Int) : Tree (Int) :=
  (.br (decide (IntKind.i64.wrap (v341 - ((v337.size : Nat) : Int)) < (0 : Int))) (
  .leaf (-1 : Int)
  ) (
  (.br (decide ((laws_szMatrix_len_v v340 (IntKind.i64.wrap (v341 - ((v337.size : Nat) : Int)))) < (0 : Int))) (
  .leaf (-1 : Int)
  ) (
  .leaf (laws_szMatrix_len_v v340 (IntKind.i64.wrap (v341 - ((v337.size : Nat) : Int))))
  ))
  ))

noncomputable def laws_szSheet_len_g (v337 : ByteArray) (v340 : Nat) (v341 : Int) : Option (Int) := (laws_szSheet_len_T v337 v340 v341).run
def laws_szSheet_len_enc (v337 : ByteArray) (v338 : Int) (v339 : Int) (v340 : Nat) (v341 : Int) (y : Int) : Rs := (.int .i64 y, [])
theorem laws_szSheet_len_den (v337 : ByteArray) (v338 : Int) (v339 : Int) (v340 : Nat) (v341 : Int) : (den TT (tabD laws_szSheet_len_tab) (tabM laws_szSheet_len_tab) (laws_szSheet_len_LO v337 v338 v339 v340 v341) (codeOf Try.f9) ([.agg [.str v337, .int .i64 v338, .int .i64 v339, .hslc (BR.root 0) v340], .int .i64 v341] ++ List.replicate (Try.f9.ntmps - ([.agg [.str v337, .int .i64 v338, .int .i64 v339, .hslc (BR.root 0) v340], .int .i64 v341] : List DV).length) .undef) []).bind (retD TT Try.f9.results.toList 0) = (laws_szSheet_len_T v337 v340 v341).bind fun y => .leaf (laws_szSheet_len_enc v337 v338 v339 v340 v341 y) := by kernel_rfl
theorem laws_szSheet_len_fn (v337 : ByteArray) (v338 : Int) (v339 : Int) (v340 : Nat) (v341 : Int) (F : Fr) (h0 : St F [] F.H0) (hA : DVs.Ok F [] [.agg [.str v337, .int .i64 v338, .int .i64 v339, .hslc (BR.root 0) v340], .int .i64 v341]) {y : Int} (hy : laws_szSheet_len_g v337 v340 v341 = some y) : ∃ F' H', Fwd 0 F F' [] (laws_szSheet_len_enc v337 v338 v339 v340 v341 y).2 ∧ FnOk Try.prog 9 (DVs.av F [.agg [.str v337, .int .i64 v338, .int .i64 v339, .hslc (BR.root 0) v340], .int .i64 v341]) F.H0 ((laws_szSheet_len_enc v337 v338 v339 v340 v341 y).1.av F') H' ∧ St F' (laws_szSheet_len_enc v337 v338 v339 v340 v341 y).2 H' ∧ (laws_szSheet_len_enc v337 v338 v339 v340 v341 y).1.Ok F' (laws_szSheet_len_enc v337 v338 v339 v340 v341 y).2 :=
  fn_fin tok laws_szSheet_len_hO mixed Try.func9 Try.call9 (by kernel_rfl) (LoopsOk_eq (l := []) (by kernel_rfl) trivial) (laws_szSheet_len_den v337 v338 v339 v340 v341) hy h0 hA
def laws_szSheet_len_v (v337 : ByteArray) (v340 : Nat) (v341 : Int) : Int :=
  if (decide (IntKind.i64.wrap (v341 - ((v337.size : Nat) : Int)) < (0 : Int))) = true then (
  (-1 : Int)
  ) else (
  if (decide ((laws_szMatrix_len_v v340 (IntKind.i64.wrap (v341 - ((v337.size : Nat) : Int)))) < (0 : Int))) = true then (
  (-1 : Int)
  ) else (
  (laws_szMatrix_len_v v340 (IntKind.i64.wrap (v341 - ((v337.size : Nat) : Int))))
  )
  )
theorem laws_szSheet_len_tot (v337 : ByteArray) (v340 : Nat) (v341 : Int) : laws_szSheet_len_g v337 v340 v341 = some (laws_szSheet_len_v v337 v340 v341) := by
  unfold laws_szSheet_len_g laws_szSheet_len_T laws_szSheet_len_v
  simp only [Tree.run]
  repeat' (first | rfl | split)
noncomputable def laws_szSheet_len_F : DFn := fun args L =>
  match args with
  | [.agg [.str v337, .int .i64 v338, .int .i64 v339, a1], .int .i64 v341] =>
    optT (lenV L a1) fun v340 =>
    .leaf (.int .i64 (laws_szSheet_len_v v337 v340 v341), L)
  | _ => .fail
theorem laws_szSheet_len_Fok : COk Try.prog 9 laws_szSheet_len_F true := by
  intro F L H args r L' hs ha hr
  unfold laws_szSheet_len_F at hr
  split at hr
  · rename_i v337 v338 v339 a1 v341
    obtain ⟨v340, hv340, hr⟩ := optT_run hr
    have hy := laws_szSheet_len_tot v337 v340 v341
    generalize laws_szSheet_len_v v337 v340 v341 = y at hy hr
    simp only [Tree.run, Option.some.injEq, Prod.mk.injEq] at hr
    obtain ⟨rfl, rfl⟩ := hr
    exact call_ok0 hs (fun k => (([a1.av F] : List AV)[k]?).getD .top) [.agg [.str v337, .int .i64 v338, .int .i64 v339, a1], .int .i64 v341] [.agg [.str v337, .int .i64 v338, .int .i64 v339, .hslc (BR.root 0) v340], .int .i64 v341] (fun F' h0 hi hρ => ⟨by simp [DVs.av, DV.av, BR.av, hρ], laws_szSheet_len_fn v337 v338 v339 v340 v341 F' (st_nil hi) ⟨⟨trivial, trivial, trivial, hslc_ok hi (by rw [h0, hρ]; exact lenV_ok hs (DVs.okAt (DVs.okAt ha 0 rfl) 3 rfl) hv340), trivial⟩, trivial, trivial⟩ hy⟩) rfl
  · cases hr
/-! laws.szSheetS -/
noncomputable def laws_szSheetS_len_l0_T (v330 : List ByteArray) (v333 : List Nat) (s : Int × Int) : Tree ((Int × Int) ⊕ ((Unit) ⊕ (Int))) :=
  (.br (decide (s.2 < ((v330.length : Nat) : Int))) (
  (.grd (inb s.2 v330.length) <|
  (.br (decide ((laws_szSheet_len_v (nth v330 (Int.toNat s.2)) (nth v333 (Int.toNat s.2)) s.1) < (0 : Int))) (
  .leaf (.inr (.inl ()))
  ) (
  .leaf (.inl ((laws_szSheet_len_v (nth v330 (Int.toNat s.2)) (nth v333 (Int.toNat s.2)) s.1), IntKind.i64.wrap (s.2 + (1 : Int))))
  )))
  ) (
  .leaf (.inr (.inr s.1))
  ))

noncomputable def laws_szSheetS_len_l0_g (v330 : List ByteArray) (v333 : List Nat) (s0 : Int × Int) : Option ((Unit) ⊕ (Int)) := whileM (fun s => (laws_szSheetS_len_l0_T v330 v333 s).run) s0
def laws_szSheetS_len_l0_E (v330 : List ByteArray) (v331 : List Int) (v332 : List Int) (v333 : List Nat) (v334 : Int) (s : Int × Int) : Sd := ([.rns 0 [.pl (.str v330), .pl (.i64 v331), .pl (.i64 v332), .ln v333],.int .i64 s.1,tp,tp,tp,.int .i64 s.2,tp,tp,tp,tp,tp,tp,tp,tp,tp,tp,tp,tp,tp,tp,tp,tp,tp,tp,tp,tp,tp], [])
def laws_szSheetS_len_l0_X (v330 : List ByteArray) (v331 : List Int) (v332 : List Int) (v333 : List Nat) (v334 : Int) (x : (Unit) ⊕ (Int)) : Out := (match x with | .inl x => (.ret, [tp,tp,tp,tp,.int .i64 (-1 : Int),tp,tp,tp,tp,tp,tp,tp,tp,tp,tp,tp,tp,tp,tp,tp,tp,tp,tp,tp,tp,tp,tp], []) | .inr x => (.normal, [tp,.int .i64 x,tp,tp,tp,tp,tp,tp,tp,tp,tp,tp,tp,tp,tp,tp,tp,tp,tp,tp,tp,tp,tp,tp,tp,tp,tp], []))
def laws_szSheetS_len_l0_kill : List Nat := KL true [0,2,3,1,21]
def laws_szSheetS_len_l0_nx : Exit → List Nat
  | .exit 0 => KL true [1,1,25]
  | .ret => KL true [4,1,22]
  | _ => []
noncomputable def laws_szSheetS_len_LO (v330 : List ByteArray) (v331 : List Int) (v332 : List Int) (v333 : List Nat) (v334 : Int) : LOr := fun id e L =>
  match id with
  | 0 => .need (normA 0 laws_szSheetS_len_l0_kill e L = some (laws_szSheetS_len_l0_E v330 v331 v332 v333 v334 ((gI (vAt e 1)), (gI (vAt e 5))))) (.call (laws_szSheetS_len_l0_g v330 v333 ((gI (vAt e 1)), (gI (vAt e 5)))) fun x => .sum x (fun b0 => .leaf (laws_szSheetS_len_l0_X v330 v331 v332 v333 v334 (.inl b0))) (fun c0 => .leaf (laws_szSheetS_len_l0_X v330 v331 v332 v333 v334 (.inr c0))))
  | _ => .fail
noncomputable def laws_szSheetS_len_tab : List (FuncId × DFn × Bool) := [(9, laws_szSheet_len_F, true)]
theorem laws_szSheetS_len_hO : OrcOk Try.prog (tabD laws_szSheetS_len_tab) (tabM laws_szSheetS_len_tab) := tabD_cons laws_szSheet_len_Fok (tabD_nil _)
theorem laws_szSheetS_len_l0_be (v330 : List ByteArray) (v331 : List Int) (v332 : List Int) (v333 : List Nat) (v334 : Int) (s : Int × Int) : bodyT TT (tabD laws_szSheetS_len_tab) (tabM laws_szSheetS_len_tab) (laws_szSheetS_len_LO v330 v331 v332 v333 v334) 0 laws_szSheetS_len_l0_kill laws_szSheetS_len_l0_nx (bodyOf Try.f18 0) 0 (laws_szSheetS_len_l0_E v330 v331 v332 v333 v334 s) = (laws_szSheetS_len_l0_T v330 v333 s).bind fun y => .leaf (outS (laws_szSheetS_len_l0_E v330 v331 v332 v333 v334) (laws_szSheetS_len_l0_X v330 v331 v332 v333 v334) y) := by kernel_rfl
theorem laws_szSheetS_len_l0_ok (v330 : List ByteArray) (v331 : List Int) (v332 : List Int) (v333 : List Nat) (v334 : Int) : LSound Try.prog 0 (laws_szSheetS_len_LO v330 v331 v332 v333 v334) 0 (bodyOf Try.f18 0) := by
  intro e L out h
  exact lo_ok (E := laws_szSheetS_len_l0_E v330 v331 v332 v333 v334) (gT := laws_szSheetS_len_l0_T v330 v333) (X := laws_szSheetS_len_l0_X v330 v331 v332 v333 v334) (s0 := ((gI (vAt e 1)), (gI (vAt e 5)))) tok laws_szSheetS_len_hO mixed (LoopsOk_eq (l := []) (by kernel_rfl) trivial) (laws_szSheetS_len_l0_be v330 v331 v332 v333 v334) rfl (by intro x; (cases x with | inl b => rfl | inr x => exact rfl)) h
noncomputable def laws_szSheetS_len_T (v330 : List ByteArray) (v331 : List Int) (v332 : List Int) (v333 : List Nat) (v334 : Int) : Tree (Int) :=
  (.br (decide (IntKind.i64.wrap (v334 - ((v330.length : Nat) : Int)) < (0 : Int))) (
  .leaf (-1 : Int)
  ) (
  (.need (some (laws_szSheetS_len_l0_E v330 v331 v332 v333 v334 (IntKind.i64.wrap (v334 - ((v330.length : Nat) : Int)), (0 : Int))) = some (laws_szSheetS_len_l0_E v330 v331 v332 v333 v334 (IntKind.i64.wrap (v334 - ((v330.length : Nat) : Int)), (0 : Int)))) <|
  (.call (laws_szSheetS_len_l0_g v330 v333 (IntKind.i64.wrap (v334 - ((v330.length : Nat) : Int)), (0 : Int))) fun v352 =>
  (.sum v352 (fun v353 =>
  .leaf (-1 : Int)
  ) (fun v354 =>
  .leaf v354
  ))))
  ))

noncomputable def laws_szSheetS_len_g (v330 : List ByteArray) (v331 : List Int) (v332 : List Int) (v333 : List Nat) (v334 : Int) : Option (Int) := (laws_szSheetS_len_T v330 v331 v332 v333 v334).run
def laws_szSheetS_len_enc (v330 : List ByteArray) (v331 : List Int) (v332 : List Int) (v333 : List Nat) (v334 : Int) (y : Int) : Rs := (.int .i64 y, [])
theorem laws_szSheetS_len_den (v330 : List ByteArray) (v331 : List Int) (v332 : List Int) (v333 : List Nat) (v334 : Int) : (den TT (tabD laws_szSheetS_len_tab) (tabM laws_szSheetS_len_tab) (laws_szSheetS_len_LO v330 v331 v332 v333 v334) (codeOf Try.f18) ([.rns 0 [.pl (.str v330), .pl (.i64 v331), .pl (.i64 v332), .ln v333], .int .i64 v334] ++ List.replicate (Try.f18.ntmps - ([.rns 0 [.pl (.str v330), .pl (.i64 v331), .pl (.i64 v332), .ln v333], .int .i64 v334] : List DV).length) .undef) []).bind (retD TT Try.f18.results.toList 0) = (laws_szSheetS_len_T v330 v331 v332 v333 v334).bind fun y => .leaf (laws_szSheetS_len_enc v330 v331 v332 v333 v334 y) := by kernel_rfl
theorem laws_szSheetS_len_fn (v330 : List ByteArray) (v331 : List Int) (v332 : List Int) (v333 : List Nat) (v334 : Int) (F : Fr) (h0 : St F [] F.H0) (hA : DVs.Ok F [] [.rns 0 [.pl (.str v330), .pl (.i64 v331), .pl (.i64 v332), .ln v333], .int .i64 v334]) {y : Int} (hy : laws_szSheetS_len_g v330 v331 v332 v333 v334 = some y) : ∃ F' H', Fwd 0 F F' [] (laws_szSheetS_len_enc v330 v331 v332 v333 v334 y).2 ∧ FnOk Try.prog 18 (DVs.av F [.rns 0 [.pl (.str v330), .pl (.i64 v331), .pl (.i64 v332), .ln v333], .int .i64 v334]) F.H0 ((laws_szSheetS_len_enc v330 v331 v332 v333 v334 y).1.av F') H' ∧ St F' (laws_szSheetS_len_enc v330 v331 v332 v333 v334 y).2 H' ∧ (laws_szSheetS_len_enc v330 v331 v332 v333 v334 y).1.Ok F' (laws_szSheetS_len_enc v330 v331 v332 v333 v334 y).2 :=
  fn_fin tok laws_szSheetS_len_hO mixed Try.func18 Try.call18 (by kernel_rfl) (LoopsOk_eq (l := [(0, bodyOf Try.f18 0)]) (by kernel_rfl) ⟨laws_szSheetS_len_l0_ok v330 v331 v332 v333 v334, trivial⟩) (laws_szSheetS_len_den v330 v331 v332 v333 v334) hy h0 hA
noncomputable def laws_szSheetS_len_F : DFn := fun args L =>
  match args with
  | [a1, .int .i64 v334] =>
    optT (rnsV a1) fun qr0 =>
    (match qr0.2 with
    | [.pl (.str v330), .pl (.i64 v331), .pl (.i64 v332), .ln v333] =>
    .call (laws_szSheetS_len_g v330 v331 v332 v333 v334) fun y => .leaf (.int .i64 y, L)
    | _ => .fail)
  | _ => .fail
theorem laws_szSheetS_len_Fok : COk Try.prog 18 laws_szSheetS_len_F true := by
  intro F L H args r L' hs ha hr
  unfold laws_szSheetS_len_F at hr
  split at hr
  · rename_i a1 v334
    obtain ⟨⟨nr0, cr0⟩, hv0, hr⟩ := optT_run hr
    simp only at hr
    split at hr
    · rename_i v330 v331 v332 v333
      have hrn0 := rnsV_ok hs (DVs.okAt ha 0 rfl) hv0
      have hra0 := rnsV_av (F := F) hv0
      simp only [Tree.run] at hr
      obtain ⟨y, hy, hr⟩ := Option.bind_eq_some_iff.1 hr
      simp only [Tree.run, Option.some.injEq, Prod.mk.injEq] at hr
      obtain ⟨rfl, rfl⟩ := hr
      exact call_ok0 hs (fun k => (([a1.av F] : List AV)[k]?).getD (F.ρ (k - 0 + nr0))) [a1, .int .i64 v334] [.rns 0 [.pl (.str v330), .pl (.i64 v331), .pl (.i64 v332), .ln v333], .int .i64 v334] (fun F' h0 hi hρ => ⟨by simp [DVs.av, DV.av, BR.av, hρ], laws_szSheetS_len_fn v330 v331 v332 v333 v334 F' (st_nil hi) ⟨(rns_ok (n := nr0) hi (by rw [h0]; exact hrn0) (by rw [hρ]; exact hra0) fun m => by rw [hρ]; exact (rho_far (g := fun k => F.ρ (k - 0 + nr0)) (by simp <;> omega)).trans (congrArg F.ρ (by omega))), trivial, trivial⟩ hy⟩) rfl
    · cases hr
  · cases hr
/-! laws.FnExactStoreSheets -/
noncomputable def laws_FnExactStoreSheets_len_LO (v326 : List ByteArray) (v327 : List Int) (v328 : List Int) (v329 : List Nat) : LOr := fun id e L =>
  match id with
  | _ => .fail
noncomputable def laws_FnExactStoreSheets_len_tab : List (FuncId × DFn × Bool) := [(18, laws_szSheetS_len_F, true)]
theorem laws_FnExactStoreSheets_len_hO : OrcOk Try.prog (tabD laws_FnExactStoreSheets_len_tab) (tabM laws_FnExactStoreSheets_len_tab) := tabD_cons laws_szSheetS_len_Fok (tabD_nil _)
noncomputable def laws_FnExactStoreSheets_len_T (v326 : List ByteArray) (v327 : List Int) (v328 : List Int) (v329 : List Nat) : Tree (Bool) :=
  (.call (laws_szSheetS_len_g v326 v327 v328 v329 (1048576 : Int)) fun v355 =>
  (.br (decide (v355 < (0 : Int))) (
  .leaf true
  ) (
  .fail
  )))

noncomputable def laws_FnExactStoreSheets_len_g (v326 : List ByteArray) (v327 : List Int) (v328 : List Int) (v329 : List Nat) : Option (Bool) := (laws_FnExactStoreSheets_len_T v326 v327 v328 v329).run
def laws_FnExactStoreSheets_len_enc (v326 : List ByteArray) (v327 : List Int) (v328 : List Int) (v329 : List Nat) (y : Bool) : Rs := (.bool y, [])
theorem laws_FnExactStoreSheets_len_den (v326 : List ByteArray) (v327 : List Int) (v328 : List Int) (v329 : List Nat) : (den TT (tabD laws_FnExactStoreSheets_len_tab) (tabM laws_FnExactStoreSheets_len_tab) (laws_FnExactStoreSheets_len_LO v326 v327 v328 v329) (codeOf Try.f6) ([.rns 0 [.pl (.str v326), .pl (.i64 v327), .pl (.i64 v328), .ln v329]] ++ List.replicate (Try.f6.ntmps - ([.rns 0 [.pl (.str v326), .pl (.i64 v327), .pl (.i64 v328), .ln v329]] : List DV).length) .undef) []).bind (retD TT Try.f6.results.toList 0) = (laws_FnExactStoreSheets_len_T v326 v327 v328 v329).bind fun y => .leaf (laws_FnExactStoreSheets_len_enc v326 v327 v328 v329 y) := by kernel_rfl
theorem laws_FnExactStoreSheets_len_fn (v326 : List ByteArray) (v327 : List Int) (v328 : List Int) (v329 : List Nat) (F : Fr) (h0 : St F [] F.H0) (hA : DVs.Ok F [] [.rns 0 [.pl (.str v326), .pl (.i64 v327), .pl (.i64 v328), .ln v329]]) {y : Bool} (hy : laws_FnExactStoreSheets_len_g v326 v327 v328 v329 = some y) : ∃ F' H', Fwd 0 F F' [] (laws_FnExactStoreSheets_len_enc v326 v327 v328 v329 y).2 ∧ FnOk Try.prog 6 (DVs.av F [.rns 0 [.pl (.str v326), .pl (.i64 v327), .pl (.i64 v328), .ln v329]]) F.H0 ((laws_FnExactStoreSheets_len_enc v326 v327 v328 v329 y).1.av F') H' ∧ St F' (laws_FnExactStoreSheets_len_enc v326 v327 v328 v329 y).2 H' ∧ (laws_FnExactStoreSheets_len_enc v326 v327 v328 v329 y).1.Ok F' (laws_FnExactStoreSheets_len_enc v326 v327 v328 v329 y).2 :=
  fn_fin tok laws_FnExactStoreSheets_len_hO mixed Try.func6 Try.call6 (by kernel_rfl) (LoopsOk_eq (l := []) (by kernel_rfl) trivial) (laws_FnExactStoreSheets_len_den v326 v327 v328 v329) hy h0 hA
noncomputable def laws_FnExactStoreSheets_len_F : DFn := fun args L =>
  match args with
  | [a1] =>
    optT (rnsV a1) fun qr0 =>
    (match qr0.2 with
    | [.pl (.str v326), .pl (.i64 v327), .pl (.i64 v328), .ln v329] =>
    .call (laws_FnExactStoreSheets_len_g v326 v327 v328 v329) fun y => .leaf (.bool y, L)
    | _ => .fail)
  | _ => .fail
theorem laws_FnExactStoreSheets_len_Fok : COk Try.prog 6 laws_FnExactStoreSheets_len_F true := by
  intro F L H args r L' hs ha hr
  unfold laws_FnExactStoreSheets_len_F at hr
  split at hr
  · rename_i a1
    obtain ⟨⟨nr0, cr0⟩, hv0, hr⟩ := optT_run hr
    simp only at hr
    split at hr
    · rename_i v326 v327 v328 v329
      have hrn0 := rnsV_ok hs (DVs.okAt ha 0 rfl) hv0
      have hra0 := rnsV_av (F := F) hv0
      simp only [Tree.run] at hr
      obtain ⟨y, hy, hr⟩ := Option.bind_eq_some_iff.1 hr
      simp only [Tree.run, Option.some.injEq, Prod.mk.injEq] at hr
      obtain ⟨rfl, rfl⟩ := hr
      exact call_ok0 hs (fun k => (([a1.av F] : List AV)[k]?).getD (F.ρ (k - 0 + nr0))) [a1] [.rns 0 [.pl (.str v326), .pl (.i64 v327), .pl (.i64 v328), .ln v329]] (fun F' h0 hi hρ => ⟨by simp [DVs.av, DV.av, BR.av, hρ], laws_FnExactStoreSheets_len_fn v326 v327 v328 v329 F' (st_nil hi) ⟨(rns_ok (n := nr0) hi (by rw [h0]; exact hrn0) (by rw [hρ]; exact hra0) fun m => by rw [hρ]; exact (rho_far (g := fun k => F.ρ (k - 0 + nr0)) (by simp <;> omega)).trans (congrArg F.ρ (by omega))), trivial⟩ hy⟩) rfl
    · cases hr
  · cases hr
end Go.Proofs.Ythdmkdkbfhoahaa.AM
