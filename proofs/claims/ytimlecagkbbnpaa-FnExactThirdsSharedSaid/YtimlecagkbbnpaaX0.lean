/- Functions: what they come to. -/
import Derived.Test.YtimlecagkbbnpaaBase
set_option maxRecDepth 100000
set_option maxHeartbeats 4000000
set_option linter.unusedSimpArgs false
set_option linter.unusedVariables false
namespace Go.Proofs.Ytimlecagkbbnpaa.AM
open Go.Proofs
/-! laws.szFloat32S -/
noncomputable def laws_szFloat32S_LO (v16 : List Nat) (v17 : Int) : LOr := fun id e L =>
  match id with
  | _ => .fail
noncomputable def laws_szFloat32S_tab : List (FuncId × DFn × Bool) := []
theorem laws_szFloat32S_hO : OrcOk Try.prog (tabD laws_szFloat32S_tab) (tabM laws_szFloat32S_tab) := tabD_nil _
noncomputable def laws_szFloat32S_T (v16 : List Nat) (v17 : Int) : Tree (Int) :=
  (.br (decide (IntKind.i64.wrap (v17 - ((v16.length : Nat) : Int)) < (0 : Int))) (
  .leaf (-1 : Int)
  ) (
  .leaf (IntKind.i64.wrap (v17 - ((v16.length : Nat) : Int)))
  ))

noncomputable def laws_szFloat32S_g (v16 : List Nat) (v17 : Int) : Option (Int) := (laws_szFloat32S_T v16 v17).run
def laws_szFloat32S_enc (v16 : List Nat) (v17 : Int) (y : Int) : Rs := (.int .i64 y, [])
theorem laws_szFloat32S_den (v16 : List Nat) (v17 : Int) : (den TT (tabD laws_szFloat32S_tab) (tabM laws_szFloat32S_tab) (laws_szFloat32S_LO v16 v17) (codeOf Try.f96) ([.bslc (BR.root 0) (.f32 v16), .int .i64 v17] ++ List.replicate (Try.f96.ntmps - ([.bslc (BR.root 0) (.f32 v16), .int .i64 v17] : List DV).length) .undef) []).bind (retD TT Try.f96.results.toList 0) = (laws_szFloat32S_T v16 v17).bind fun y => .leaf (laws_szFloat32S_enc v16 v17 y) := by kernel_rfl
theorem laws_szFloat32S_fn (v16 : List Nat) (v17 : Int) (F : Fr) (h0 : St F [] F.H0) (hA : DVs.Ok F [] [.bslc (BR.root 0) (.f32 v16), .int .i64 v17]) {y : Int} (hy : laws_szFloat32S_g v16 v17 = some y) : ∃ F' H', Fwd 0 F F' [] (laws_szFloat32S_enc v16 v17 y).2 ∧ FnOk Try.prog 96 (DVs.av F [.bslc (BR.root 0) (.f32 v16), .int .i64 v17]) F.H0 ((laws_szFloat32S_enc v16 v17 y).1.av F') H' ∧ St F' (laws_szFloat32S_enc v16 v17 y).2 H' ∧ (laws_szFloat32S_enc v16 v17 y).1.Ok F' (laws_szFloat32S_enc v16 v17 y).2 :=
  fn_fin tok laws_szFloat32S_hO mixed Try.func96 Try.call96 (by kernel_rfl) (LoopsOk_eq (l := []) (by kernel_rfl) trivial) (laws_szFloat32S_den v16 v17) hy h0 hA
def laws_szFloat32S_v (v16 : List Nat) (v17 : Int) : Int :=
  if (decide (IntKind.i64.wrap (v17 - ((v16.length : Nat) : Int)) < (0 : Int))) = true then (
  (-1 : Int)
  ) else (
  IntKind.i64.wrap (v17 - ((v16.length : Nat) : Int))
  )
theorem laws_szFloat32S_tot (v16 : List Nat) (v17 : Int) : laws_szFloat32S_g v16 v17 = some (laws_szFloat32S_v v16 v17) := by
  unfold laws_szFloat32S_g laws_szFloat32S_T laws_szFloat32S_v
  simp only [Tree.run]
  repeat' (first | rfl | split)
noncomputable def laws_szFloat32S_F : DFn := fun args L =>
  match args with
  | [a1, .int .i64 v17] =>
    optT (rowF32 L a1) fun v16 =>
    .leaf (.int .i64 (laws_szFloat32S_v v16 v17), L)
  | _ => .fail
theorem laws_szFloat32S_Fok : COk Try.prog 96 laws_szFloat32S_F true := by
  intro F L H args r L' hs ha hr
  unfold laws_szFloat32S_F at hr
  split at hr
  · rename_i a1 v17
    obtain ⟨v16, hv16, hr⟩ := optT_run hr
    have hy := laws_szFloat32S_tot v16 v17
    generalize laws_szFloat32S_v v16 v17 = y at hy hr
    simp only [Tree.run, Option.some.injEq, Prod.mk.injEq] at hr
    obtain ⟨rfl, rfl⟩ := hr
    exact call_ok0 hs (fun k => (([a1.av F] : List AV)[k]?).getD .top) [a1, .int .i64 v17] [.bslc (BR.root 0) (.f32 v16), .int .i64 v17] (fun F' h0 hi hρ => ⟨by simp [DVs.av, DV.av, BR.av, hρ], laws_szFloat32S_fn v16 v17 F' (st_nil hi) ⟨bslc_ok hi (by rw [h0, hρ]; exact rowF32_ok hs (DVs.okAt ha 0 rfl) hv16), trivial, trivial⟩ hy⟩) rfl
  · cases hr
/-! laws.szThirds -/
noncomputable def laws_szThirds_LO (v12 : List Nat) (v13 : List Nat) (v14 : List Nat) (v15 : Int) : LOr := fun id e L =>
  match id with
  | _ => .fail
noncomputable def laws_szThirds_tab : List (FuncId × DFn × Bool) := [(96, laws_szFloat32S_F, true)]
theorem laws_szThirds_hO : OrcOk Try.prog (tabD laws_szThirds_tab) (tabM laws_szThirds_tab) := tabD_cons laws_szFloat32S_Fok (tabD_nil _)
noncomputable def laws_szThirds_T (v12 : List Nat) (v13 : List Nat) (v14 : List Nat) (v15 : Int) : Tree (Int) :=
  (.br (decide ((laws_szFloat32S_v v12 v15) < (0 : Int))) (
  .leaf (-1 : Int)
  ) (
  (.br (decide ((laws_szFloat32S_v v13 (laws_szFloat32S_v v12 v15)) < (0 : Int))) (
  .leaf (-1 : Int)
  ) (
  (.br (decide ((laws_szFloat32S_v v14 (laws_szFloat32S_v v13 (laws_szFloat32S_v v12 v15))) < (0 : Int))) (
  .leaf (-1 : Int)
  ) (
  .leaf (laws_szFloat32S_v v14 (laws_szFloat32S_v v13 (laws_szFloat32S_v v12 v15)))
  ))
  ))
  ))

noncomputable def laws_szThirds_g (v12 : List Nat) (v13 : List Nat) (v14 : List Nat) (v15 : Int) : Option (Int) := (laws_szThirds_T v12 v13 v14 v15).run
def laws_szThirds_enc (v12 : List Nat) (v13 : List Nat) (v14 : List Nat) (v15 : Int) (y : Int) : Rs := (.int .i64 y, [])
theorem laws_szThirds_den (v12 : List Nat) (v13 : List Nat) (v14 : List Nat) (v15 : Int) : (den TT (tabD laws_szThirds_tab) (tabM laws_szThirds_tab) (laws_szThirds_LO v12 v13 v14 v15) (codeOf Try.f114) ([.agg [.bslc (BR.root 0) (.f32 v12), .bslc (BR.root 1) (.f32 v13), .bslc (BR.root 2) (.f32 v14)], .int .i64 v15] ++ List.replicate (Try.f114.ntmps - ([.agg [.bslc (BR.root 0) (.f32 v12), .bslc (BR.root 1) (.f32 v13), .bslc (BR.root 2) (.f32 v14)], .int .i64 v15] : List DV).length) .undef) []).bind (retD TT Try.f114.results.toList 0) = (laws_szThirds_T v12 v13 v14 v15).bind fun y => .leaf (laws_szThirds_enc v12 v13 v14 v15 y) := by kernel_rfl
theorem laws_szThirds_fn (v12 : List Nat) (v13 : List Nat) (v14 : List Nat) (v15 : Int) (F : Fr) (h0 : St F [] F.H0) (hA : DVs.Ok F [] [.agg [.bslc (BR.root 0) (.f32 v12), .bslc (BR.root 1) (.f32 v13), .bslc (BR.root 2) (.f32 v14)], .int .i64 v15]) {y : Int} (hy : laws_szThirds_g v12 v13 v14 v15 = some y) : ∃ F' H', Fwd 0 F F' [] (laws_szThirds_enc v12 v13 v14 v15 y).2 ∧ FnOk Try.prog 114 (DVs.av F [.agg [.bslc (BR.root 0) (.f32 v12), .bslc (BR.root 1) (.f32 v13), .bslc (BR.root 2) (.f32 v14)], .int .i64 v15]) F.H0 ((laws_szThirds_enc v12 v13 v14 v15 y).1.av F') H' ∧ St F' (laws_szThirds_enc v12 v13 v14 v15 y).2 H' ∧ (laws_szThirds_enc v12 v13 v14 v15 y).1.Ok F' (laws_szThirds_enc v12 v13 v14 v15 y).2 :=
  fn_fin tok laws_szThirds_hO mixed Try.func114 Try.call114 (by kernel_rfl) (LoopsOk_eq (l := []) (by kernel_rfl) trivial) (laws_szThirds_den v12 v13 v14 v15) hy h0 hA
def laws_szThirds_v (v12 : List Nat) (v13 : List Nat) (v14 : List Nat) (v15 : Int) : Int :=
  if (decide ((laws_szFloat32S_v v12 v15) < (0 : Int))) = true then (
  (-1 : Int)
  ) else (
  if (decide ((laws_szFloat32S_v v13 (laws_szFloat32S_v v12 v15)) < (0 : Int))) = true then (
  (-1 : Int)
  ) else (
  if (decide ((laws_szFloat32S_v v14 (laws_szFloat32S_v v13 (laws_szFloat32S_v v12 v15))) < (0 : Int))) = true then (
  (-1 : Int)
  ) else (
  (laws_szFloat32S_v v14 (laws_szFloat32S_v v13 (laws_szFloat32S_v v12 v15)))
  )
  )
  )
theorem laws_szThirds_tot (v12 : List Nat) (v13 : List Nat) (v14 : List Nat) (v15 : Int) : laws_szThirds_g v12 v13 v14 v15 = some (laws_szThirds_v v12 v13 v14 v15) := by
  unfold laws_szThirds_g laws_szThirds_T laws_szThirds_v
  simp only [Tree.run]
  repeat' (first | rfl | split)
noncomputable def laws_szThirds_F : DFn := fun args L =>
  match args with
  | [.agg [a1, a2, a3], .int .i64 v15] =>
    optT (rowF32 L a1) fun v12 =>
    optT (rowF32 L a2) fun v13 =>
    optT (rowF32 L a3) fun v14 =>
    .leaf (.int .i64 (laws_szThirds_v v12 v13 v14 v15), L)
  | _ => .fail
theorem laws_szThirds_Fok : COk Try.prog 114 laws_szThirds_F true := by
  intro F L H args r L' hs ha hr
  unfold laws_szThirds_F at hr
  split at hr
  · rename_i a1 a2 a3 v15
    obtain ⟨v12, hv12, hr⟩ := optT_run hr
    obtain ⟨v13, hv13, hr⟩ := optT_run hr
    obtain ⟨v14, hv14, hr⟩ := optT_run hr
    have hy := laws_szThirds_tot v12 v13 v14 v15
    generalize laws_szThirds_v v12 v13 v14 v15 = y at hy hr
    simp only [Tree.run, Option.some.injEq, Prod.mk.injEq] at hr
    obtain ⟨rfl, rfl⟩ := hr
    exact call_ok0 hs (fun k => (([a1.av F, a2.av F, a3.av F] : List AV)[k]?).getD .top) [.agg [a1, a2, a3], .int .i64 v15] [.agg [.bslc (BR.root 0) (.f32 v12), .bslc (BR.root 1) (.f32 v13), .bslc (BR.root 2) (.f32 v14)], .int .i64 v15] (fun F' h0 hi hρ => ⟨by simp [DVs.av, DV.av, BR.av, hρ], laws_szThirds_fn v12 v13 v14 v15 F' (st_nil hi) ⟨⟨bslc_ok hi (by rw [h0, hρ]; exact rowF32_ok hs (DVs.okAt (DVs.okAt ha 0 rfl) 0 rfl) hv12), bslc_ok hi (by rw [h0, hρ]; exact rowF32_ok hs (DVs.okAt (DVs.okAt ha 0 rfl) 1 rfl) hv13), bslc_ok hi (by rw [h0, hρ]; exact rowF32_ok hs (DVs.okAt (DVs.okAt ha 0 rfl) 2 rfl) hv14), trivial⟩, trivial, trivial⟩ hy⟩) rfl
  · cases hr
/-! laws.szThirdsS -/
noncomputable def laws_szThirdsS_l0_T (v6 : List (List Nat)) (v7 : List (List Nat)) (v8 : List (List Nat)) (s : Int × Int) : Tree ((Int × Int) ⊕ ((Unit) ⊕ (Int))) :=
  (.br (decide (s.2 < ((v6.length : Nat) : Int))) (
  (.grd (inb s.2 v6.length) <|
  (.br (decide ((laws_szThirds_v (nth v6 (Int.toNat s.2)) (nth v7 (Int.toNat s.2)) (nth v8 (Int.toNat s.2)) s.1) < (0 : Int))) (
  .leaf (.inr (.inl ()))
  ) (
  .leaf (.inl ((laws_szThirds_v (nth v6 (Int.toNat s.2)) (nth v7 (Int.toNat s.2)) (nth v8 (Int.toNat s.2)) s.1), IntKind.i64.wrap (s.2 + (1 : Int))))
  )))
  ) (
  .leaf (.inr (.inr s.1))
  ))

noncomputable def laws_szThirdsS_l0_g (v6 : List (List Nat)) (v7 : List (List Nat)) (v8 : List (List Nat)) (s0 : Int × Int) : Option ((Unit) ⊕ (Int)) := whileM (fun s => (laws_szThirdsS_l0_T v6 v7 v8 s).run) s0
def laws_szThirdsS_l0_E (v6 : List (List Nat)) (v7 : List (List Nat)) (v8 : List (List Nat)) (v9 : Int) (s : Int × Int) : Sd := ([.rns 0 [.sl (.f32 v6), .sl (.f32 v7), .sl (.f32 v8)],.int .i64 s.1,tp,tp,tp,.int .i64 s.2,tp,tp,tp,tp,tp,tp,tp,tp,tp,tp,tp,tp,tp,tp,tp,tp,tp,tp,tp,tp,tp], [])
def laws_szThirdsS_l0_X (v6 : List (List Nat)) (v7 : List (List Nat)) (v8 : List (List Nat)) (v9 : Int) (x : (Unit) ⊕ (Int)) : Out := (match x with | .inl x => (.ret, [tp,tp,tp,tp,.int .i64 (-1 : Int),tp,tp,tp,tp,tp,tp,tp,tp,tp,tp,tp,tp,tp,tp,tp,tp,tp,tp,tp,tp,tp,tp], []) | .inr x => (.normal, [tp,.int .i64 x,tp,tp,tp,tp,tp,tp,tp,tp,tp,tp,tp,tp,tp,tp,tp,tp,tp,tp,tp,tp,tp,tp,tp,tp,tp], []))
def laws_szThirdsS_l0_kill : List Nat := KL true [0,2,3,1,21]
def laws_szThirdsS_l0_nx : Exit → List Nat
  | .exit 0 => KL true [1,1,25]
  | .ret => KL true [4,1,22]
  | _ => []
noncomputable def laws_szThirdsS_LO (v6 : List (List Nat)) (v7 : List (List Nat)) (v8 : List (List Nat)) (v9 : Int) : LOr := fun id e L =>
  match id with
  | 0 => .need (normA 0 laws_szThirdsS_l0_kill e L = some (laws_szThirdsS_l0_E v6 v7 v8 v9 ((gI (vAt e 1)), (gI (vAt e 5))))) (.call (laws_szThirdsS_l0_g v6 v7 v8 ((gI (vAt e 1)), (gI (vAt e 5)))) fun x => .sum x (fun b0 => .leaf (laws_szThirdsS_l0_X v6 v7 v8 v9 (.inl b0))) (fun c0 => .leaf (laws_szThirdsS_l0_X v6 v7 v8 v9 (.inr c0))))
  | _ => .fail
noncomputable def laws_szThirdsS_tab : List (FuncId × DFn × Bool) := [(114, laws_szThirds_F, true)]
theorem laws_szThirdsS_hO : OrcOk Try.prog (tabD laws_szThirdsS_tab) (tabM laws_szThirdsS_tab) := tabD_cons laws_szThirds_Fok (tabD_nil _)
theorem laws_szThirdsS_l0_be (v6 : List (List Nat)) (v7 : List (List Nat)) (v8 : List (List Nat)) (v9 : Int) (s : Int × Int) : bodyT TT (tabD laws_szThirdsS_tab) (tabM laws_szThirdsS_tab) (laws_szThirdsS_LO v6 v7 v8 v9) 0 laws_szThirdsS_l0_kill laws_szThirdsS_l0_nx (bodyOf Try.f42 0) 0 (laws_szThirdsS_l0_E v6 v7 v8 v9 s) = (laws_szThirdsS_l0_T v6 v7 v8 s).bind fun y => .leaf (outS (laws_szThirdsS_l0_E v6 v7 v8 v9) (laws_szThirdsS_l0_X v6 v7 v8 v9) y) := by kernel_rfl
theorem laws_szThirdsS_l0_ok (v6 : List (List Nat)) (v7 : List (List Nat)) (v8 : List (List Nat)) (v9 : Int) : LSound Try.prog 0 (laws_szThirdsS_LO v6 v7 v8 v9) 0 (bodyOf Try.f42 0) := by
  intro e L out h
  exact lo_ok (E := laws_szThirdsS_l0_E v6 v7 v8 v9) (gT := laws_szThirdsS_l0_T v6 v7 v8) (X := laws_szThirdsS_l0_X v6 v7 v8 v9) (s0 := ((gI (vAt e 1)), (gI (vAt e 5)))) tok laws_szThirdsS_hO mixed (LoopsOk_eq (l := []) (by kernel_rfl) trivial) (laws_szThirdsS_l0_be v6 v7 v8 v9) rfl (by intro x; (cases x with | inl b => rfl | inr x => exact rfl)) h
noncomputable def laws_szThirdsS_T (v6 : List (List Nat)) (v7 : List (List Nat)) (v8 : List (List Nat)) (v9 : Int) : Tree (Int) :=
  (.br (decide (IntKind.i64.wrap (v9 - ((v6.length : Nat) : Int)) < (0 : Int))) (
  .leaf (-1 : Int)
  ) (
  (.need (some (laws_szThirdsS_l0_E v6 v7 v8 v9 (IntKind.i64.wrap (v9 - ((v6.length : Nat) : Int)), (0 : Int))) = some (laws_szThirdsS_l0_E v6 v7 v8 v9 (IntKind.i64.wrap (v9 - ((v6.length : Nat) : Int)), (0 : Int)))) <|
  (.call (laws_szThirdsS_l0_g v6 v7 v8 (IntKind.i64.wrap (v9 - ((v6.length : Nat) : Int)), (0 : Int))) fun v22 =>
  (.sum v22 (fun v23 =>
  .leaf (-1 : Int)
  ) (fun v24 =>
  .leaf v24
  ))))
  ))

noncomputable def laws_szThirdsS_g (v6 : List (List Nat)) (v7 : List (List Nat)) (v8 : List (List Nat)) (v9 : Int) : Option (Int) := (laws_szThirdsS_T v6 v7 v8 v9).run
def laws_szThirdsS_enc (v6 : List (List Nat)) (v7 : List (List Nat)) (v8 : List (List Nat)) (v9 : Int) (y : Int) : Rs := (.int .i64 y, [])
theorem laws_szThirdsS_den (v6 : List (List Nat)) (v7 : List (List Nat)) (v8 : List (List Nat)) (v9 : Int) : (den TT (tabD laws_szThirdsS_tab) (tabM laws_szThirdsS_tab) (laws_szThirdsS_LO v6 v7 v8 v9) (codeOf Try.f42) ([.rns 0 [.sl (.f32 v6), .sl (.f32 v7), .sl (.f32 v8)], .int .i64 v9] ++ List.replicate (Try.f42.ntmps - ([.rns 0 [.sl (.f32 v6), .sl (.f32 v7), .sl (.f32 v8)], .int .i64 v9] : List DV).length) .undef) []).bind (retD TT Try.f42.results.toList 0) = (laws_szThirdsS_T v6 v7 v8 v9).bind fun y => .leaf (laws_szThirdsS_enc v6 v7 v8 v9 y) := by kernel_rfl
theorem laws_szThirdsS_fn (v6 : List (List Nat)) (v7 : List (List Nat)) (v8 : List (List Nat)) (v9 : Int) (F : Fr) (h0 : St F [] F.H0) (hA : DVs.Ok F [] [.rns 0 [.sl (.f32 v6), .sl (.f32 v7), .sl (.f32 v8)], .int .i64 v9]) {y : Int} (hy : laws_szThirdsS_g v6 v7 v8 v9 = some y) : ∃ F' H', Fwd 0 F F' [] (laws_szThirdsS_enc v6 v7 v8 v9 y).2 ∧ FnOk Try.prog 42 (DVs.av F [.rns 0 [.sl (.f32 v6), .sl (.f32 v7), .sl (.f32 v8)], .int .i64 v9]) F.H0 ((laws_szThirdsS_enc v6 v7 v8 v9 y).1.av F') H' ∧ St F' (laws_szThirdsS_enc v6 v7 v8 v9 y).2 H' ∧ (laws_szThirdsS_enc v6 v7 v8 v9 y).1.Ok F' (laws_szThirdsS_enc v6 v7 v8 v9 y).2 :=
  fn_fin tok laws_szThirdsS_hO mixed Try.func42 Try.call42 (by kernel_rfl) (LoopsOk_eq (l := [(0, bodyOf Try.f42 0)]) (by kernel_rfl) ⟨laws_szThirdsS_l0_ok v6 v7 v8 v9, trivial⟩) (laws_szThirdsS_den v6 v7 v8 v9) hy h0 hA
noncomputable def laws_szThirdsS_F : DFn := fun args L =>
  match args with
  | [a1, .int .i64 v9] =>
    optT (rnsV a1) fun qr0 =>
    (match qr0.2 with
    | [.sl (.f32 v6), .sl (.f32 v7), .sl (.f32 v8)] =>
    .call (laws_szThirdsS_g v6 v7 v8 v9) fun y => .leaf (.int .i64 y, L)
    | _ => .fail)
  | _ => .fail
theorem laws_szThirdsS_Fok : COk Try.prog 42 laws_szThirdsS_F true := by
  intro F L H args r L' hs ha hr
  unfold laws_szThirdsS_F at hr
  split at hr
  · rename_i a1 v9
    obtain ⟨⟨nr0, cr0⟩, hv0, hr⟩ := optT_run hr
    simp only at hr
    split at hr
    · rename_i v6 v7 v8
      have hrn0 := rnsV_ok hs (DVs.okAt ha 0 rfl) hv0
      have hra0 := rnsV_av (F := F) hv0
      simp only [Tree.run] at hr
      obtain ⟨y, hy, hr⟩ := Option.bind_eq_some_iff.1 hr
      simp only [Tree.run, Option.some.injEq, Prod.mk.injEq] at hr
      obtain ⟨rfl, rfl⟩ := hr
      exact call_ok0 hs (fun k => (([a1.av F] : List AV)[k]?).getD (F.ρ (k - 0 + nr0))) [a1, .int .i64 v9] [.rns 0 [.sl (.f32 v6), .sl (.f32 v7), .sl (.f32 v8)], .int .i64 v9] (fun F' h0 hi hρ => ⟨by simp [DVs.av, DV.av, BR.av, hρ], laws_szThirdsS_fn v6 v7 v8 v9 F' (st_nil hi) ⟨(rns_ok (n := nr0) hi (by rw [h0]; exact hrn0) (by rw [hρ]; exact hra0) fun m => by rw [hρ]; exact (rho_far (g := fun k => F.ρ (k - 0 + nr0)) (by simp <;> omega)).trans (congrArg F.ρ (by omega))), trivial, trivial⟩ hy⟩) rfl
    · cases hr
  · cases hr
/-! laws.toFloat32S -/
noncomputable def laws_toFloat32S_l0_T (v33 : List Nat) (s : Int × (List Nat)) : Tree ((Int × (List Nat)) ⊕ ((List Nat))) :=
  (.br (decide (s.1 < ((v33.length : Nat) : Int))) (
  (.grd (inb s.1 v33.length) <|
  (.grd (inb s.1 ((s.2).length)) <|
  .leaf (.inl (IntKind.i64.wrap (s.1 + (1 : Int)), List.set s.2 (Int.toNat s.1) (nth v33 (Int.toNat s.1))))))
  ) (
  .leaf (.inr s.2)
  ))

noncomputable def laws_toFloat32S_l0_g (v33 : List Nat) (s0 : Int × (List Nat)) : Option ((List Nat)) := whileM (fun s => (laws_toFloat32S_l0_T v33 s).run) s0
def laws_toFloat32S_l0_E (v33 : List Nat) (s : Int × (List Nat)) : Sd := ([.bslc (BR.root 0) (.f32 v33),tp,tp,.own 0 0 ((s.2).length),.int .i64 s.1,tp,tp,tp,tp,tp,tp,tp,tp,tp,tp,tp,tp,tp,tp,tp,tp,tp], [.row (.f32 s.2) 0])
def laws_toFloat32S_l0_X (v33 : List Nat) (x : (List Nat)) : Out := (.normal, [tp,tp,tp,.own 0 0 ((x).length),tp,tp,tp,tp,tp,tp,tp,tp,tp,tp,tp,tp,tp,tp,tp,tp,tp,tp], [.row (.f32 x) 0])
def laws_toFloat32S_l0_kill : List Nat := KL true [0,1,2,2,17]
def laws_toFloat32S_l0_nx : Exit → List Nat
  | .exit 0 => KL true [3,1,18]
  | .ret => KL true [2,1,19]
  | _ => []
noncomputable def laws_toFloat32S_LO (v33 : List Nat) : LOr := fun id e L =>
  match id with
  | 0 => .need (normA 0 laws_toFloat32S_l0_kill e L = some (laws_toFloat32S_l0_E v33 ((gI (vAt e 4)), (gRF L (vAt e 3))))) (.call (laws_toFloat32S_l0_g v33 ((gI (vAt e 4)), (gRF L (vAt e 3)))) fun x => .leaf (laws_toFloat32S_l0_X v33 x))
  | _ => .fail
noncomputable def laws_toFloat32S_tab : List (FuncId × DFn × Bool) := []
theorem laws_toFloat32S_hO : OrcOk Try.prog (tabD laws_toFloat32S_tab) (tabM laws_toFloat32S_tab) := tabD_nil _
theorem laws_toFloat32S_l0_be (v33 : List Nat) (s : Int × (List Nat)) : bodyT TT (tabD laws_toFloat32S_tab) (tabM laws_toFloat32S_tab) (laws_toFloat32S_LO v33) 0 laws_toFloat32S_l0_kill laws_toFloat32S_l0_nx (bodyOf Try.f45 0) 0 (laws_toFloat32S_l0_E v33 s) = (laws_toFloat32S_l0_T v33 s).bind fun y => .leaf (outS (laws_toFloat32S_l0_E v33) (laws_toFloat32S_l0_X v33) y) := by kernel_rfl
theorem laws_toFloat32S_l0_ok (v33 : List Nat) : LSound Try.prog 0 (laws_toFloat32S_LO v33) 0 (bodyOf Try.f45 0) := by
  intro e L out h
  exact lo_ok (E := laws_toFloat32S_l0_E v33) (gT := laws_toFloat32S_l0_T v33) (X := laws_toFloat32S_l0_X v33) (s0 := ((gI (vAt e 4)), (gRF L (vAt e 3)))) tok laws_toFloat32S_hO mixed (LoopsOk_eq (l := []) (by kernel_rfl) trivial) (laws_toFloat32S_l0_be v33) rfl (by intro x; rfl) h
noncomputable def laws_toFloat32S_T (v33 : List Nat) : Tree ((List Nat)) :=
  (.need (((v33.length : Nat) : Int) = ((v33.length : Nat) : Int)) <|
  (.grd (inb ((v33.length : Nat) : Int) (maxN + 1)) <|
  (.need (some (laws_toFloat32S_l0_E v33 ((0 : Int), List.replicate (Int.toNat ((v33.length : Nat) : Int)) (0 : Nat))) = some (laws_toFloat32S_l0_E v33 ((0 : Int), List.replicate (Int.toNat ((v33.length : Nat) : Int)) (0 : Nat)))) <|
  (.call (laws_toFloat32S_l0_g v33 ((0 : Int), List.replicate (Int.toNat ((v33.length : Nat) : Int)) (0 : Nat))) fun v39 =>
  .leaf v39))))

noncomputable def laws_toFloat32S_g (v33 : List Nat) : Option ((List Nat)) := (laws_toFloat32S_T v33).run
def laws_toFloat32S_enc (v33 : List Nat) (y : (List Nat)) : Rs := (.own 0 0 ((y).length), [.row (.f32 y) 0])
theorem laws_toFloat32S_den (v33 : List Nat) : (den TT (tabD laws_toFloat32S_tab) (tabM laws_toFloat32S_tab) (laws_toFloat32S_LO v33) (codeOf Try.f45) ([.bslc (BR.root 0) (.f32 v33)] ++ List.replicate (Try.f45.ntmps - ([.bslc (BR.root 0) (.f32 v33)] : List DV).length) .undef) []).bind (retD TT Try.f45.results.toList 0) = (laws_toFloat32S_T v33).bind fun y => .leaf (laws_toFloat32S_enc v33 y) := by kernel_rfl
theorem laws_toFloat32S_fn (v33 : List Nat) (F : Fr) (h0 : St F [] F.H0) (hA : DVs.Ok F [] [.bslc (BR.root 0) (.f32 v33)]) {y : (List Nat)} (hy : laws_toFloat32S_g v33 = some y) : ∃ F' H', Fwd 0 F F' [] (laws_toFloat32S_enc v33 y).2 ∧ FnOk Try.prog 45 (DVs.av F [.bslc (BR.root 0) (.f32 v33)]) F.H0 ((laws_toFloat32S_enc v33 y).1.av F') H' ∧ St F' (laws_toFloat32S_enc v33 y).2 H' ∧ (laws_toFloat32S_enc v33 y).1.Ok F' (laws_toFloat32S_enc v33 y).2 :=
  fn_fin tok laws_toFloat32S_hO mixed Try.func45 Try.call45 (by kernel_rfl) (LoopsOk_eq (l := [(0, bodyOf Try.f45 0)]) (by kernel_rfl) ⟨laws_toFloat32S_l0_ok v33, trivial⟩) (laws_toFloat32S_den v33) hy h0 hA
noncomputable def laws_toFloat32S_F : DFn := fun args L =>
  match args with
  | [a1] =>
    optT (rowF32 L a1) fun v33 =>
    .call (laws_toFloat32S_g v33) fun y => .leaf (.own (L.length + 0) 0 ((y).length), L ++ [.row (.f32 y) 0])
  | _ => .fail
theorem laws_toFloat32S_Fok : COk Try.prog 45 laws_toFloat32S_F true := by
  intro F L H args r L' hs ha hr
  unfold laws_toFloat32S_F at hr
  split at hr
  · rename_i a1
    obtain ⟨v33, hv33, hr⟩ := optT_run hr
    simp only [Tree.run] at hr
    obtain ⟨y, hy, hr⟩ := Option.bind_eq_some_iff.1 hr
    simp only [Tree.run, Option.some.injEq, Prod.mk.injEq] at hr
    obtain ⟨rfl, rfl⟩ := hr
    exact call_ok1 hs (fun k => (([a1.av F] : List AV)[k]?).getD .top) [a1] [.bslc (BR.root 0) (.f32 v33)] (fun F' h0 hi hρ => ⟨by simp [DVs.av, DV.av, BR.av, hρ], laws_toFloat32S_fn v33 F' (st_nil hi) ⟨bslc_ok hi (by rw [h0, hρ]; exact rowF32_ok hs (DVs.okAt ha 0 rfl) hv33), trivial⟩ hy⟩) rfl rfl
  · cases hr
/-! laws.toThirds -/
noncomputable def laws_toThirds_LO (v30 : List Nat) (v31 : List Nat) (v32 : List Nat) : LOr := fun id e L =>
  match id with
  | _ => .fail
noncomputable def laws_toThirds_tab : List (FuncId × DFn × Bool) := [(45, laws_toFloat32S_F, true)]
theorem laws_toThirds_hO : OrcOk Try.prog (tabD laws_toThirds_tab) (tabM laws_toThirds_tab) := tabD_cons laws_toFloat32S_Fok (tabD_nil _)
noncomputable def laws_toThirds_T (v30 : List Nat) (v31 : List Nat) (v32 : List Nat) : Tree ((List Nat) × (List Nat) × (List Nat)) :=
  (.call (laws_toFloat32S_g v30) fun v40 =>
  (.call (laws_toFloat32S_g v31) fun v41 =>
  (.call (laws_toFloat32S_g v32) fun v42 =>
  .leaf (v40, v41, v42))))

noncomputable def laws_toThirds_g (v30 : List Nat) (v31 : List Nat) (v32 : List Nat) : Option ((List Nat) × (List Nat) × (List Nat)) := (laws_toThirds_T v30 v31 v32).run
def laws_toThirds_enc (v30 : List Nat) (v31 : List Nat) (v32 : List Nat) (y : (List Nat) × (List Nat) × (List Nat)) : Rs := (.agg [.own 0 0 ((y.1).length), .own 1 0 ((y.2.1).length), .own 2 0 ((y.2.2).length)], [.row (.f32 y.1) 0, .row (.f32 y.2.1) 0, .row (.f32 y.2.2) 0])
theorem laws_toThirds_den (v30 : List Nat) (v31 : List Nat) (v32 : List Nat) : (den TT (tabD laws_toThirds_tab) (tabM laws_toThirds_tab) (laws_toThirds_LO v30 v31 v32) (codeOf Try.f116) ([.agg [.bslc (BR.root 0) (.f32 v30), .bslc (BR.root 1) (.f32 v31), .bslc (BR.root 2) (.f32 v32)]] ++ List.replicate (Try.f116.ntmps - ([.agg [.bslc (BR.root 0) (.f32 v30), .bslc (BR.root 1) (.f32 v31), .bslc (BR.root 2) (.f32 v32)]] : List DV).length) .undef) []).bind (retD TT Try.f116.results.toList 0) = (laws_toThirds_T v30 v31 v32).bind fun y => .leaf (laws_toThirds_enc v30 v31 v32 y) := by kernel_rfl
theorem laws_toThirds_fn (v30 : List Nat) (v31 : List Nat) (v32 : List Nat) (F : Fr) (h0 : St F [] F.H0) (hA : DVs.Ok F [] [.agg [.bslc (BR.root 0) (.f32 v30), .bslc (BR.root 1) (.f32 v31), .bslc (BR.root 2) (.f32 v32)]]) {y : (List Nat) × (List Nat) × (List Nat)} (hy : laws_toThirds_g v30 v31 v32 = some y) : ∃ F' H', Fwd 0 F F' [] (laws_toThirds_enc v30 v31 v32 y).2 ∧ FnOk Try.prog 116 (DVs.av F [.agg [.bslc (BR.root 0) (.f32 v30), .bslc (BR.root 1) (.f32 v31), .bslc (BR.root 2) (.f32 v32)]]) F.H0 ((laws_toThirds_enc v30 v31 v32 y).1.av F') H' ∧ St F' (laws_toThirds_enc v30 v31 v32 y).2 H' ∧ (laws_toThirds_enc v30 v31 v32 y).1.Ok F' (laws_toThirds_enc v30 v31 v32 y).2 :=
  fn_fin tok laws_toThirds_hO mixed Try.func116 Try.call116 (by kernel_rfl) (LoopsOk_eq (l := []) (by kernel_rfl) trivial) (laws_toThirds_den v30 v31 v32) hy h0 hA
noncomputable def laws_toThirds_F : DFn := fun args L =>
  match args with
  | [.agg [a1, a2, a3]] =>
    optT (rowF32 L a1) fun v30 =>
    optT (rowF32 L a2) fun v31 =>
    optT (rowF32 L a3) fun v32 =>
    .call (laws_toThirds_g v30 v31 v32) fun y => .leaf (.agg [.own (L.length + 0) 0 ((y.1).length), .own (L.length + 1) 0 ((y.2.1).length), .own (L.length + 2) 0 ((y.2.2).length)], L ++ [.row (.f32 y.1) 0, .row (.f32 y.2.1) 0, .row (.f32 y.2.2) 0])
  | _ => .fail
theorem laws_toThirds_Fok : COk Try.prog 116 laws_toThirds_F true := by
  intro F L H args r L' hs ha hr
  unfold laws_toThirds_F at hr
  split at hr
  · rename_i a1 a2 a3
    obtain ⟨v30, hv30, hr⟩ := optT_run hr
    obtain ⟨v31, hv31, hr⟩ := optT_run hr
    obtain ⟨v32, hv32, hr⟩ := optT_run hr
    simp only [Tree.run] at hr
    obtain ⟨y, hy, hr⟩ := Option.bind_eq_some_iff.1 hr
    simp only [Tree.run, Option.some.injEq, Prod.mk.injEq] at hr
    obtain ⟨rfl, rfl⟩ := hr
    exact call_ok1 hs (fun k => (([a1.av F, a2.av F, a3.av F] : List AV)[k]?).getD .top) [.agg [a1, a2, a3]] [.agg [.bslc (BR.root 0) (.f32 v30), .bslc (BR.root 1) (.f32 v31), .bslc (BR.root 2) (.f32 v32)]] (fun F' h0 hi hρ => ⟨by simp [DVs.av, DV.av, BR.av, hρ], laws_toThirds_fn v30 v31 v32 F' (st_nil hi) ⟨⟨bslc_ok hi (by rw [h0, hρ]; exact rowF32_ok hs (DVs.okAt (DVs.okAt ha 0 rfl) 0 rfl) hv30), bslc_ok hi (by rw [h0, hρ]; exact rowF32_ok hs (DVs.okAt (DVs.okAt ha 0 rfl) 1 rfl) hv31), bslc_ok hi (by rw [h0, hρ]; exact rowF32_ok hs (DVs.okAt (DVs.okAt ha 0 rfl) 2 rfl) hv32), trivial⟩, trivial⟩ hy⟩) rfl rfl
  · cases hr
/-! laws.toThirdsS -/
noncomputable def laws_toThirdsS_l0_T (v26 : List (List Nat)) (v27 : List (List Nat)) (v28 : List (List Nat)) (s : Int × (List (List Nat)) × (List Nat) × (List (List Nat)) × (List Nat) × (List (List Nat)) × (List Nat)) : Tree ((Int × (List (List Nat)) × (List Nat) × (List (List Nat)) × (List Nat) × (List (List Nat)) × (List Nat)) ⊕ ((List (List Nat)) × (List Nat) × (List (List Nat)) × (List Nat) × (List (List Nat)) × (List Nat))) :=
  (.br (decide (s.1 < ((v26.length : Nat) : Int))) (
  (.grd (inb s.1 v26.length) <|
  (.call (laws_toThirds_g (nth v26 (Int.toNat s.1)) (nth v27 (Int.toNat s.1)) (nth v28 (Int.toNat s.1))) fun v59 =>
  (.grd (inb s.1 ((s.2.2.1).length)) <|
  .leaf (.inl (IntKind.i64.wrap (s.1 + (1 : Int)), s.2.1 ++ [v59.1], List.set s.2.2.1 (Int.toNat s.1) (s.2.1.length + 1), s.2.2.2.1 ++ [v59.2.1], List.set s.2.2.2.2.1 (Int.toNat s.1) (s.2.2.2.1.length + 1), s.2.2.2.2.2.1 ++ [v59.2.2], List.set s.2.2.2.2.2.2 (Int.toNat s.1) (s.2.2.2.2.2.1.length + 1))))))
  ) (
  .leaf (.inr (s.2.1, s.2.2.1, s.2.2.2.1, s.2.2.2.2.1, s.2.2.2.2.2.1, s.2.2.2.2.2.2))
  ))

noncomputable def laws_toThirdsS_l0_g (v26 : List (List Nat)) (v27 : List (List Nat)) (v28 : List (List Nat)) (s0 : Int × (List (List Nat)) × (List Nat) × (List (List Nat)) × (List Nat) × (List (List Nat)) × (List Nat)) : Option ((List (List Nat)) × (List Nat) × (List (List Nat)) × (List Nat) × (List (List Nat)) × (List Nat)) := whileM (fun s => (laws_toThirdsS_l0_T v26 v27 v28 s).run) s0
def laws_toThirdsS_l0_E (v26 : List (List Nat)) (v27 : List (List Nat)) (v28 : List (List Nat)) (s : Int × (List (List Nat)) × (List Nat) × (List (List Nat)) × (List Nat) × (List (List Nat)) × (List Nat)) : Sd := ([.rns 0 [.sl (.f32 v26), .sl (.f32 v27), .sl (.f32 v28)],tp,tp,.nest 0 0 3 ((s.2.2.1).length),.int .i64 s.1,tp,tp,tp,tp,tp,tp,tp,tp,tp,tp,tp,tp,tp,tp,tp,tp,tp,tp], [.nest [.sl (.f32 s.2.1) s.2.2.1, .sl (.f32 s.2.2.2.1) s.2.2.2.2.1, .sl (.f32 s.2.2.2.2.2.1) s.2.2.2.2.2.2] false 0])
def laws_toThirdsS_l0_X (v26 : List (List Nat)) (v27 : List (List Nat)) (v28 : List (List Nat)) (x : (List (List Nat)) × (List Nat) × (List (List Nat)) × (List Nat) × (List (List Nat)) × (List Nat)) : Out := (.normal, [tp,tp,tp,.nest 0 0 3 ((x.2.1).length),tp,tp,tp,tp,tp,tp,tp,tp,tp,tp,tp,tp,tp,tp,tp,tp,tp,tp,tp], [.nest [.sl (.f32 x.1) x.2.1, .sl (.f32 x.2.2.1) x.2.2.2.1, .sl (.f32 x.2.2.2.2.1) x.2.2.2.2.2] false 0])
def laws_toThirdsS_l0_kill : List Nat := KL true [0,1,2,2,18]
def laws_toThirdsS_l0_nx : Exit → List Nat
  | .exit 0 => KL true [3,1,19]
  | .ret => KL true [2,1,20]
  | _ => []
noncomputable def laws_toThirdsS_LO (v26 : List (List Nat)) (v27 : List (List Nat)) (v28 : List (List Nat)) : LOr := fun id e L =>
  match id with
  | 0 => .need (normA 0 laws_toThirdsS_l0_kill e L = some (laws_toThirdsS_l0_E v26 v27 v28 ((gI (vAt e 4)), (gPF L (vAt e 3) 0), (gX L (vAt e 3) 0), (gPF L (vAt e 3) 1), (gX L (vAt e 3) 1), (gPF L (vAt e 3) 2), (gX L (vAt e 3) 2)))) (.call (laws_toThirdsS_l0_g v26 v27 v28 ((gI (vAt e 4)), (gPF L (vAt e 3) 0), (gX L (vAt e 3) 0), (gPF L (vAt e 3) 1), (gX L (vAt e 3) 1), (gPF L (vAt e 3) 2), (gX L (vAt e 3) 2))) fun x => .leaf (laws_toThirdsS_l0_X v26 v27 v28 x))
  | _ => .fail
noncomputable def laws_toThirdsS_tab : List (FuncId × DFn × Bool) := [(116, laws_toThirds_F, true)]
theorem laws_toThirdsS_hO : OrcOk Try.prog (tabD laws_toThirdsS_tab) (tabM laws_toThirdsS_tab) := tabD_cons laws_toThirds_Fok (tabD_nil _)
theorem laws_toThirdsS_l0_be (v26 : List (List Nat)) (v27 : List (List Nat)) (v28 : List (List Nat)) (s : Int × (List (List Nat)) × (List Nat) × (List (List Nat)) × (List Nat) × (List (List Nat)) × (List Nat)) : bodyT TT (tabD laws_toThirdsS_tab) (tabM laws_toThirdsS_tab) (laws_toThirdsS_LO v26 v27 v28) 0 laws_toThirdsS_l0_kill laws_toThirdsS_l0_nx (bodyOf Try.f44 0) 0 (laws_toThirdsS_l0_E v26 v27 v28 s) = (laws_toThirdsS_l0_T v26 v27 v28 s).bind fun y => .leaf (outS (laws_toThirdsS_l0_E v26 v27 v28) (laws_toThirdsS_l0_X v26 v27 v28) y) := by kernel_rfl
theorem laws_toThirdsS_l0_ok (v26 : List (List Nat)) (v27 : List (List Nat)) (v28 : List (List Nat)) : LSound Try.prog 0 (laws_toThirdsS_LO v26 v27 v28) 0 (bodyOf Try.f44 0) := by
  intro e L out h
  exact lo_ok (E := laws_toThirdsS_l0_E v26 v27 v28) (gT := laws_toThirdsS_l0_T v26 v27 v28) (X := laws_toThirdsS_l0_X v26 v27 v28) (s0 := ((gI (vAt e 4)), (gPF L (vAt e 3) 0), (gX L (vAt e 3) 0), (gPF L (vAt e 3) 1), (gX L (vAt e 3) 1), (gPF L (vAt e 3) 2), (gX L (vAt e 3) 2))) tok laws_toThirdsS_hO mixed (LoopsOk_eq (l := []) (by kernel_rfl) trivial) (laws_toThirdsS_l0_be v26 v27 v28) rfl (by intro x; rfl) h
noncomputable def laws_toThirdsS_T (v26 : List (List Nat)) (v27 : List (List Nat)) (v28 : List (List Nat)) : Tree ((List (List Nat)) × (List Nat) × (List (List Nat)) × (List Nat) × (List (List Nat)) × (List Nat)) :=
  (.need (((v26.length : Nat) : Int) = ((v26.length : Nat) : Int)) <|
  (.grd (inb ((v26.length : Nat) : Int) (maxN + 1)) <|
  (.need (some (laws_toThirdsS_l0_E v26 v27 v28 ((0 : Int), ([] : List (List Nat)), List.replicate (Int.toNat ((v26.length : Nat) : Int)) (0 : Nat), ([] : List (List Nat)), List.replicate (Int.toNat ((v26.length : Nat) : Int)) (0 : Nat), ([] : List (List Nat)), List.replicate (Int.toNat ((v26.length : Nat) : Int)) (0 : Nat))) = some (laws_toThirdsS_l0_E v26 v27 v28 ((0 : Int), ([] : List (List Nat)), List.replicate (Int.toNat ((v26.length : Nat) : Int)) (0 : Nat), ([] : List (List Nat)), List.replicate (Int.toNat ((v26.length : Nat) : Int)) (0 : Nat), ([] : List (List Nat)), List.replicate (Int.toNat ((v26.length : Nat) : Int)) (0 : Nat)))) <|
  (.call (laws_toThirdsS_l0_g v26 v27 v28 ((0 : Int), ([] : List (List Nat)), List.replicate (Int.toNat ((v26.length : Nat) : Int)) (0 : Nat), ([] : List (List Nat)), List.replicate (Int.toNat ((v26.length : Nat) : Int)) (0 : Nat), ([] : List (List Nat)), List.replicate (Int.toNat ((v26.length : Nat) : Int)) (0 : Nat))) fun v60 =>
  .leaf (v60.1, v60.2.1, v60.2.2.1, v60.2.2.2.1, v60.2.2.2.2.1, v60.2.2.2.2.2)))))

noncomputable def laws_toThirdsS_g (v26 : List (List Nat)) (v27 : List (List Nat)) (v28 : List (List Nat)) : Option ((List (List Nat)) × (List Nat) × (List (List Nat)) × (List Nat) × (List (List Nat)) × (List Nat)) := (laws_toThirdsS_T v26 v27 v28).run
def laws_toThirdsS_enc (v26 : List (List Nat)) (v27 : List (List Nat)) (v28 : List (List Nat)) (y : (List (List Nat)) × (List Nat) × (List (List Nat)) × (List Nat) × (List (List Nat)) × (List Nat)) : Rs := (.nest 0 0 3 ((y.2.1).length), [.nest [.sl (.f32 y.1) y.2.1, .sl (.f32 y.2.2.1) y.2.2.2.1, .sl (.f32 y.2.2.2.2.1) y.2.2.2.2.2] false 0])
theorem laws_toThirdsS_den (v26 : List (List Nat)) (v27 : List (List Nat)) (v28 : List (List Nat)) : (den TT (tabD laws_toThirdsS_tab) (tabM laws_toThirdsS_tab) (laws_toThirdsS_LO v26 v27 v28) (codeOf Try.f44) ([.rns 0 [.sl (.f32 v26), .sl (.f32 v27), .sl (.f32 v28)]] ++ List.replicate (Try.f44.ntmps - ([.rns 0 [.sl (.f32 v26), .sl (.f32 v27), .sl (.f32 v28)]] : List DV).length) .undef) []).bind (retD TT Try.f44.results.toList 0) = (laws_toThirdsS_T v26 v27 v28).bind fun y => .leaf (laws_toThirdsS_enc v26 v27 v28 y) := by kernel_rfl
theorem laws_toThirdsS_fn (v26 : List (List Nat)) (v27 : List (List Nat)) (v28 : List (List Nat)) (F : Fr) (h0 : St F [] F.H0) (hA : DVs.Ok F [] [.rns 0 [.sl (.f32 v26), .sl (.f32 v27), .sl (.f32 v28)]]) {y : (List (List Nat)) × (List Nat) × (List (List Nat)) × (List Nat) × (List (List Nat)) × (List Nat)} (hy : laws_toThirdsS_g v26 v27 v28 = some y) : ∃ F' H', Fwd 0 F F' [] (laws_toThirdsS_enc v26 v27 v28 y).2 ∧ FnOk Try.prog 44 (DVs.av F [.rns 0 [.sl (.f32 v26), .sl (.f32 v27), .sl (.f32 v28)]]) F.H0 ((laws_toThirdsS_enc v26 v27 v28 y).1.av F') H' ∧ St F' (laws_toThirdsS_enc v26 v27 v28 y).2 H' ∧ (laws_toThirdsS_enc v26 v27 v28 y).1.Ok F' (laws_toThirdsS_enc v26 v27 v28 y).2 :=
  fn_fin tok laws_toThirdsS_hO mixed Try.func44 Try.call44 (by kernel_rfl) (LoopsOk_eq (l := [(0, bodyOf Try.f44 0)]) (by kernel_rfl) ⟨laws_toThirdsS_l0_ok v26 v27 v28, trivial⟩) (laws_toThirdsS_den v26 v27 v28) hy h0 hA
noncomputable def laws_toThirdsS_F : DFn := fun args L =>
  match args with
  | [a1] =>
    optT (rnsV a1) fun qr0 =>
    (match qr0.2 with
    | [.sl (.f32 v26), .sl (.f32 v27), .sl (.f32 v28)] =>
    .call (laws_toThirdsS_g v26 v27 v28) fun y => .leaf (.nest (L.length + 0) 0 3 ((y.2.1).length), L ++ [.nest [.sl (.f32 y.1) y.2.1, .sl (.f32 y.2.2.1) y.2.2.2.1, .sl (.f32 y.2.2.2.2.1) y.2.2.2.2.2] false 0])
    | _ => .fail)
  | _ => .fail
theorem laws_toThirdsS_Fok : COk Try.prog 44 laws_toThirdsS_F true := by
  intro F L H args r L' hs ha hr
  unfold laws_toThirdsS_F at hr
  split at hr
  · rename_i a1
    obtain ⟨⟨nr0, cr0⟩, hv0, hr⟩ := optT_run hr
    simp only at hr
    split at hr
    · rename_i v26 v27 v28
      have hrn0 := rnsV_ok hs (DVs.okAt ha 0 rfl) hv0
      have hra0 := rnsV_av (F := F) hv0
      simp only [Tree.run] at hr
      obtain ⟨y, hy, hr⟩ := Option.bind_eq_some_iff.1 hr
      simp only [Tree.run, Option.some.injEq, Prod.mk.injEq] at hr
      obtain ⟨rfl, rfl⟩ := hr
      exact call_ok1 hs (fun k => (([a1.av F] : List AV)[k]?).getD (F.ρ (k - 0 + nr0))) [a1] [.rns 0 [.sl (.f32 v26), .sl (.f32 v27), .sl (.f32 v28)]] (fun F' h0 hi hρ => ⟨by simp [DVs.av, DV.av, BR.av, hρ], laws_toThirdsS_fn v26 v27 v28 F' (st_nil hi) ⟨(rns_ok (n := nr0) hi (by rw [h0]; exact hrn0) (by rw [hρ]; exact hra0) fun m => by rw [hρ]; exact (rho_far (g := fun k => F.ρ (k - 0 + nr0)) (by simp <;> omega)).trans (congrArg F.ρ (by omega))), trivial⟩ hy⟩) rfl rfl
    · cases hr
  · cases hr
/-! spec.l00In -/
noncomputable def spec_l00In_LO (v71 : Int) (v72 : Int) (v73 : Int) : LOr := fun id e L =>
  match id with
  | _ => .fail
noncomputable def spec_l00In_tab : List (FuncId × DFn × Bool) := []
theorem spec_l00In_hO : OrcOk Try.prog (tabD spec_l00In_tab) (tabM spec_l00In_tab) := tabD_nil _
noncomputable def spec_l00In_T (v71 : Int) (v72 : Int) (v73 : Int) : Tree (Bool) :=
  (.br (decide (v72 ≤ v71)) (
  .leaf (decide (v71 ≤ v73))
  ) (
  .leaf false
  ))

noncomputable def spec_l00In_g (v71 : Int) (v72 : Int) (v73 : Int) : Option (Bool) := (spec_l00In_T v71 v72 v73).run
def spec_l00In_enc (v71 : Int) (v72 : Int) (v73 : Int) (y : Bool) : Rs := (.bool y, [])
theorem spec_l00In_den (v71 : Int) (v72 : Int) (v73 : Int) : (den TT (tabD spec_l00In_tab) (tabM spec_l00In_tab) (spec_l00In_LO v71 v72 v73) (codeOf Try.f80) ([.int .i64 v71, .int .i64 v72, .int .i64 v73] ++ List.replicate (Try.f80.ntmps - ([.int .i64 v71, .int .i64 v72, .int .i64 v73] : List DV).length) .undef) []).bind (retD TT Try.f80.results.toList 0) = (spec_l00In_T v71 v72 v73).bind fun y => .leaf (spec_l00In_enc v71 v72 v73 y) := by kernel_rfl
theorem spec_l00In_fn (v71 : Int) (v72 : Int) (v73 : Int) (F : Fr) (h0 : St F [] F.H0) (hA : DVs.Ok F [] [.int .i64 v71, .int .i64 v72, .int .i64 v73]) {y : Bool} (hy : spec_l00In_g v71 v72 v73 = some y) : ∃ F' H', Fwd 0 F F' [] (spec_l00In_enc v71 v72 v73 y).2 ∧ FnOk Try.prog 80 (DVs.av F [.int .i64 v71, .int .i64 v72, .int .i64 v73]) F.H0 ((spec_l00In_enc v71 v72 v73 y).1.av F') H' ∧ St F' (spec_l00In_enc v71 v72 v73 y).2 H' ∧ (spec_l00In_enc v71 v72 v73 y).1.Ok F' (spec_l00In_enc v71 v72 v73 y).2 :=
  fn_fin tok spec_l00In_hO mixed Try.func80 Try.call80 (by kernel_rfl) (LoopsOk_eq (l := []) (by kernel_rfl) trivial) (spec_l00In_den v71 v72 v73) hy h0 hA
def spec_l00In_v (v71 : Int) (v72 : Int) (v73 : Int) : Bool :=
  if (decide (v72 ≤ v71)) = true then (
  decide (v71 ≤ v73)
  ) else (
  false
  )
theorem spec_l00In_tot (v71 : Int) (v72 : Int) (v73 : Int) : spec_l00In_g v71 v72 v73 = some (spec_l00In_v v71 v72 v73) := by
  unfold spec_l00In_g spec_l00In_T spec_l00In_v
  simp only [Tree.run]
  repeat' (first | rfl | split)
noncomputable def spec_l00In_F : DFn := fun args L =>
  match args with
  | [.int .i64 v71, .int .i64 v72, .int .i64 v73] =>
    .leaf (.bool (spec_l00In_v v71 v72 v73), L)
  | _ => .fail
theorem spec_l00In_Fok : COk Try.prog 80 spec_l00In_F true := by
  intro F L H args r L' hs ha hr
  unfold spec_l00In_F at hr
  split at hr
  · rename_i v71 v72 v73
    have hy := spec_l00In_tot v71 v72 v73
    generalize spec_l00In_v v71 v72 v73 = y at hy hr
    simp only [Tree.run, Option.some.injEq, Prod.mk.injEq] at hr
    obtain ⟨rfl, rfl⟩ := hr
    exact call_ok0 hs (fun k => (([] : List AV)[k]?).getD .top) [.int .i64 v71, .int .i64 v72, .int .i64 v73] [.int .i64 v71, .int .i64 v72, .int .i64 v73] (fun F' h0 hi hρ => ⟨by simp [DVs.av, DV.av, BR.av, hρ], spec_l00In_fn v71 v72 v73 F' (st_nil hi) ⟨trivial, trivial, trivial, trivial⟩ hy⟩) rfl
  · cases hr
/-! spec.l01Finite -/
noncomputable def spec_l01Finite_LO (v88 : Nat) : LOr := fun id e L =>
  match id with
  | _ => .fail
noncomputable def spec_l01Finite_tab : List (FuncId × DFn × Bool) := []
theorem spec_l01Finite_hO : OrcOk Try.prog (tabD spec_l01Finite_tab) (tabM spec_l01Finite_tab) := tabD_nil _
noncomputable def spec_l01Finite_T (v88 : Nat) : Tree (Bool) :=
  .leaf (feq .f32 (fsub .f32 v88 v88) (0 : Nat))

noncomputable def spec_l01Finite_g (v88 : Nat) : Option (Bool) := (spec_l01Finite_T v88).run
def spec_l01Finite_enc (v88 : Nat) (y : Bool) : Rs := (.bool y, [])
theorem spec_l01Finite_den (v88 : Nat) : (den TT (tabD spec_l01Finite_tab) (tabM spec_l01Finite_tab) (spec_l01Finite_LO v88) (codeOf Try.f102) ([.flt .f32 v88] ++ List.replicate (Try.f102.ntmps - ([.flt .f32 v88] : List DV).length) .undef) []).bind (retD TT Try.f102.results.toList 0) = (spec_l01Finite_T v88).bind fun y => .leaf (spec_l01Finite_enc v88 y) := by kernel_rfl
theorem spec_l01Finite_fn (v88 : Nat) (F : Fr) (h0 : St F [] F.H0) (hA : DVs.Ok F [] [.flt .f32 v88]) {y : Bool} (hy : spec_l01Finite_g v88 = some y) : ∃ F' H', Fwd 0 F F' [] (spec_l01Finite_enc v88 y).2 ∧ FnOk Try.prog 102 (DVs.av F [.flt .f32 v88]) F.H0 ((spec_l01Finite_enc v88 y).1.av F') H' ∧ St F' (spec_l01Finite_enc v88 y).2 H' ∧ (spec_l01Finite_enc v88 y).1.Ok F' (spec_l01Finite_enc v88 y).2 :=
  fn_fin tok spec_l01Finite_hO mixed Try.func102 Try.call102 (by kernel_rfl) (LoopsOk_eq (l := []) (by kernel_rfl) trivial) (spec_l01Finite_den v88) hy h0 hA
def spec_l01Finite_v (v88 : Nat) : Bool :=
  feq .f32 (fsub .f32 v88 v88) (0 : Nat)
theorem spec_l01Finite_tot (v88 : Nat) : spec_l01Finite_g v88 = some (spec_l01Finite_v v88) := by
  unfold spec_l01Finite_g spec_l01Finite_T spec_l01Finite_v
  simp only [Tree.run]
  repeat' (first | rfl | split)
noncomputable def spec_l01Finite_F : DFn := fun args L =>
  match args with
  | [.flt .f32 v88] =>
    .leaf (.bool (spec_l01Finite_v v88), L)
  | _ => .fail
theorem spec_l01Finite_Fok : COk Try.prog 102 spec_l01Finite_F true := by
  intro F L H args r L' hs ha hr
  unfold spec_l01Finite_F at hr
  split at hr
  · rename_i v88
    have hy := spec_l01Finite_tot v88
    generalize spec_l01Finite_v v88 = y at hy hr
    simp only [Tree.run, Option.some.injEq, Prod.mk.injEq] at hr
    obtain ⟨rfl, rfl⟩ := hr
    exact call_ok0 hs (fun k => (([] : List AV)[k]?).getD .top) [.flt .f32 v88] [.flt .f32 v88] (fun F' h0 hi hρ => ⟨by simp [DVs.av, DV.av, BR.av, hρ], spec_l01Finite_fn v88 F' (st_nil hi) ⟨trivial, trivial⟩ hy⟩) rfl
  · cases hr
/-! spec.l02Finite -/
noncomputable def spec_l02Finite_l0_T (v86 : List Nat) (s : Int) : Tree ((Int) ⊕ ((Unit) ⊕ (Unit))) :=
  (.br (decide (s < ((v86.length : Nat) : Int))) (
  (.grd (inb s v86.length) <|
  (.br (!(spec_l01Finite_v (nth v86 (Int.toNat s)))) (
  .leaf (.inr (.inl ()))
  ) (
  .leaf (.inl (IntKind.i64.wrap (s + (1 : Int))))
  )))
  ) (
  .leaf (.inr (.inr ()))
  ))

noncomputable def spec_l02Finite_l0_g (v86 : List Nat) (s0 : Int) : Option ((Unit) ⊕ (Unit)) := whileM (fun s => (spec_l02Finite_l0_T v86 s).run) s0
def spec_l02Finite_l0_E (v86 : List Nat) (s : Int) : Sd := ([.bslc (BR.root 0) (.f32 v86),tp,tp,.int .i64 s,tp,tp,tp,tp,tp,tp,tp,tp,tp,tp,tp,tp], [])
def spec_l02Finite_l0_X (v86 : List Nat) (x : (Unit) ⊕ (Unit)) : Out := (match x with | .inl x => (.ret, [tp,tp,.lit false,tp,tp,tp,tp,tp,tp,tp,tp,tp,tp,tp,tp,tp], []) | .inr x => (.normal, [tp,tp,tp,tp,tp,tp,tp,tp,tp,tp,tp,tp,tp,tp,tp,tp], []))
def spec_l02Finite_l0_kill : List Nat := KL true [0,1,2,1,12]
def spec_l02Finite_l0_nx : Exit → List Nat
  | .exit 0 => KL true [16]
  | .ret => KL true [2,1,13]
  | _ => []
noncomputable def spec_l02Finite_LO (v86 : List Nat) : LOr := fun id e L =>
  match id with
  | 0 => .need (normA 0 spec_l02Finite_l0_kill e L = some (spec_l02Finite_l0_E v86 (gI (vAt e 3)))) (.call (spec_l02Finite_l0_g v86 (gI (vAt e 3))) fun x => .sum x (fun b0 => .leaf (spec_l02Finite_l0_X v86 (.inl b0))) (fun c0 => .leaf (spec_l02Finite_l0_X v86 (.inr c0))))
  | _ => .fail
noncomputable def spec_l02Finite_tab : List (FuncId × DFn × Bool) := [(102, spec_l01Finite_F, true)]
theorem spec_l02Finite_hO : OrcOk Try.prog (tabD spec_l02Finite_tab) (tabM spec_l02Finite_tab) := tabD_cons spec_l01Finite_Fok (tabD_nil _)
theorem spec_l02Finite_l0_be (v86 : List Nat) (s : Int) : bodyT TT (tabD spec_l02Finite_tab) (tabM spec_l02Finite_tab) (spec_l02Finite_LO v86) 0 spec_l02Finite_l0_kill spec_l02Finite_l0_nx (bodyOf Try.f140 0) 0 (spec_l02Finite_l0_E v86 s) = (spec_l02Finite_l0_T v86 s).bind fun y => .leaf (outS (spec_l02Finite_l0_E v86) (spec_l02Finite_l0_X v86) y) := by kernel_rfl
theorem spec_l02Finite_l0_ok (v86 : List Nat) : LSound Try.prog 0 (spec_l02Finite_LO v86) 0 (bodyOf Try.f140 0) := by
  intro e L out h
  exact lo_ok (E := spec_l02Finite_l0_E v86) (gT := spec_l02Finite_l0_T v86) (X := spec_l02Finite_l0_X v86) (s0 := (gI (vAt e 3))) tok spec_l02Finite_hO mixed (LoopsOk_eq (l := []) (by kernel_rfl) trivial) (spec_l02Finite_l0_be v86) rfl (by intro x; (cases x with | inl b => rfl | inr x => exact rfl)) h
noncomputable def spec_l02Finite_T (v86 : List Nat) : Tree (Bool) :=
  (.need (some (spec_l02Finite_l0_E v86 (0 : Int)) = some (spec_l02Finite_l0_E v86 (0 : Int))) <|
  (.call (spec_l02Finite_l0_g v86 (0 : Int)) fun v91 =>
  (.sum v91 (fun v92 =>
  .leaf false
  ) (fun v93 =>
  .leaf true
  ))))

noncomputable def spec_l02Finite_g (v86 : List Nat) : Option (Bool) := (spec_l02Finite_T v86).run
def spec_l02Finite_enc (v86 : List Nat) (y : Bool) : Rs := (.bool y, [])
theorem spec_l02Finite_den (v86 : List Nat) : (den TT (tabD spec_l02Finite_tab) (tabM spec_l02Finite_tab) (spec_l02Finite_LO v86) (codeOf Try.f140) ([.bslc (BR.root 0) (.f32 v86)] ++ List.replicate (Try.f140.ntmps - ([.bslc (BR.root 0) (.f32 v86)] : List DV).length) .undef) []).bind (retD TT Try.f140.results.toList 0) = (spec_l02Finite_T v86).bind fun y => .leaf (spec_l02Finite_enc v86 y) := by kernel_rfl
theorem spec_l02Finite_fn (v86 : List Nat) (F : Fr) (h0 : St F [] F.H0) (hA : DVs.Ok F [] [.bslc (BR.root 0) (.f32 v86)]) {y : Bool} (hy : spec_l02Finite_g v86 = some y) : ∃ F' H', Fwd 0 F F' [] (spec_l02Finite_enc v86 y).2 ∧ FnOk Try.prog 140 (DVs.av F [.bslc (BR.root 0) (.f32 v86)]) F.H0 ((spec_l02Finite_enc v86 y).1.av F') H' ∧ St F' (spec_l02Finite_enc v86 y).2 H' ∧ (spec_l02Finite_enc v86 y).1.Ok F' (spec_l02Finite_enc v86 y).2 :=
  fn_fin tok spec_l02Finite_hO mixed Try.func140 Try.call140 (by kernel_rfl) (LoopsOk_eq (l := [(0, bodyOf Try.f140 0)]) (by kernel_rfl) ⟨spec_l02Finite_l0_ok v86, trivial⟩) (spec_l02Finite_den v86) hy h0 hA
noncomputable def spec_l02Finite_F : DFn := fun args L =>
  match args with
  | [a1] =>
    optT (rowF32 L a1) fun v86 =>
    .call (spec_l02Finite_g v86) fun y => .leaf (.bool y, L)
  | _ => .fail
theorem spec_l02Finite_Fok : COk Try.prog 140 spec_l02Finite_F true := by
  intro F L H args r L' hs ha hr
  unfold spec_l02Finite_F at hr
  split at hr
  · rename_i a1
    obtain ⟨v86, hv86, hr⟩ := optT_run hr
    simp only [Tree.run] at hr
    obtain ⟨y, hy, hr⟩ := Option.bind_eq_some_iff.1 hr
    simp only [Tree.run, Option.some.injEq, Prod.mk.injEq] at hr
    obtain ⟨rfl, rfl⟩ := hr
    exact call_ok0 hs (fun k => (([a1.av F] : List AV)[k]?).getD .top) [a1] [.bslc (BR.root 0) (.f32 v86)] (fun F' h0 hi hρ => ⟨by simp [DVs.av, DV.av, BR.av, hρ], spec_l02Finite_fn v86 F' (st_nil hi) ⟨bslc_ok hi (by rw [h0, hρ]; exact rowF32_ok hs (DVs.okAt ha 0 rfl) hv86), trivial⟩ hy⟩) rfl
  · cases hr
/-! spec.l07Thirds -/
noncomputable def spec_l07Thirds_LO (v83 : List Nat) (v84 : List Nat) (v85 : List Nat) : LOr := fun id e L =>
  match id with
  | _ => .fail
noncomputable def spec_l07Thirds_tab : List (FuncId × DFn × Bool) := [(140, spec_l02Finite_F, true)]
theorem spec_l07Thirds_hO : OrcOk Try.prog (tabD spec_l07Thirds_tab) (tabM spec_l07Thirds_tab) := tabD_cons spec_l02Finite_Fok (tabD_nil _)
noncomputable def spec_l07Thirds_T (v83 : List Nat) (v84 : List Nat) (v85 : List Nat) : Tree (Bool) :=
  (.br (decide (((v84.length : Nat) : Int) < (1 : Int))) (
  .leaf false
  ) (
  (.br (decide ((32 : Int) < ((v84.length : Nat) : Int))) (
  .leaf false
  ) (
  (.br (!decide (((v83.length : Nat) : Int) = ((v84.length : Nat) : Int))) (
  .leaf false
  ) (
  (.br (!decide (((v85.length : Nat) : Int) = ((v84.length : Nat) : Int))) (
  .leaf false
  ) (
  (.call (spec_l02Finite_g v83) fun v94 =>
  (.br v94 (
  (.call (spec_l02Finite_g v84) fun v95 =>
  (.br v95 (
  (.call (spec_l02Finite_g v85) fun v96 =>
  (.br v96 (
  (.grd (inb (0 : Int) v83.length) <|
  (.br (feq .f32 (nth v83 (Int.toNat (0 : Int))) (0 : Nat)) (
  (.grd (inb (IntKind.i64.wrap (((v84.length : Nat) : Int) - (1 : Int))) v85.length) <|
  .leaf (feq .f32 (nth v85 (Int.toNat (IntKind.i64.wrap (((v84.length : Nat) : Int) - (1 : Int))))) (0 : Nat)))
  ) (
  .leaf false
  )))
  ) (
  .leaf false
  )))
  ) (
  .leaf false
  )))
  ) (
  .leaf false
  )))
  ))
  ))
  ))
  ))

noncomputable def spec_l07Thirds_g (v83 : List Nat) (v84 : List Nat) (v85 : List Nat) : Option (Bool) := (spec_l07Thirds_T v83 v84 v85).run
def spec_l07Thirds_enc (v83 : List Nat) (v84 : List Nat) (v85 : List Nat) (y : Bool) : Rs := (.bool y, [])
theorem spec_l07Thirds_den (v83 : List Nat) (v84 : List Nat) (v85 : List Nat) : (den TT (tabD spec_l07Thirds_tab) (tabM spec_l07Thirds_tab) (spec_l07Thirds_LO v83 v84 v85) (codeOf Try.f164) ([.bptr (BR.root 0) [.bslc (BR.root 1) (.f32 v83), .bslc (BR.root 2) (.f32 v84), .bslc (BR.root 3) (.f32 v85)]] ++ List.replicate (Try.f164.ntmps - ([.bptr (BR.root 0) [.bslc (BR.root 1) (.f32 v83), .bslc (BR.root 2) (.f32 v84), .bslc (BR.root 3) (.f32 v85)]] : List DV).length) .undef) []).bind (retD TT Try.f164.results.toList 0) = (spec_l07Thirds_T v83 v84 v85).bind fun y => .leaf (spec_l07Thirds_enc v83 v84 v85 y) := by kernel_rfl
theorem spec_l07Thirds_fn (v83 : List Nat) (v84 : List Nat) (v85 : List Nat) (F : Fr) (h0 : St F [] F.H0) (hA : DVs.Ok F [] [.bptr (BR.root 0) [.bslc (BR.root 1) (.f32 v83), .bslc (BR.root 2) (.f32 v84), .bslc (BR.root 3) (.f32 v85)]]) {y : Bool} (hy : spec_l07Thirds_g v83 v84 v85 = some y) : ∃ F' H', Fwd 0 F F' [] (spec_l07Thirds_enc v83 v84 v85 y).2 ∧ FnOk Try.prog 164 (DVs.av F [.bptr (BR.root 0) [.bslc (BR.root 1) (.f32 v83), .bslc (BR.root 2) (.f32 v84), .bslc (BR.root 3) (.f32 v85)]]) F.H0 ((spec_l07Thirds_enc v83 v84 v85 y).1.av F') H' ∧ St F' (spec_l07Thirds_enc v83 v84 v85 y).2 H' ∧ (spec_l07Thirds_enc v83 v84 v85 y).1.Ok F' (spec_l07Thirds_enc v83 v84 v85 y).2 :=
  fn_fin tok spec_l07Thirds_hO mixed Try.func164 Try.call164 (by kernel_rfl) (LoopsOk_eq (l := []) (by kernel_rfl) trivial) (spec_l07Thirds_den v83 v84 v85) hy h0 hA
noncomputable def spec_l07Thirds_F : DFn := fun args L =>
  match args with
  | [a1] =>
    optT (cellsOf L 3 a1) fun cs0 =>
    (match cs0 with
    | [a2, a3, a4] =>
    optT (rowF32 L a2) fun v83 =>
    optT (rowF32 L a3) fun v84 =>
    optT (rowF32 L a4) fun v85 =>
    .call (spec_l07Thirds_g v83 v84 v85) fun y => .leaf (.bool y, L)
    | _ => .fail)
  | _ => .fail
theorem spec_l07Thirds_Fok : COk Try.prog 164 spec_l07Thirds_F true := by
  intro F L H args r L' hs ha hr
  unfold spec_l07Thirds_F at hr
  split at hr
  · rename_i a1
    obtain ⟨cs0, hcp0, hr⟩ := optT_run hr
    split at hr
    · rename_i a2 a3 a4
      obtain ⟨v83, hv83, hr⟩ := optT_run hr
      obtain ⟨v84, hv84, hr⟩ := optT_run hr
      obtain ⟨v85, hv85, hr⟩ := optT_run hr
      simp only [Tree.run] at hr
      obtain ⟨y, hy, hr⟩ := Option.bind_eq_some_iff.1 hr
      simp only [Tree.run, Option.some.injEq, Prod.mk.injEq] at hr
      obtain ⟨rfl, rfl⟩ := hr
      exact call_ok0 hs (fun k => (([a1.av F, a2.av F, a3.av F, a4.av F] : List AV)[k]?).getD .top) [a1] [.bptr (BR.root 0) [.bslc (BR.root 1) (.f32 v83), .bslc (BR.root 2) (.f32 v84), .bslc (BR.root 3) (.f32 v85)]] (fun F' h0 hi hρ => ⟨by simp [DVs.av, DV.av, BR.av, hρ], spec_l07Thirds_fn v83 v84 v85 F' (st_nil hi) ⟨bptr_ok hi (by rw [h0]; simpa [DVs.av, DV.av, BR.av, hρ] using (cellsOf_ok hs (DVs.okAt ha 0 rfl) hcp0).1) ⟨bslc_ok hi (by rw [h0, hρ]; exact rowF32_ok hs (DVs.okAt (cellsOf_ok hs (DVs.okAt ha 0 rfl) hcp0).2 0 rfl) hv83), bslc_ok hi (by rw [h0, hρ]; exact rowF32_ok hs (DVs.okAt (cellsOf_ok hs (DVs.okAt ha 0 rfl) hcp0).2 1 rfl) hv84), bslc_ok hi (by rw [h0, hρ]; exact rowF32_ok hs (DVs.okAt (cellsOf_ok hs (DVs.okAt ha 0 rfl) hcp0).2 2 rfl) hv85), trivial⟩, trivial⟩ hy⟩) rfl
    · cases hr
  · cases hr
/-! spec.l07Fits -/
noncomputable def spec_l07Fits_LO (v79 : List Nat) (v80 : List Nat) (v81 : List Nat) (v82 : List Nat) : LOr := fun id e L =>
  match id with
  | _ => .fail
noncomputable def spec_l07Fits_tab : List (FuncId × DFn × Bool) := [(164, spec_l07Thirds_F, true), (140, spec_l02Finite_F, true)]
theorem spec_l07Fits_hO : OrcOk Try.prog (tabD spec_l07Fits_tab) (tabM spec_l07Fits_tab) := tabD_cons spec_l07Thirds_Fok (tabD_cons spec_l02Finite_Fok (tabD_nil _))
noncomputable def spec_l07Fits_T (v79 : List Nat) (v80 : List Nat) (v81 : List Nat) (v82 : List Nat) : Tree (Bool) :=
  (.call (spec_l07Thirds_g v79 v80 v81) fun v97 =>
  (.br v97 (
  (.br (decide (((v82.length : Nat) : Int) = ((v80.length : Nat) : Int))) (
  (.call (spec_l02Finite_g v82) fun v98 =>
  .leaf v98)
  ) (
  .leaf false
  ))
  ) (
  .leaf false
  )))

noncomputable def spec_l07Fits_g (v79 : List Nat) (v80 : List Nat) (v81 : List Nat) (v82 : List Nat) : Option (Bool) := (spec_l07Fits_T v79 v80 v81 v82).run
def spec_l07Fits_enc (v79 : List Nat) (v80 : List Nat) (v81 : List Nat) (v82 : List Nat) (y : Bool) : Rs := (.bool y, [])
theorem spec_l07Fits_den (v79 : List Nat) (v80 : List Nat) (v81 : List Nat) (v82 : List Nat) : (den TT (tabD spec_l07Fits_tab) (tabM spec_l07Fits_tab) (spec_l07Fits_LO v79 v80 v81 v82) (codeOf Try.f150) ([.bptr (BR.root 0) [.bslc (BR.root 1) (.f32 v79), .bslc (BR.root 2) (.f32 v80), .bslc (BR.root 3) (.f32 v81)], .bslc (BR.root 4) (.f32 v82)] ++ List.replicate (Try.f150.ntmps - ([.bptr (BR.root 0) [.bslc (BR.root 1) (.f32 v79), .bslc (BR.root 2) (.f32 v80), .bslc (BR.root 3) (.f32 v81)], .bslc (BR.root 4) (.f32 v82)] : List DV).length) .undef) []).bind (retD TT Try.f150.results.toList 0) = (spec_l07Fits_T v79 v80 v81 v82).bind fun y => .leaf (spec_l07Fits_enc v79 v80 v81 v82 y) := by kernel_rfl
theorem spec_l07Fits_fn (v79 : List Nat) (v80 : List Nat) (v81 : List Nat) (v82 : List Nat) (F : Fr) (h0 : St F [] F.H0) (hA : DVs.Ok F [] [.bptr (BR.root 0) [.bslc (BR.root 1) (.f32 v79), .bslc (BR.root 2) (.f32 v80), .bslc (BR.root 3) (.f32 v81)], .bslc (BR.root 4) (.f32 v82)]) {y : Bool} (hy : spec_l07Fits_g v79 v80 v81 v82 = some y) : ∃ F' H', Fwd 0 F F' [] (spec_l07Fits_enc v79 v80 v81 v82 y).2 ∧ FnOk Try.prog 150 (DVs.av F [.bptr (BR.root 0) [.bslc (BR.root 1) (.f32 v79), .bslc (BR.root 2) (.f32 v80), .bslc (BR.root 3) (.f32 v81)], .bslc (BR.root 4) (.f32 v82)]) F.H0 ((spec_l07Fits_enc v79 v80 v81 v82 y).1.av F') H' ∧ St F' (spec_l07Fits_enc v79 v80 v81 v82 y).2 H' ∧ (spec_l07Fits_enc v79 v80 v81 v82 y).1.Ok F' (spec_l07Fits_enc v79 v80 v81 v82 y).2 :=
  fn_fin tok spec_l07Fits_hO mixed Try.func150 Try.call150 (by kernel_rfl) (LoopsOk_eq (l := []) (by kernel_rfl) trivial) (spec_l07Fits_den v79 v80 v81 v82) hy h0 hA
noncomputable def spec_l07Fits_F : DFn := fun args L =>
  match args with
  | [a1, a5] =>
    optT (cellsOf L 3 a1) fun cs0 =>
    (match cs0 with
    | [a2, a3, a4] =>
    optT (rowF32 L a2) fun v79 =>
    optT (rowF32 L a3) fun v80 =>
    optT (rowF32 L a4) fun v81 =>
    optT (rowF32 L a5) fun v82 =>
    .call (spec_l07Fits_g v79 v80 v81 v82) fun y => .leaf (.bool y, L)
    | _ => .fail)
  | _ => .fail
theorem spec_l07Fits_Fok : COk Try.prog 150 spec_l07Fits_F true := by
  intro F L H args r L' hs ha hr
  unfold spec_l07Fits_F at hr
  split at hr
  · rename_i a1 a5
    obtain ⟨cs0, hcp0, hr⟩ := optT_run hr
    split at hr
    · rename_i a2 a3 a4
      obtain ⟨v79, hv79, hr⟩ := optT_run hr
      obtain ⟨v80, hv80, hr⟩ := optT_run hr
      obtain ⟨v81, hv81, hr⟩ := optT_run hr
      obtain ⟨v82, hv82, hr⟩ := optT_run hr
      simp only [Tree.run] at hr
      obtain ⟨y, hy, hr⟩ := Option.bind_eq_some_iff.1 hr
      simp only [Tree.run, Option.some.injEq, Prod.mk.injEq] at hr
      obtain ⟨rfl, rfl⟩ := hr
      exact call_ok0 hs (fun k => (([a1.av F, a2.av F, a3.av F, a4.av F, a5.av F] : List AV)[k]?).getD .top) [a1, a5] [.bptr (BR.root 0) [.bslc (BR.root 1) (.f32 v79), .bslc (BR.root 2) (.f32 v80), .bslc (BR.root 3) (.f32 v81)], .bslc (BR.root 4) (.f32 v82)] (fun F' h0 hi hρ => ⟨by simp [DVs.av, DV.av, BR.av, hρ], spec_l07Fits_fn v79 v80 v81 v82 F' (st_nil hi) ⟨bptr_ok hi (by rw [h0]; simpa [DVs.av, DV.av, BR.av, hρ] using (cellsOf_ok hs (DVs.okAt ha 0 rfl) hcp0).1) ⟨bslc_ok hi (by rw [h0, hρ]; exact rowF32_ok hs (DVs.okAt (cellsOf_ok hs (DVs.okAt ha 0 rfl) hcp0).2 0 rfl) hv79), bslc_ok hi (by rw [h0, hρ]; exact rowF32_ok hs (DVs.okAt (cellsOf_ok hs (DVs.okAt ha 0 rfl) hcp0).2 1 rfl) hv80), bslc_ok hi (by rw [h0, hρ]; exact rowF32_ok hs (DVs.okAt (cellsOf_ok hs (DVs.okAt ha 0 rfl) hcp0).2 2 rfl) hv81), trivial⟩, bslc_ok hi (by rw [h0, hρ]; exact rowF32_ok hs (DVs.okAt ha 1 rfl) hv82), trivial⟩ hy⟩) rfl
    · cases hr
  · cases hr
/-! spec.l02List -/
noncomputable def spec_l02List_LO (v126 : List Nat) : LOr := fun id e L =>
  match id with
  | _ => .fail
noncomputable def spec_l02List_tab : List (FuncId × DFn × Bool) := [(140, spec_l02Finite_F, true)]
theorem spec_l02List_hO : OrcOk Try.prog (tabD spec_l02List_tab) (tabM spec_l02List_tab) := tabD_cons spec_l02Finite_Fok (tabD_nil _)
noncomputable def spec_l02List_T (v126 : List Nat) : Tree ((Unit) ⊕ (Unit)) :=
  (.call (spec_l02Finite_g v126) fun v127 =>
  (.br (!v127) (
  .leaf (.inl ())
  ) (
  .leaf (.inr ())
  )))

noncomputable def spec_l02List_g (v126 : List Nat) : Option ((Unit) ⊕ (Unit)) := (spec_l02List_T v126).run
def spec_l02List_enc (v126 : List Nat) (y : (Unit) ⊕ (Unit)) : Rs := (match y with | .inl y => (.tup [.nilslc, .lit false], []) | .inr y => (.tup [.bslc (BR.root 0) (.f32 v126), .lit true], []))
theorem spec_l02List_den (v126 : List Nat) : (den TT (tabD spec_l02List_tab) (tabM spec_l02List_tab) (spec_l02List_LO v126) (codeOf Try.f165) ([.bslc (BR.root 0) (.f32 v126)] ++ List.replicate (Try.f165.ntmps - ([.bslc (BR.root 0) (.f32 v126)] : List DV).length) .undef) []).bind (retD TT Try.f165.results.toList 0) = (spec_l02List_T v126).bind fun y => .leaf (spec_l02List_enc v126 y) := by kernel_rfl
theorem spec_l02List_fn (v126 : List Nat) (F : Fr) (h0 : St F [] F.H0) (hA : DVs.Ok F [] [.bslc (BR.root 0) (.f32 v126)]) {y : (Unit) ⊕ (Unit)} (hy : spec_l02List_g v126 = some y) : ∃ F' H', Fwd 0 F F' [] (spec_l02List_enc v126 y).2 ∧ FnOk Try.prog 165 (DVs.av F [.bslc (BR.root 0) (.f32 v126)]) F.H0 ((spec_l02List_enc v126 y).1.av F') H' ∧ St F' (spec_l02List_enc v126 y).2 H' ∧ (spec_l02List_enc v126 y).1.Ok F' (spec_l02List_enc v126 y).2 :=
  fn_fin tok spec_l02List_hO mixed Try.func165 Try.call165 (by kernel_rfl) (LoopsOk_eq (l := []) (by kernel_rfl) trivial) (spec_l02List_den v126) hy h0 hA
noncomputable def spec_l02List_F : DFn := fun args L =>
  match args with
  | [a1] =>
    optT (rowF32 L a1) fun v126 =>
    .call (spec_l02List_g v126) fun y => .sum y (fun y0 => .leaf (.tup [.nilslc, .lit false], L)) (fun z0 => .leaf (.tup [a1, .lit true], L))
  | _ => .fail
theorem spec_l02List_Fok : COk Try.prog 165 spec_l02List_F true := by
  intro F L H args r L' hs ha hr
  unfold spec_l02List_F at hr
  split at hr
  · rename_i a1
    obtain ⟨v126, hv126, hr⟩ := optT_run hr
    simp only [Tree.run] at hr
    obtain ⟨y, hy, hr⟩ := Option.bind_eq_some_iff.1 hr
    cases y with
    | inl y =>
      simp only [Tree.run, Option.some.injEq, Prod.mk.injEq] at hr
      obtain ⟨rfl, rfl⟩ := hr
      exact call_ok0 hs (fun k => (([a1.av F] : List AV)[k]?).getD .top) [a1] [.bslc (BR.root 0) (.f32 v126)] (fun F' h0 hi hρ => ⟨by simp [DVs.av, DV.av, BR.av, hρ], spec_l02List_fn v126 F' (st_nil hi) ⟨bslc_ok hi (by rw [h0, hρ]; exact rowF32_ok hs (DVs.okAt ha 0 rfl) hv126), trivial⟩ hy⟩) rfl
    | inr y =>
      simp only [Tree.run, Option.some.injEq, Prod.mk.injEq] at hr
      obtain ⟨rfl, rfl⟩ := hr
      exact call_al0 hs (fun k => (([a1.av F] : List AV)[k]?).getD .top) [a1] [.bslc (BR.root 0) (.f32 v126)] (fun F' h0 hi hρ => ⟨by simp [DVs.av, DV.av, BR.av, hρ], spec_l02List_fn v126 F' (st_nil hi) ⟨bslc_ok hi (by rw [h0, hρ]; exact rowF32_ok hs (DVs.okAt ha 0 rfl) hv126), trivial⟩ hy⟩) (fun F' h0 hi hρ => by simp [spec_l02List_enc, DVs.av, DV.av, BR.av, hρ]) ⟨(DVs.okAt ha 0 rfl), trivial, trivial⟩
  · cases hr
/-! spec.l07Solve -/
noncomputable def spec_l07Solve_l0_T (v100 : List Nat) (v102 : List Nat) (v103 : List Nat) (s : Int × (List Nat) × (List Nat)) : Tree ((Int × (List Nat) × (List Nat)) ⊕ ((Unit) ⊕ ((List Nat) × (List Nat)))) :=
  (.br (decide (s.1 < ((v103.length : Nat) : Int))) (
  (.grd (inb s.1 v100.length) <|
  (.grd (inb (IntKind.i64.wrap (s.1 - (1 : Int))) ((s.2.1).length)) <|
  (.grd (inb s.1 ((s.2.1).length)) <|
  (.grd (inb (IntKind.i64.wrap (s.1 - (1 : Int))) v102.length) <|
  (.grd (inb s.1 ((s.2.1).length)) <|
  (.grd (inb s.1 ((s.2.2).length)) <|
  (.grd (inb (IntKind.i64.wrap (s.1 - (1 : Int))) ((s.2.2).length)) <|
  (.grd (inb s.1 ((s.2.2).length)) <|
  (.grd (inb s.1 ((s.2.1).length)) <|
  (.br (feq .f32 (nth (List.set s.2.1 (Int.toNat s.1) (fsub .f32 (nth s.2.1 (Int.toNat s.1)) (fmul .f32 (fdiv .f32 (nth v100 (Int.toNat s.1)) (nth s.2.1 (Int.toNat (IntKind.i64.wrap (s.1 - (1 : Int)))))) (nth v102 (Int.toNat (IntKind.i64.wrap (s.1 - (1 : Int)))))))) (Int.toNat s.1)) (0 : Nat)) (
  .leaf (.inr (.inl ()))
  ) (
  .leaf (.inl (IntKind.i64.wrap (s.1 + (1 : Int)), List.set s.2.1 (Int.toNat s.1) (fsub .f32 (nth s.2.1 (Int.toNat s.1)) (fmul .f32 (fdiv .f32 (nth v100 (Int.toNat s.1)) (nth s.2.1 (Int.toNat (IntKind.i64.wrap (s.1 - (1 : Int)))))) (nth v102 (Int.toNat (IntKind.i64.wrap (s.1 - (1 : Int))))))), List.set s.2.2 (Int.toNat s.1) (fsub .f32 (nth s.2.2 (Int.toNat s.1)) (fmul .f32 (fdiv .f32 (nth v100 (Int.toNat s.1)) (nth s.2.1 (Int.toNat (IntKind.i64.wrap (s.1 - (1 : Int)))))) (nth s.2.2 (Int.toNat (IntKind.i64.wrap (s.1 - (1 : Int)))))))))
  )))))))))))
  ) (
  .leaf (.inr (.inr (s.2.1, s.2.2)))
  ))

noncomputable def spec_l07Solve_l0_g (v100 : List Nat) (v102 : List Nat) (v103 : List Nat) (s0 : Int × (List Nat) × (List Nat)) : Option ((Unit) ⊕ ((List Nat) × (List Nat))) := whileM (fun s => (spec_l07Solve_l0_T v100 v102 v103 s).run) s0
def spec_l07Solve_l0_E (v100 : List Nat) (v101 : List Nat) (v102 : List Nat) (v103 : List Nat) (s : Int × (List Nat) × (List Nat)) : Sd := ([.bptr (BR.root 0) [.bslc (BR.root 1) (.f32 v100), .bslc (BR.root 2) (.f32 v101), .bslc (BR.root 3) (.f32 v102)],tp,tp,tp,tp,tp,.int .i64 ((v103.length : Nat) : Int),.own 0 0 ((s.2.1).length),.own 1 0 ((s.2.2).length),.int .i64 s.1,tp,tp,tp,tp,tp,tp,tp,tp,tp,tp,tp,tp,tp,tp,tp,tp,tp,tp,tp,tp,tp,tp,tp,tp,tp,tp,tp,tp,tp,tp,tp,tp,tp,tp,tp,tp,tp,tp,tp,tp,tp,tp,tp,tp,tp,tp,tp,tp,tp,tp,tp,tp,tp,tp,tp,tp,tp,tp,tp,tp,tp,tp,tp,tp,tp,tp,tp,tp,tp,tp,tp,tp,tp,tp,tp,tp,tp,tp,tp,tp,tp,tp,tp,tp,tp,tp,tp,tp,tp,tp,tp,tp,tp,tp,tp,tp,tp,tp,tp,tp,tp,tp,tp,tp,tp,tp,tp,tp,tp,tp,tp,tp,tp,tp,tp,tp,tp,tp,tp], [.row (.f32 s.2.1) 0, .row (.f32 s.2.2) 0])
def spec_l07Solve_l0_X (v100 : List Nat) (v101 : List Nat) (v102 : List Nat) (v103 : List Nat) (x : (Unit) ⊕ ((List Nat) × (List Nat))) : Out := (match x with | .inl x => (.ret, [tp,tp,tp,tp,.nilslc,.lit false,tp,tp,tp,tp,tp,tp,tp,tp,tp,tp,tp,tp,tp,tp,tp,tp,tp,tp,tp,tp,tp,tp,tp,tp,tp,tp,tp,tp,tp,tp,tp,tp,tp,tp,tp,tp,tp,tp,tp,tp,tp,tp,tp,tp,tp,tp,tp,tp,tp,tp,tp,tp,tp,tp,tp,tp,tp,tp,tp,tp,tp,tp,tp,tp,tp,tp,tp,tp,tp,tp,tp,tp,tp,tp,tp,tp,tp,tp,tp,tp,tp,tp,tp,tp,tp,tp,tp,tp,tp,tp,tp,tp,tp,tp,tp,tp,tp,tp,tp,tp,tp,tp,tp,tp,tp,tp,tp,tp,tp,tp,tp,tp,tp,tp,tp,tp,tp,tp,tp,tp,tp,tp,tp], []) | .inr x => (.normal, [.bptr (BR.root 0) [.bslc (BR.root 1) (.f32 v100), .bslc (BR.root 2) (.f32 v101), .bslc (BR.root 3) (.f32 v102)],tp,tp,tp,tp,tp,.int .i64 ((v103.length : Nat) : Int),.own 0 0 ((x.1).length),.own 1 0 ((x.2).length),tp,tp,tp,tp,tp,tp,tp,tp,tp,tp,tp,tp,tp,tp,tp,tp,tp,tp,tp,tp,tp,tp,tp,tp,tp,tp,tp,tp,tp,tp,tp,tp,tp,tp,tp,tp,tp,tp,tp,tp,tp,tp,tp,tp,tp,tp,tp,tp,tp,tp,tp,tp,tp,tp,tp,tp,tp,tp,tp,tp,tp,tp,tp,tp,tp,tp,tp,tp,tp,tp,tp,tp,tp,tp,tp,tp,tp,tp,tp,tp,tp,tp,tp,tp,tp,tp,tp,tp,tp,tp,tp,tp,tp,tp,tp,tp,tp,tp,tp,tp,tp,tp,tp,tp,tp,tp,tp,tp,tp,tp,tp,tp,tp,tp,tp,tp,tp,tp,tp,tp], [.row (.f32 x.1) 0, .row (.f32 x.2) 0]))
def spec_l07Solve_l0_kill : List Nat := KL true [0,1,5,4,119]
def spec_l07Solve_l0_nx : Exit → List Nat
  | .exit 0 => KL true [0,1,5,3,120]
  | .ret => KL true [4,2,123]
  | _ => []
noncomputable def spec_l07Solve_l2_T (v102 : List Nat) (v103 : List Nat) (v122 : List Nat) (v123 : List Nat) (s : Int × (List Nat)) : Tree ((Int × (List Nat)) ⊕ ((List Nat))) :=
  (.br (decide ((0 : Int) ≤ s.1)) (
  (.grd (inb s.1 ((v123).length)) <|
  (.br (decide (IntKind.i64.wrap (s.1 + (1 : Int)) < ((v103.length : Nat) : Int))) (
  (.grd (inb s.1 v102.length) <|
  (.grd (inb (IntKind.i64.wrap (s.1 + (1 : Int))) ((s.2).length)) <|
  (.grd (inb s.1 ((v122).length)) <|
  (.grd (inb s.1 ((s.2).length)) <|
  .leaf (.inl (IntKind.i64.wrap (s.1 - (1 : Int)), List.set s.2 (Int.toNat s.1) (fdiv .f32 (fsub .f32 (nth v123 (Int.toNat s.1)) (fmul .f32 (nth v102 (Int.toNat s.1)) (nth s.2 (Int.toNat (IntKind.i64.wrap (s.1 + (1 : Int))))))) (nth v122 (Int.toNat s.1)))))))))
  ) (
  (.grd (inb s.1 ((v122).length)) <|
  (.grd (inb s.1 ((s.2).length)) <|
  .leaf (.inl (IntKind.i64.wrap (s.1 - (1 : Int)), List.set s.2 (Int.toNat s.1) (fdiv .f32 (nth v123 (Int.toNat s.1)) (nth v122 (Int.toNat s.1)))))))
  )))
  ) (
  .leaf (.inr s.2)
  ))

noncomputable def spec_l07Solve_l2_g (v102 : List Nat) (v103 : List Nat) (v122 : List Nat) (v123 : List Nat) (s0 : Int × (List Nat)) : Option ((List Nat)) := whileM (fun s => (spec_l07Solve_l2_T v102 v103 v122 v123 s).run) s0
def spec_l07Solve_l2_E (v100 : List Nat) (v101 : List Nat) (v102 : List Nat) (v103 : List Nat) (v122 : List Nat) (v123 : List Nat) (s : Int × (List Nat)) : Sd := ([.bptr (BR.root 0) [.bslc (BR.root 1) (.f32 v100), .bslc (BR.root 2) (.f32 v101), .bslc (BR.root 3) (.f32 v102)],tp,tp,tp,tp,tp,.int .i64 ((v103.length : Nat) : Int),.own 0 0 ((v122).length),.own 1 0 ((v123).length),tp,tp,.own 2 0 ((s.2).length),.int .i64 s.1,tp,tp,tp,tp,tp,tp,tp,tp,tp,tp,tp,tp,tp,tp,tp,tp,tp,tp,tp,tp,tp,tp,tp,tp,tp,tp,tp,tp,tp,tp,tp,tp,tp,tp,tp,tp,tp,tp,tp,tp,tp,tp,tp,tp,tp,tp,tp,tp,tp,tp,tp,tp,tp,tp,tp,tp,tp,tp,tp,tp,tp,tp,tp,tp,tp,tp,tp,tp,tp,tp,tp,tp,tp,tp,tp,tp,tp,tp,tp,tp,tp,tp,tp,tp,tp,tp,tp,tp,tp,tp,tp,tp,tp,tp,tp,tp,tp,tp,tp,tp,tp,tp,tp,tp,tp,tp,tp,tp,tp,tp,tp,tp,tp,tp,tp,tp], [.row (.f32 v122) 0, .row (.f32 v123) 0, .row (.f32 s.2) 0])
def spec_l07Solve_l2_X (v100 : List Nat) (v101 : List Nat) (v102 : List Nat) (v103 : List Nat) (v122 : List Nat) (v123 : List Nat) (x : (List Nat)) : Out := (.normal, [tp,tp,tp,tp,tp,tp,tp,tp,tp,tp,tp,.own 0 0 ((x).length),tp,tp,tp,tp,tp,tp,tp,tp,tp,tp,tp,tp,tp,tp,tp,tp,tp,tp,tp,tp,tp,tp,tp,tp,tp,tp,tp,tp,tp,tp,tp,tp,tp,tp,tp,tp,tp,tp,tp,tp,tp,tp,tp,tp,tp,tp,tp,tp,tp,tp,tp,tp,tp,tp,tp,tp,tp,tp,tp,tp,tp,tp,tp,tp,tp,tp,tp,tp,tp,tp,tp,tp,tp,tp,tp,tp,tp,tp,tp,tp,tp,tp,tp,tp,tp,tp,tp,tp,tp,tp,tp,tp,tp,tp,tp,tp,tp,tp,tp,tp,tp,tp,tp,tp,tp,tp,tp,tp,tp,tp,tp,tp,tp,tp,tp,tp,tp], [.row (.f32 x) 0])
def spec_l07Solve_l2_kill : List Nat := KL true [0,1,5,3,2,2,116]
def spec_l07Solve_l2_nx : Exit → List Nat
  | .exit 2 => KL true [11,1,117]
  | .ret => KL true [4,2,123]
  | _ => []
noncomputable def spec_l07Solve_LO (v100 : List Nat) (v101 : List Nat) (v102 : List Nat) (v103 : List Nat) : LOr := fun id e L =>
  match id with
  | 0 => .need (normA 0 spec_l07Solve_l0_kill e L = some (spec_l07Solve_l0_E v100 v101 v102 v103 ((gI (vAt e 9)), (gRF L (vAt e 7)), (gRF L (vAt e 8))))) (.call (spec_l07Solve_l0_g v100 v102 v103 ((gI (vAt e 9)), (gRF L (vAt e 7)), (gRF L (vAt e 8)))) fun x => .sum x (fun b0 => .leaf (spec_l07Solve_l0_X v100 v101 v102 v103 (.inl b0))) (fun c0 => .leaf (spec_l07Solve_l0_X v100 v101 v102 v103 (.inr c0))))
  | 2 => .need (normA 0 spec_l07Solve_l2_kill e L = some (spec_l07Solve_l2_E v100 v101 v102 v103 (gRF L (vAt e 7)) (gRF L (vAt e 8)) ((gI (vAt e 12)), (gRF L (vAt e 11))))) (.call (spec_l07Solve_l2_g v102 v103 (gRF L (vAt e 7)) (gRF L (vAt e 8)) ((gI (vAt e 12)), (gRF L (vAt e 11)))) fun x => .leaf (spec_l07Solve_l2_X v100 v101 v102 v103 (gRF L (vAt e 7)) (gRF L (vAt e 8)) x))
  | _ => .fail
noncomputable def spec_l07Solve_tab : List (FuncId × DFn × Bool) := [(165, spec_l02List_F, true)]
theorem spec_l07Solve_hO : OrcOk Try.prog (tabD spec_l07Solve_tab) (tabM spec_l07Solve_tab) := tabD_cons spec_l02List_Fok (tabD_nil _)
theorem spec_l07Solve_l0_be (v100 : List Nat) (v101 : List Nat) (v102 : List Nat) (v103 : List Nat) (s : Int × (List Nat) × (List Nat)) : bodyT TT (tabD spec_l07Solve_tab) (tabM spec_l07Solve_tab) (spec_l07Solve_LO v100 v101 v102 v103) 0 spec_l07Solve_l0_kill spec_l07Solve_l0_nx (bodyOf Try.f151 0) 0 (spec_l07Solve_l0_E v100 v101 v102 v103 s) = (spec_l07Solve_l0_T v100 v102 v103 s).bind fun y => .leaf (outS (spec_l07Solve_l0_E v100 v101 v102 v103) (spec_l07Solve_l0_X v100 v101 v102 v103) y) := by kernel_rfl
theorem spec_l07Solve_l0_ok (v100 : List Nat) (v101 : List Nat) (v102 : List Nat) (v103 : List Nat) : LSound Try.prog 0 (spec_l07Solve_LO v100 v101 v102 v103) 0 (bodyOf Try.f151 0) := by
  intro e L out h
  exact lo_ok (E := spec_l07Solve_l0_E v100 v101 v102 v103) (gT := spec_l07Solve_l0_T v100 v102 v103) (X := spec_l07Solve_l0_X v100 v101 v102 v103) (s0 := ((gI (vAt e 9)), (gRF L (vAt e 7)), (gRF L (vAt e 8)))) tok spec_l07Solve_hO mixed (LoopsOk_eq (l := []) (by kernel_rfl) trivial) (spec_l07Solve_l0_be v100 v101 v102 v103) rfl (by intro x; (cases x with | inl b => rfl | inr x => exact rfl)) h
theorem spec_l07Solve_l2_be (v100 : List Nat) (v101 : List Nat) (v102 : List Nat) (v103 : List Nat) (v122 : List Nat) (v123 : List Nat) (s : Int × (List Nat)) : bodyT TT (tabD spec_l07Solve_tab) (tabM spec_l07Solve_tab) (spec_l07Solve_LO v100 v101 v102 v103) 0 spec_l07Solve_l2_kill spec_l07Solve_l2_nx (bodyOf Try.f151 2) 2 (spec_l07Solve_l2_E v100 v101 v102 v103 v122 v123 s) = (spec_l07Solve_l2_T v102 v103 v122 v123 s).bind fun y => .leaf (outS (spec_l07Solve_l2_E v100 v101 v102 v103 v122 v123) (spec_l07Solve_l2_X v100 v101 v102 v103 v122 v123) y) := by kernel_rfl
theorem spec_l07Solve_l2_ok (v100 : List Nat) (v101 : List Nat) (v102 : List Nat) (v103 : List Nat) : LSound Try.prog 0 (spec_l07Solve_LO v100 v101 v102 v103) 2 (bodyOf Try.f151 2) := by
  intro e L out h
  exact lo_ok (E := spec_l07Solve_l2_E v100 v101 v102 v103 (gRF L (vAt e 7)) (gRF L (vAt e 8))) (gT := spec_l07Solve_l2_T v102 v103 (gRF L (vAt e 7)) (gRF L (vAt e 8))) (X := spec_l07Solve_l2_X v100 v101 v102 v103 (gRF L (vAt e 7)) (gRF L (vAt e 8))) (s0 := ((gI (vAt e 12)), (gRF L (vAt e 11)))) tok spec_l07Solve_hO mixed (LoopsOk_eq (l := []) (by kernel_rfl) trivial) (spec_l07Solve_l2_be v100 v101 v102 v103 (gRF L (vAt e 7)) (gRF L (vAt e 8))) rfl (by intro x; rfl) h
noncomputable def spec_l07Solve_T (v100 : List Nat) (v101 : List Nat) (v102 : List Nat) (v103 : List Nat) : Tree ((Unit) ⊕ ((List Nat))) :=
  (.grd (fits (([] : List Nat) ++ v101).length) <|
  (.grd (fits (([] : List Nat) ++ v103).length) <|
  (.grd (inb (0 : Int) ((([] : List Nat) ++ v101).length)) <|
  (.br (feq .f32 (nth (([] : List Nat) ++ v101) (Int.toNat (0 : Int))) (0 : Nat)) (
  .leaf (.inl ())
  ) (
  (.need (some (spec_l07Solve_l0_E v100 v101 v102 v103 ((1 : Int), ([] : List Nat) ++ v101, ([] : List Nat) ++ v103)) = some (spec_l07Solve_l0_E v100 v101 v102 v103 ((1 : Int), ([] : List Nat) ++ v101, ([] : List Nat) ++ v103))) <|
  (.call (spec_l07Solve_l0_g v100 v102 v103 ((1 : Int), ([] : List Nat) ++ v101, ([] : List Nat) ++ v103)) fun v111 =>
  (.sum v111 (fun v112 =>
  .leaf (.inl ())
  ) (fun v113 =>
  (.need (((v103.length : Nat) : Int) = ((v103.length : Nat) : Int)) <|
  (.grd (inb ((v103.length : Nat) : Int) (maxN + 1)) <|
  (.need (some (spec_l07Solve_l2_E v100 v101 v102 v103 v113.1 v113.2 (IntKind.i64.wrap (((v103.length : Nat) : Int) - (1 : Int)), List.replicate (Int.toNat ((v103.length : Nat) : Int)) (0 : Nat))) = some (spec_l07Solve_l2_E v100 v101 v102 v103 v113.1 v113.2 (IntKind.i64.wrap (((v103.length : Nat) : Int) - (1 : Int)), List.replicate (Int.toNat ((v103.length : Nat) : Int)) (0 : Nat)))) <|
  (.call (spec_l07Solve_l2_g v102 v103 v113.1 v113.2 (IntKind.i64.wrap (((v103.length : Nat) : Int) - (1 : Int)), List.replicate (Int.toNat ((v103.length : Nat) : Int)) (0 : Nat))) fun v125 =>
  (.call (spec_l02List_g v125) fun v128 =>
  (.sum v128 (fun v129 =>
  .leaf (.inl ())
  ) (fun v130 =>
  .leaf (.inr v125)
  )))))))
  ))))
  )))))

noncomputable def spec_l07Solve_g (v100 : List Nat) (v101 : List Nat) (v102 : List Nat) (v103 : List Nat) : Option ((Unit) ⊕ ((List Nat))) := (spec_l07Solve_T v100 v101 v102 v103).run
def spec_l07Solve_enc (v100 : List Nat) (v101 : List Nat) (v102 : List Nat) (v103 : List Nat) (y : (Unit) ⊕ ((List Nat))) : Rs := (match y with | .inl y => (.tup [.nilslc, .lit false], []) | .inr y => (.tup [.own 0 0 ((y).length), .lit true], [.row (.f32 y) 0]))
theorem spec_l07Solve_den (v100 : List Nat) (v101 : List Nat) (v102 : List Nat) (v103 : List Nat) : (den TT (tabD spec_l07Solve_tab) (tabM spec_l07Solve_tab) (spec_l07Solve_LO v100 v101 v102 v103) (codeOf Try.f151) ([.bptr (BR.root 0) [.bslc (BR.root 1) (.f32 v100), .bslc (BR.root 2) (.f32 v101), .bslc (BR.root 3) (.f32 v102)], .bslc (BR.root 4) (.f32 v103)] ++ List.replicate (Try.f151.ntmps - ([.bptr (BR.root 0) [.bslc (BR.root 1) (.f32 v100), .bslc (BR.root 2) (.f32 v101), .bslc (BR.root 3) (.f32 v102)], .bslc (BR.root 4) (.f32 v103)] : List DV).length) .undef) []).bind (retD TT Try.f151.results.toList 0) = (spec_l07Solve_T v100 v101 v102 v103).bind fun y => .leaf (spec_l07Solve_enc v100 v101 v102 v103 y) := by kernel_rfl
theorem spec_l07Solve_fn (v100 : List Nat) (v101 : List Nat) (v102 : List Nat) (v103 : List Nat) (F : Fr) (h0 : St F [] F.H0) (hA : DVs.Ok F [] [.bptr (BR.root 0) [.bslc (BR.root 1) (.f32 v100), .bslc (BR.root 2) (.f32 v101), .bslc (BR.root 3) (.f32 v102)], .bslc (BR.root 4) (.f32 v103)]) {y : (Unit) ⊕ ((List Nat))} (hy : spec_l07Solve_g v100 v101 v102 v103 = some y) : ∃ F' H', Fwd 0 F F' [] (spec_l07Solve_enc v100 v101 v102 v103 y).2 ∧ FnOk Try.prog 151 (DVs.av F [.bptr (BR.root 0) [.bslc (BR.root 1) (.f32 v100), .bslc (BR.root 2) (.f32 v101), .bslc (BR.root 3) (.f32 v102)], .bslc (BR.root 4) (.f32 v103)]) F.H0 ((spec_l07Solve_enc v100 v101 v102 v103 y).1.av F') H' ∧ St F' (spec_l07Solve_enc v100 v101 v102 v103 y).2 H' ∧ (spec_l07Solve_enc v100 v101 v102 v103 y).1.Ok F' (spec_l07Solve_enc v100 v101 v102 v103 y).2 :=
  fn_fin tok spec_l07Solve_hO mixed Try.func151 Try.call151 (by kernel_rfl) (LoopsOk_eq (l := [(0, bodyOf Try.f151 0), (2, bodyOf Try.f151 2)]) (by kernel_rfl) ⟨spec_l07Solve_l0_ok v100 v101 v102 v103, spec_l07Solve_l2_ok v100 v101 v102 v103, trivial⟩) (spec_l07Solve_den v100 v101 v102 v103) hy h0 hA
noncomputable def spec_l07Solve_F : DFn := fun args L =>
  match args with
  | [a1, a5] =>
    optT (cellsOf L 3 a1) fun cs0 =>
    (match cs0 with
    | [a2, a3, a4] =>
    optT (rowF32 L a2) fun v100 =>
    optT (rowF32 L a3) fun v101 =>
    optT (rowF32 L a4) fun v102 =>
    optT (rowF32 L a5) fun v103 =>
    .call (spec_l07Solve_g v100 v101 v102 v103) fun y => .sum y (fun y0 => .leaf (.tup [.nilslc, .lit false], L)) (fun z0 => .leaf (.tup [.own (L.length + 0) 0 ((z0).length), .lit true], L ++ [.row (.f32 z0) 0]))
    | _ => .fail)
  | _ => .fail
theorem spec_l07Solve_Fok : COk Try.prog 151 spec_l07Solve_F true := by
  intro F L H args r L' hs ha hr
  unfold spec_l07Solve_F at hr
  split at hr
  · rename_i a1 a5
    obtain ⟨cs0, hcp0, hr⟩ := optT_run hr
    split at hr
    · rename_i a2 a3 a4
      obtain ⟨v100, hv100, hr⟩ := optT_run hr
      obtain ⟨v101, hv101, hr⟩ := optT_run hr
      obtain ⟨v102, hv102, hr⟩ := optT_run hr
      obtain ⟨v103, hv103, hr⟩ := optT_run hr
      simp only [Tree.run] at hr
      obtain ⟨y, hy, hr⟩ := Option.bind_eq_some_iff.1 hr
      cases y with
      | inl y =>
        simp only [Tree.run, Option.some.injEq, Prod.mk.injEq] at hr
        obtain ⟨rfl, rfl⟩ := hr
        exact call_ok0 hs (fun k => (([a1.av F, a2.av F, a3.av F, a4.av F, a5.av F] : List AV)[k]?).getD .top) [a1, a5] [.bptr (BR.root 0) [.bslc (BR.root 1) (.f32 v100), .bslc (BR.root 2) (.f32 v101), .bslc (BR.root 3) (.f32 v102)], .bslc (BR.root 4) (.f32 v103)] (fun F' h0 hi hρ => ⟨by simp [DVs.av, DV.av, BR.av, hρ], spec_l07Solve_fn v100 v101 v102 v103 F' (st_nil hi) ⟨bptr_ok hi (by rw [h0]; simpa [DVs.av, DV.av, BR.av, hρ] using (cellsOf_ok hs (DVs.okAt ha 0 rfl) hcp0).1) ⟨bslc_ok hi (by rw [h0, hρ]; exact rowF32_ok hs (DVs.okAt (cellsOf_ok hs (DVs.okAt ha 0 rfl) hcp0).2 0 rfl) hv100), bslc_ok hi (by rw [h0, hρ]; exact rowF32_ok hs (DVs.okAt (cellsOf_ok hs (DVs.okAt ha 0 rfl) hcp0).2 1 rfl) hv101), bslc_ok hi (by rw [h0, hρ]; exact rowF32_ok hs (DVs.okAt (cellsOf_ok hs (DVs.okAt ha 0 rfl) hcp0).2 2 rfl) hv102), trivial⟩, bslc_ok hi (by rw [h0, hρ]; exact rowF32_ok hs (DVs.okAt ha 1 rfl) hv103), trivial⟩ hy⟩) rfl
      | inr y =>
        simp only [Tree.run, Option.some.injEq, Prod.mk.injEq] at hr
        obtain ⟨rfl, rfl⟩ := hr
        exact call_ok1 hs (fun k => (([a1.av F, a2.av F, a3.av F, a4.av F, a5.av F] : List AV)[k]?).getD .top) [a1, a5] [.bptr (BR.root 0) [.bslc (BR.root 1) (.f32 v100), .bslc (BR.root 2) (.f32 v101), .bslc (BR.root 3) (.f32 v102)], .bslc (BR.root 4) (.f32 v103)] (fun F' h0 hi hρ => ⟨by simp [DVs.av, DV.av, BR.av, hρ], spec_l07Solve_fn v100 v101 v102 v103 F' (st_nil hi) ⟨bptr_ok hi (by rw [h0]; simpa [DVs.av, DV.av, BR.av, hρ] using (cellsOf_ok hs (DVs.okAt ha 0 rfl) hcp0).1) ⟨bslc_ok hi (by rw [h0, hρ]; exact rowF32_ok hs (DVs.okAt (cellsOf_ok hs (DVs.okAt ha 0 rfl) hcp0).2 0 rfl) hv100), bslc_ok hi (by rw [h0, hρ]; exact rowF32_ok hs (DVs.okAt (cellsOf_ok hs (DVs.okAt ha 0 rfl) hcp0).2 1 rfl) hv101), bslc_ok hi (by rw [h0, hρ]; exact rowF32_ok hs (DVs.okAt (cellsOf_ok hs (DVs.okAt ha 0 rfl) hcp0).2 2 rfl) hv102), trivial⟩, bslc_ok hi (by rw [h0, hρ]; exact rowF32_ok hs (DVs.okAt ha 1 rfl) hv103), trivial⟩ hy⟩) rfl rfl
    · cases hr
  · cases hr
/-! spec.ThirdsSolve -/
noncomputable def spec_ThirdsSolve_LO (v75 : List Nat) (v76 : List Nat) (v77 : List Nat) (v78 : List Nat) : LOr := fun id e L =>
  match id with
  | _ => .fail
noncomputable def spec_ThirdsSolve_tab : List (FuncId × DFn × Bool) := [(150, spec_l07Fits_F, true), (151, spec_l07Solve_F, true)]
theorem spec_ThirdsSolve_hO : OrcOk Try.prog (tabD spec_ThirdsSolve_tab) (tabM spec_ThirdsSolve_tab) := tabD_cons spec_l07Fits_Fok (tabD_cons spec_l07Solve_Fok (tabD_nil _))
noncomputable def spec_ThirdsSolve_T (v75 : List Nat) (v76 : List Nat) (v77 : List Nat) (v78 : List Nat) : Tree ((Unit) ⊕ ((List Nat))) :=
  (.call (spec_l07Fits_g v75 v76 v77 v78) fun v99 =>
  (.br (!v99) (
  .leaf (.inl ())
  ) (
  (.call (spec_l07Solve_g v75 v76 v77 v78) fun v131 =>
  (.sum v131 (fun v132 =>
  .leaf (.inl ())
  ) (fun v133 =>
  .leaf (.inr v133)
  )))
  )))

noncomputable def spec_ThirdsSolve_g (v75 : List Nat) (v76 : List Nat) (v77 : List Nat) (v78 : List Nat) : Option ((Unit) ⊕ ((List Nat))) := (spec_ThirdsSolve_T v75 v76 v77 v78).run
def spec_ThirdsSolve_enc (v75 : List Nat) (v76 : List Nat) (v77 : List Nat) (v78 : List Nat) (y : (Unit) ⊕ ((List Nat))) : Rs := (match y with | .inl y => (.tup [.nilslc, .lit false], []) | .inr y => (.tup [.own 0 0 ((y).length), .lit true], [.row (.f32 y) 0]))
theorem spec_ThirdsSolve_den (v75 : List Nat) (v76 : List Nat) (v77 : List Nat) (v78 : List Nat) : (den TT (tabD spec_ThirdsSolve_tab) (tabM spec_ThirdsSolve_tab) (spec_ThirdsSolve_LO v75 v76 v77 v78) (codeOf Try.f115) ([.agg [.bslc (BR.root 0) (.f32 v75), .bslc (BR.root 1) (.f32 v76), .bslc (BR.root 2) (.f32 v77)], .bslc (BR.root 3) (.f32 v78)] ++ List.replicate (Try.f115.ntmps - ([.agg [.bslc (BR.root 0) (.f32 v75), .bslc (BR.root 1) (.f32 v76), .bslc (BR.root 2) (.f32 v77)], .bslc (BR.root 3) (.f32 v78)] : List DV).length) .undef) []).bind (retD TT Try.f115.results.toList 0) = (spec_ThirdsSolve_T v75 v76 v77 v78).bind fun y => .leaf (spec_ThirdsSolve_enc v75 v76 v77 v78 y) := by kernel_rfl
theorem spec_ThirdsSolve_fn (v75 : List Nat) (v76 : List Nat) (v77 : List Nat) (v78 : List Nat) (F : Fr) (h0 : St F [] F.H0) (hA : DVs.Ok F [] [.agg [.bslc (BR.root 0) (.f32 v75), .bslc (BR.root 1) (.f32 v76), .bslc (BR.root 2) (.f32 v77)], .bslc (BR.root 3) (.f32 v78)]) {y : (Unit) ⊕ ((List Nat))} (hy : spec_ThirdsSolve_g v75 v76 v77 v78 = some y) : ∃ F' H', Fwd 0 F F' [] (spec_ThirdsSolve_enc v75 v76 v77 v78 y).2 ∧ FnOk Try.prog 115 (DVs.av F [.agg [.bslc (BR.root 0) (.f32 v75), .bslc (BR.root 1) (.f32 v76), .bslc (BR.root 2) (.f32 v77)], .bslc (BR.root 3) (.f32 v78)]) F.H0 ((spec_ThirdsSolve_enc v75 v76 v77 v78 y).1.av F') H' ∧ St F' (spec_ThirdsSolve_enc v75 v76 v77 v78 y).2 H' ∧ (spec_ThirdsSolve_enc v75 v76 v77 v78 y).1.Ok F' (spec_ThirdsSolve_enc v75 v76 v77 v78 y).2 :=
  fn_fin tok spec_ThirdsSolve_hO mixed Try.func115 Try.call115 (by kernel_rfl) (LoopsOk_eq (l := []) (by kernel_rfl) trivial) (spec_ThirdsSolve_den v75 v76 v77 v78) hy h0 hA
noncomputable def spec_ThirdsSolve_F : DFn := fun args L =>
  match args with
  | [.agg [a1, a2, a3], a4] =>
    optT (rowF32 L a1) fun v75 =>
    optT (rowF32 L a2) fun v76 =>
    optT (rowF32 L a3) fun v77 =>
    optT (rowF32 L a4) fun v78 =>
    .call (spec_ThirdsSolve_g v75 v76 v77 v78) fun y => .sum y (fun y0 => .leaf (.tup [.nilslc, .lit false], L)) (fun z0 => .leaf (.tup [.own (L.length + 0) 0 ((z0).length), .lit true], L ++ [.row (.f32 z0) 0]))
  | _ => .fail
theorem spec_ThirdsSolve_Fok : COk Try.prog 115 spec_ThirdsSolve_F true := by
  intro F L H args r L' hs ha hr
  unfold spec_ThirdsSolve_F at hr
  split at hr
  · rename_i a1 a2 a3 a4
    obtain ⟨v75, hv75, hr⟩ := optT_run hr
    obtain ⟨v76, hv76, hr⟩ := optT_run hr
    obtain ⟨v77, hv77, hr⟩ := optT_run hr
    obtain ⟨v78, hv78, hr⟩ := optT_run hr
    simp only [Tree.run] at hr
    obtain ⟨y, hy, hr⟩ := Option.bind_eq_some_iff.1 hr
    cases y with
    | inl y =>
      simp only [Tree.run, Option.some.injEq, Prod.mk.injEq] at hr
      obtain ⟨rfl, rfl⟩ := hr
      exact call_ok0 hs (fun k => (([a1.av F, a2.av F, a3.av F, a4.av F] : List AV)[k]?).getD .top) [.agg [a1, a2, a3], a4] [.agg [.bslc (BR.root 0) (.f32 v75), .bslc (BR.root 1) (.f32 v76), .bslc (BR.root 2) (.f32 v77)], .bslc (BR.root 3) (.f32 v78)] (fun F' h0 hi hρ => ⟨by simp [DVs.av, DV.av, BR.av, hρ], spec_ThirdsSolve_fn v75 v76 v77 v78 F' (st_nil hi) ⟨⟨bslc_ok hi (by rw [h0, hρ]; exact rowF32_ok hs (DVs.okAt (DVs.okAt ha 0 rfl) 0 rfl) hv75), bslc_ok hi (by rw [h0, hρ]; exact rowF32_ok hs (DVs.okAt (DVs.okAt ha 0 rfl) 1 rfl) hv76), bslc_ok hi (by rw [h0, hρ]; exact rowF32_ok hs (DVs.okAt (DVs.okAt ha 0 rfl) 2 rfl) hv77), trivial⟩, bslc_ok hi (by rw [h0, hρ]; exact rowF32_ok hs (DVs.okAt ha 1 rfl) hv78), trivial⟩ hy⟩) rfl
    | inr y =>
      simp only [Tree.run, Option.some.injEq, Prod.mk.injEq] at hr
      obtain ⟨rfl, rfl⟩ := hr
      exact call_ok1 hs (fun k => (([a1.av F, a2.av F, a3.av F, a4.av F] : List AV)[k]?).getD .top) [.agg [a1, a2, a3], a4] [.agg [.bslc (BR.root 0) (.f32 v75), .bslc (BR.root 1) (.f32 v76), .bslc (BR.root 2) (.f32 v77)], .bslc (BR.root 3) (.f32 v78)] (fun F' h0 hi hρ => ⟨by simp [DVs.av, DV.av, BR.av, hρ], spec_ThirdsSolve_fn v75 v76 v77 v78 F' (st_nil hi) ⟨⟨bslc_ok hi (by rw [h0, hρ]; exact rowF32_ok hs (DVs.okAt (DVs.okAt ha 0 rfl) 0 rfl) hv75), bslc_ok hi (by rw [h0, hρ]; exact rowF32_ok hs (DVs.okAt (DVs.okAt ha 0 rfl) 1 rfl) hv76), bslc_ok hi (by rw [h0, hρ]; exact rowF32_ok hs (DVs.okAt (DVs.okAt ha 0 rfl) 2 rfl) hv77), trivial⟩, bslc_ok hi (by rw [h0, hρ]; exact rowF32_ok hs (DVs.okAt ha 1 rfl) hv78), trivial⟩ hy⟩) rfl rfl
  · cases hr
/-! spec.ThirdsShared -/
noncomputable def spec_ThirdsShared_nst_l0_T (v63 : List (List Nat)) (v64 : List Nat) (v65 : List (List Nat)) (v66 : List Nat) (v67 : List (List Nat)) (v68 : List Nat) (v69 : List Nat) (s : Int × (List (List Nat)) × (List Nat)) : Tree ((Int × (List (List Nat)) × (List Nat)) ⊕ ((Unit) ⊕ ((List (List Nat)) × (List Nat)))) :=
  (.br (decide (s.1 < (((v64).length : Nat) : Int))) (
  (.grd (inb s.1 ((v64).length)) <|
  (.call (spec_ThirdsSolve_g (nget v63 (nth v64 (Int.toNat s.1))) (nget v65 (nth v66 (Int.toNat s.1))) (nget v67 (nth v68 (Int.toNat s.1))) v69) fun v146 =>
  (.sum v146 (fun v147 =>
  .leaf (.inr (.inl ()))
  ) (fun v148 =>
  (.grd (fits (((s.2.2).length) + (1 : Nat))) <|
  .leaf (.inl (IntKind.i64.wrap (s.1 + (1 : Int)), s.2.1 ++ ([v148] : List (List Nat)), s.2.2 ++ [s.2.1.length + 1])))
  ))))
  ) (
  .leaf (.inr (.inr (s.2.1, s.2.2)))
  ))

noncomputable def spec_ThirdsShared_nst_l0_g (v63 : List (List Nat)) (v64 : List Nat) (v65 : List (List Nat)) (v66 : List Nat) (v67 : List (List Nat)) (v68 : List Nat) (v69 : List Nat) (s0 : Int × (List (List Nat)) × (List Nat)) : Option ((Unit) ⊕ ((List (List Nat)) × (List Nat))) := whileM (fun s => (spec_ThirdsShared_nst_l0_T v63 v64 v65 v66 v67 v68 v69 s).run) s0
def spec_ThirdsShared_nst_l0_E (v63 : List (List Nat)) (v64 : List Nat) (v65 : List (List Nat)) (v66 : List Nat) (v67 : List (List Nat)) (v68 : List Nat) (v69 : List Nat) (v70 : Int) (s : Int × (List (List Nat)) × (List Nat)) : Sd := ([.nest 0 0 3 ((v64).length),.bslc (BR.root 1) (.f32 v69),tp,tp,tp,tp,tp,tp,.nest 1 0 1 ((s.2.2).length),tp,tp,tp,tp,tp,tp,tp,tp,tp,tp,tp,tp,tp,.int .i64 (((v64).length : Nat) : Int),.int .i64 s.1,tp,tp,tp,tp,tp,tp,tp,tp,tp,tp,tp,tp,tp,tp,tp,tp,tp,tp,tp], [.nest [.sl (.f32 v63) v64, .sl (.f32 v65) v66, .sl (.f32 v67) v68] false 0, .nest [.sl (.f32 s.2.1) s.2.2] false 0])
def spec_ThirdsShared_nst_l0_X (v63 : List (List Nat)) (v64 : List Nat) (v65 : List (List Nat)) (v66 : List Nat) (v67 : List (List Nat)) (v68 : List Nat) (v69 : List Nat) (v70 : Int) (x : (Unit) ⊕ ((List (List Nat)) × (List Nat))) : Out := (match x with | .inl x => (.ret, [tp,tp,tp,tp,tp,tp,.nilslc,.lit false,tp,tp,tp,tp,tp,tp,tp,tp,tp,tp,tp,tp,tp,tp,tp,tp,tp,tp,tp,tp,tp,tp,tp,tp,tp,tp,tp,tp,tp,tp,tp,tp,tp,tp,tp], [.nest [.sl (.f32 v63) v64, .sl (.f32 v65) v66, .sl (.f32 v67) v68] false 0]) | .inr x => (.normal, [tp,tp,tp,tp,tp,tp,tp,tp,.nest 1 0 1 ((x.2).length),tp,tp,tp,tp,tp,tp,tp,tp,tp,tp,tp,tp,tp,tp,tp,tp,tp,tp,tp,tp,tp,tp,tp,tp,tp,tp,tp,tp,tp,tp,tp,tp,tp,tp], [.nest [.sl (.f32 v63) v64, .sl (.f32 v65) v66, .sl (.f32 v67) v68] false 0, .nest [.sl (.f32 x.1) x.2] false 0]))
def spec_ThirdsShared_nst_l0_kill : List Nat := KL true [0,2,6,1,13,2,19]
def spec_ThirdsShared_nst_l0_nx : Exit → List Nat
  | .exit 0 => KL true [8,1,34]
  | .ret => KL true [6,2,35]
  | _ => []
noncomputable def spec_ThirdsShared_nst_LO (v63 : List (List Nat)) (v64 : List Nat) (v65 : List (List Nat)) (v66 : List Nat) (v67 : List (List Nat)) (v68 : List Nat) (v69 : List Nat) (v70 : Int) : LOr := fun id e L =>
  match id with
  | 0 => .need (normA 1 spec_ThirdsShared_nst_l0_kill e L = some (spec_ThirdsShared_nst_l0_E v63 v64 v65 v66 v67 v68 v69 v70 ((gI (vAt e 23)), (gPF L (vAt e 8) 0), (gX L (vAt e 8) 0)))) (.call (spec_ThirdsShared_nst_l0_g v63 v64 v65 v66 v67 v68 v69 ((gI (vAt e 23)), (gPF L (vAt e 8) 0), (gX L (vAt e 8) 0))) fun x => .sum x (fun b0 => .leaf (spec_ThirdsShared_nst_l0_X v63 v64 v65 v66 v67 v68 v69 v70 (.inl b0))) (fun c0 => .leaf (spec_ThirdsShared_nst_l0_X v63 v64 v65 v66 v67 v68 v69 v70 (.inr c0))))
  | _ => .fail
noncomputable def spec_ThirdsShared_nst_tab : List (FuncId × DFn × Bool) := [(80, spec_l00In_F, true), (115, spec_ThirdsSolve_F, true)]
theorem spec_ThirdsShared_nst_hO : OrcOk Try.prog (tabD spec_ThirdsShared_nst_tab) (tabM spec_ThirdsShared_nst_tab) := tabD_cons spec_l00In_Fok (tabD_cons spec_ThirdsSolve_Fok (tabD_nil _))
theorem spec_ThirdsShared_nst_l0_be (v63 : List (List Nat)) (v64 : List Nat) (v65 : List (List Nat)) (v66 : List Nat) (v67 : List (List Nat)) (v68 : List Nat) (v69 : List Nat) (v70 : Int) (s : Int × (List (List Nat)) × (List Nat)) : bodyT TT (tabD spec_ThirdsShared_nst_tab) (tabM spec_ThirdsShared_nst_tab) (spec_ThirdsShared_nst_LO v63 v64 v65 v66 v67 v68 v69 v70) 1 spec_ThirdsShared_nst_l0_kill spec_ThirdsShared_nst_l0_nx (bodyOf Try.f43 0) 0 (spec_ThirdsShared_nst_l0_E v63 v64 v65 v66 v67 v68 v69 v70 s) = (spec_ThirdsShared_nst_l0_T v63 v64 v65 v66 v67 v68 v69 s).bind fun y => .leaf (outS (spec_ThirdsShared_nst_l0_E v63 v64 v65 v66 v67 v68 v69 v70) (spec_ThirdsShared_nst_l0_X v63 v64 v65 v66 v67 v68 v69 v70) y) := by kernel_rfl
theorem spec_ThirdsShared_nst_l0_ok (v63 : List (List Nat)) (v64 : List Nat) (v65 : List (List Nat)) (v66 : List Nat) (v67 : List (List Nat)) (v68 : List Nat) (v69 : List Nat) (v70 : Int) : LSound Try.prog 1 (spec_ThirdsShared_nst_LO v63 v64 v65 v66 v67 v68 v69 v70) 0 (bodyOf Try.f43 0) := by
  intro e L out h
  exact lo_ok (E := spec_ThirdsShared_nst_l0_E v63 v64 v65 v66 v67 v68 v69 v70) (gT := spec_ThirdsShared_nst_l0_T v63 v64 v65 v66 v67 v68 v69) (X := spec_ThirdsShared_nst_l0_X v63 v64 v65 v66 v67 v68 v69 v70) (s0 := ((gI (vAt e 23)), (gPF L (vAt e 8) 0), (gX L (vAt e 8) 0))) tok spec_ThirdsShared_nst_hO mixed (LoopsOk_eq (l := []) (by kernel_rfl) trivial) (spec_ThirdsShared_nst_l0_be v63 v64 v65 v66 v67 v68 v69 v70) rfl (by intro x; (cases x with | inl b => rfl | inr x => exact rfl)) h
noncomputable def spec_ThirdsShared_nst_T (v63 : List (List Nat)) (v64 : List Nat) (v65 : List (List Nat)) (v66 : List Nat) (v67 : List (List Nat)) (v68 : List Nat) (v69 : List Nat) (v70 : Int) : Tree ((Unit) ⊕ ((List (List Nat)) × (List Nat))) :=
  (.br (decide ((8 : Int) < (((v64).length : Nat) : Int))) (
  .leaf (.inl ())
  ) (
  (.br (!(spec_l00In_v v70 (1 : Int) (8 : Int))) (
  .leaf (.inl ())
  ) (
  (.need (some (spec_ThirdsShared_nst_l0_E v63 v64 v65 v66 v67 v68 v69 v70 ((0 : Int), ([] : List (List Nat)), ([] : List Nat))) = some (spec_ThirdsShared_nst_l0_E v63 v64 v65 v66 v67 v68 v69 v70 ((0 : Int), ([] : List (List Nat)), ([] : List Nat)))) <|
  (.call (spec_ThirdsShared_nst_l0_g v63 v64 v65 v66 v67 v68 v69 ((0 : Int), ([] : List (List Nat)), ([] : List Nat))) fun v149 =>
  (.sum v149 (fun v150 =>
  .leaf (.inl ())
  ) (fun v151 =>
  .leaf (.inr (v151.1, v151.2))
  ))))
  ))
  ))

noncomputable def spec_ThirdsShared_nst_g (v63 : List (List Nat)) (v64 : List Nat) (v65 : List (List Nat)) (v66 : List Nat) (v67 : List (List Nat)) (v68 : List Nat) (v69 : List Nat) (v70 : Int) : Option ((Unit) ⊕ ((List (List Nat)) × (List Nat))) := (spec_ThirdsShared_nst_T v63 v64 v65 v66 v67 v68 v69 v70).run
def spec_ThirdsShared_nst_enc (v63 : List (List Nat)) (v64 : List Nat) (v65 : List (List Nat)) (v66 : List Nat) (v67 : List (List Nat)) (v68 : List Nat) (v69 : List Nat) (v70 : Int) (y : (Unit) ⊕ ((List (List Nat)) × (List Nat))) : Rs := (match y with | .inl y => (.tup [.nilslc, .lit false], [.nest [.sl (.f32 v63) v64, .sl (.f32 v65) v66, .sl (.f32 v67) v68] false 0]) | .inr y => (.tup [.nest 1 0 1 ((y.2).length), .lit true], [.nest [.sl (.f32 v63) v64, .sl (.f32 v65) v66, .sl (.f32 v67) v68] false 0, .nest [.sl (.f32 y.1) y.2] false 0]))
theorem spec_ThirdsShared_nst_den (v63 : List (List Nat)) (v64 : List Nat) (v65 : List (List Nat)) (v66 : List Nat) (v67 : List (List Nat)) (v68 : List Nat) (v69 : List Nat) (v70 : Int) : (den TT (tabD spec_ThirdsShared_nst_tab) (tabM spec_ThirdsShared_nst_tab) (spec_ThirdsShared_nst_LO v63 v64 v65 v66 v67 v68 v69 v70) (codeOf Try.f43) ([.nest 0 0 3 ((v64).length), .bslc (BR.root 1) (.f32 v69), .int .i64 v70] ++ List.replicate (Try.f43.ntmps - ([.nest 0 0 3 ((v64).length), .bslc (BR.root 1) (.f32 v69), .int .i64 v70] : List DV).length) .undef) [.nest [.sl (.f32 v63) v64, .sl (.f32 v65) v66, .sl (.f32 v67) v68] false 0]).bind (retD TT Try.f43.results.toList 1) = (spec_ThirdsShared_nst_T v63 v64 v65 v66 v67 v68 v69 v70).bind fun y => .leaf (spec_ThirdsShared_nst_enc v63 v64 v65 v66 v67 v68 v69 v70 y) := by kernel_rfl
theorem spec_ThirdsShared_nst_fn (v63 : List (List Nat)) (v64 : List Nat) (v65 : List (List Nat)) (v66 : List Nat) (v67 : List (List Nat)) (v68 : List Nat) (v69 : List Nat) (v70 : Int) (F : Fr) (h0 : St F [.nest [.sl (.f32 v63) v64, .sl (.f32 v65) v66, .sl (.f32 v67) v68] false 0] F.H0) (hA : DVs.Ok F [.nest [.sl (.f32 v63) v64, .sl (.f32 v65) v66, .sl (.f32 v67) v68] false 0] [.nest 0 0 3 ((v64).length), .bslc (BR.root 1) (.f32 v69), .int .i64 v70]) {y : (Unit) ⊕ ((List (List Nat)) × (List Nat))} (hy : spec_ThirdsShared_nst_g v63 v64 v65 v66 v67 v68 v69 v70 = some y) : ∃ F' H', Fwd 1 F F' [.nest [.sl (.f32 v63) v64, .sl (.f32 v65) v66, .sl (.f32 v67) v68] false 0] (spec_ThirdsShared_nst_enc v63 v64 v65 v66 v67 v68 v69 v70 y).2 ∧ FnOk Try.prog 43 (DVs.av F [.nest 0 0 3 ((v64).length), .bslc (BR.root 1) (.f32 v69), .int .i64 v70]) F.H0 ((spec_ThirdsShared_nst_enc v63 v64 v65 v66 v67 v68 v69 v70 y).1.av F') H' ∧ St F' (spec_ThirdsShared_nst_enc v63 v64 v65 v66 v67 v68 v69 v70 y).2 H' ∧ (spec_ThirdsShared_nst_enc v63 v64 v65 v66 v67 v68 v69 v70 y).1.Ok F' (spec_ThirdsShared_nst_enc v63 v64 v65 v66 v67 v68 v69 v70 y).2 :=
  fn_fin tok spec_ThirdsShared_nst_hO mixed Try.func43 Try.call43 (by kernel_rfl) (LoopsOk_eq (l := [(0, bodyOf Try.f43 0)]) (by kernel_rfl) ⟨spec_ThirdsShared_nst_l0_ok v63 v64 v65 v66 v67 v68 v69 v70, trivial⟩) (spec_ThirdsShared_nst_den v63 v64 v65 v66 v67 v68 v69 v70) hy h0 hA
noncomputable def spec_ThirdsShared_nst_F : DFn := fun args L =>
  match args with
  | [a1, a2, .int .i64 v70] =>
    optT (nestN L false 3 a1) fun qn0 =>
    (match qn0.2 with
    | [.sl (.f32 v63) v64, .sl (.f32 v65) v66, .sl (.f32 v67) v68] =>
    optT (rowF32 L a2) fun v69 =>
    (match sepB [qn0.1] [a2] with
    | true =>
    .call (spec_ThirdsShared_nst_g v63 v64 v65 v66 v67 v68 v69 v70) fun y => .sum y (fun y0 => .grd (decide ((v64).length = (v64).length)) (.leaf (.tup [.nilslc, .lit false], setB L [(qn0.1, .nest [.sl (.f32 v63) v64, .sl (.f32 v65) v66, .sl (.f32 v67) v68] false (verAt L qn0.1))] ++ []))) (fun z0 => .grd (decide ((v64).length = (v64).length)) (.leaf (.tup [.nest (L.length + 0) 0 1 ((z0.2).length), .lit true], setB L [(qn0.1, .nest [.sl (.f32 v63) v64, .sl (.f32 v65) v66, .sl (.f32 v67) v68] false (verAt L qn0.1))] ++ [.nest [.sl (.f32 z0.1) z0.2] false 0])))
    | false => .fail)
    | _ => .fail)
  | _ => .fail
theorem spec_ThirdsShared_nst_Fok : COk Try.prog 43 spec_ThirdsShared_nst_F false := by
  intro F L H args r L' hs ha hr
  unfold spec_ThirdsShared_nst_F at hr
  split at hr
  · rename_i a1 a2 v70
    obtain ⟨⟨jn0, cn0⟩, hn0, hr⟩ := optT_run hr
    simp only at hr
    split at hr
    · rename_i v63 v64 v65 v66 v67 v68
      obtain ⟨hne0, hnu0, hnl0, hnv0, hnm0, hno0⟩ := nestN_spec hs (DVs.okAt ha 0 rfl) hn0
      obtain ⟨v69, hv69, hr⟩ := optT_run hr
      split at hr
      · rename_i hsep
        obtain ⟨hnd, hsepv⟩ := sepB_spec hsep
        simp only [Tree.run] at hr
        obtain ⟨y, hy, hr⟩ := Option.bind_eq_some_iff.1 hr
        cases y with
        | inl y =>
          try simp only [Tree.run] at hr
          obtain ⟨hl0, hr⟩ := ite_run hr
          simp only [Option.some.injEq, Prod.mk.injEq] at hr
          obtain ⟨rfl, rfl⟩ := hr
          exact mutG_ok hs [a1, a2] ⟨(DVs.okAt ha 0 rfl), (DVs.okAt ha 1 rfl), trivial⟩ [a1, a2, .int .i64 v70] [.nest 0 0 3 ((v64).length), .bslc (BR.root 1) (.f32 v69), .int .i64 v70] [jn0] [verAt L jn0] [.nest [.sl (.f32 v63) v64, .sl (.f32 v65) v66, .sl (.f32 v67) v68] false 0] [.nest [.sl (.f32 v63) v64, .sl (.f32 v65) v66, .sl (.f32 v67) v68] false 0] [.nest [.sl (.f32 v63) v64, .sl (.f32 v65) v66, .sl (.f32 v67) v68] false (verAt L jn0)] [] hnd rfl rfl (fun j hj => by
              simp at hj
              subst hj; exact ex_nest hne0) (fun j hj => by
              simp at hj
              subst hj; exact reach_refs (by simp [DVs.refs, DV.refs, hnu0])) (fun F' h0 hρ ab hpl hS => by
              have ab0 := ab 0 _ rfl;
              have hnx0 : a1.av F = (.nest 0 0 3 ((v64).length) : DV).av F' := nestN_av (hpl 0 _ rfl) hnv0
              refine ⟨fun i j b' h1 h2 => ?_, by simp [DBlk.blk, DVs.av, DV.av, BR.av, hρ, Row.len, hnx0, ab0, ab0], fun hst => spec_ThirdsShared_nst_fn v63 v64 v65 v66 v67 v68 v69 v70 F' hst ⟨(nest_ok0 (i := 0) rfl rfl hnm0), bslcM hS (by rw [hρ]; rfl) (hsepv a2 (by simp)) (DVs.okAt ha 1 rfl) (rowF32_or hv69), trivial, trivial⟩ hy⟩
              rcases i with _ | i
              · simp at h1 h2; subst h1; subst h2; obtain ⟨ver_, hv_⟩ := hne0; exact ⟨_, hv_, .nest _ _ _ _, nest_blk (hpl 0 _ rfl) _ _ _ _, hno0 _ _⟩
              · simp at h1) rfl rfl (fun i j b b' h1 h2 h3 => by
              rcases i with _ | i
              · simp at h1; subst h1; cases h3; exact growN hne0 (by first | exact of_decide_eq_true hl0 | rfl) rfl h2
              · simp at h1)
        | inr y =>
          try simp only [Tree.run] at hr
          obtain ⟨hl0, hr⟩ := ite_run hr
          simp only [Option.some.injEq, Prod.mk.injEq] at hr
          obtain ⟨rfl, rfl⟩ := hr
          exact mutG_ok hs [a1, a2] ⟨(DVs.okAt ha 0 rfl), (DVs.okAt ha 1 rfl), trivial⟩ [a1, a2, .int .i64 v70] [.nest 0 0 3 ((v64).length), .bslc (BR.root 1) (.f32 v69), .int .i64 v70] [jn0] [verAt L jn0] [.nest [.sl (.f32 v63) v64, .sl (.f32 v65) v66, .sl (.f32 v67) v68] false 0] [.nest [.sl (.f32 v63) v64, .sl (.f32 v65) v66, .sl (.f32 v67) v68] false 0, .nest [.sl (.f32 y.1) y.2] false 0] [.nest [.sl (.f32 v63) v64, .sl (.f32 v65) v66, .sl (.f32 v67) v68] false (verAt L jn0)] [.nest [.sl (.f32 y.1) y.2] false 0] hnd rfl rfl (fun j hj => by
              simp at hj
              subst hj; exact ex_nest hne0) (fun j hj => by
              simp at hj
              subst hj; exact reach_refs (by simp [DVs.refs, DV.refs, hnu0])) (fun F' h0 hρ ab hpl hS => by
              have ab0 := ab 0 _ rfl;
              have hnx0 : a1.av F = (.nest 0 0 3 ((v64).length) : DV).av F' := nestN_av (hpl 0 _ rfl) hnv0
              refine ⟨fun i j b' h1 h2 => ?_, by simp [DBlk.blk, DVs.av, DV.av, BR.av, hρ, Row.len, hnx0, ab0, ab0], fun hst => spec_ThirdsShared_nst_fn v63 v64 v65 v66 v67 v68 v69 v70 F' hst ⟨(nest_ok0 (i := 0) rfl rfl hnm0), bslcM hS (by rw [hρ]; rfl) (hsepv a2 (by simp)) (DVs.okAt ha 1 rfl) (rowF32_or hv69), trivial, trivial⟩ hy⟩
              rcases i with _ | i
              · simp at h1 h2; subst h1; subst h2; obtain ⟨ver_, hv_⟩ := hne0; exact ⟨_, hv_, .nest _ _ _ _, nest_blk (hpl 0 _ rfl) _ _ _ _, hno0 _ _⟩
              · simp at h1) rfl rfl (fun i j b b' h1 h2 h3 => by
              rcases i with _ | i
              · simp at h1; subst h1; cases h3; exact growN hne0 (by first | exact of_decide_eq_true hl0 | rfl) rfl h2
              · simp at h1)
      · cases hr
    · cases hr
  · cases hr
end Go.Proofs.Ytimlecagkbbnpaa.AM
